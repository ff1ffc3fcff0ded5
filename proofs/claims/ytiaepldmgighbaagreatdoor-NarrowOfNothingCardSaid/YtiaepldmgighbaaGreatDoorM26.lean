import Derived.Test.YtiaepldmgighbaaGreatDoorM22
namespace Go.Proofs.YtiaepldmgighbaaGreatDoor
open Go.RowKit
set_option linter.unusedSimpArgs false
def basicT (k : Int) : Ty := .mk k 0 ⟨#[]⟩ [] [] []
mutual
theorem Ty.canon_canon : ∀ t : Ty, t.canon.canon = t.canon
 | .mk k n nm ps ns ms => by
   rw [Ty.canon, Ty.canon, Ty.canons_canons ps]
   split <;> rfl
theorem Ty.canons_canons : ∀ ps : List Ty, Ty.canons (Ty.canons ps) = Ty.canons ps
 | [] => rfl
 | p :: r => by rw [Ty.canons, Ty.canons, Ty.canon_canon p, Ty.canons_canons r]
end
theorem Ty.partT_canon (t : Ty) : t.canon.partT = t.partT := by unfold Ty.partT; rw [Ty.canon_kind, Ty.text_canon]
theorem Ty.canon_parts : ∀ t : Ty, t.canon.parts = t.parts.map Ty.canon
 | .mk k n nm ps ns ms => by rw [Ty.canon_mk]; rfl
theorem Ty.canon_valid {t : Ty} (h : t.Valid) : t.canon.Valid := by
 induction h with
 | @basic k h1 h2 => rw [Ty.canon_mk, if_neg (by omega)]; exact .basic h1 h2
 | num h1 h2 => rw [Ty.canon_mk, if_neg (by decide)]; exact .num h1 h2
 | str h => rw [Ty.canon_mk, if_neg (by decide)]; exact .str h
 | arr hp ih => rw [Ty.canon_mk, if_neg (by decide)]; exact .arr ih
 | obj xs hn hr hp ih =>
   rw [Ty.canon_mk, if_neg (by decide)]
   have h := Ty.Valid.obj (xs.map fun x => (x.1, x.2.1, x.2.2.canon)) (fun x hx => by
     obtain ⟨y, hy, rfl⟩ := List.mem_map.1 hx
     exact hn y hy) (by rw [List.map_map]; exact hr) (fun x hx => by
     obtain ⟨y, hy, rfl⟩ := List.mem_map.1 hx
     exact ih y hy)
   simpa [List.map_map, Function.comp_def] using h
 | fn xs r ho hp hr ih1 ih2 =>
   rw [Ty.canon_mk, if_neg (by decide)]
   have h := Ty.Valid.fn (xs.map fun x => (x.1.canon, x.2)) r.canon (by rw [List.map_map]; exact ho) (fun x hx => by
     obtain ⟨y, hy, rfl⟩ := List.mem_map.1 hx
     exact ih1 y hy) ih2
   simpa [List.map_map, Function.comp_def] using h
 | un ps hl hk hs hg hp ih =>
   rw [Ty.canon_mk, if_neg (by decide)]
   refine .un (ps.map Ty.canon) (by simpa using hl) (fun p hp' => ?_) ?_ (fun p hp' => ?_) (fun p hp' => ?_)
   · obtain ⟨q, hq, rfl⟩ := List.mem_map.1 hp'
     rw [Ty.canon_kind]
     exact hk q hq
   · rw [List.pairwise_map]
     refine hs.imp ?_
     intro a b h
     rw [Ty.partT_canon, Ty.partT_canon]
     exact h
   · obtain ⟨q, hq, rfl⟩ := List.mem_map.1 hp'
     obtain ⟨g1, g2, g3⟩ := hg q hq
     refine ⟨fun hk1 x hx => ?_, fun hk1 x hx => ?_, fun hk1 x hx hx9 e he => ?_⟩
     · obtain ⟨y, hy, rfl⟩ := List.mem_map.1 hx
       rw [Ty.canon_kind] at hk1 ⊢
       exact g1 hk1 y hy
     · obtain ⟨y, hy, rfl⟩ := List.mem_map.1 hx
       rw [Ty.canon_kind] at hk1 ⊢
       exact g2 hk1 y hy
     · obtain ⟨y, hy, rfl⟩ := List.mem_map.1 hx
       rw [Ty.canon_kind] at hk1 hx9
       rw [Ty.canon_parts] at he
       obtain ⟨e', he', rfl⟩ := List.mem_map.1 he
       rw [Ty.text_canon, Ty.text_canon]
       exact g3 hk1 y hy hx9 e' he'
   · obtain ⟨q, hq, rfl⟩ := List.mem_map.1 hp'
     exact ih q hq
 | ref ps h1 h2 hn hp ih =>
   rw [Ty.canon_mk, if_neg (by decide)]
   exact .ref _ h1 h2 hn fun p hp' => by
     obtain ⟨q, hq, rfl⟩ := List.mem_map.1 hp'
     exact ih q hq
 | @named k n nm hk h1 h2 hn => rw [Ty.canon_mk, if_neg (by omega)]; exact .named hk h1 h2 hn
 | case h1 h2 hn h1' h2' hn' =>
   rw [Ty.canon_mk, if_pos rfl]
   simp only [List.map_cons, List.map_nil, Ty.canon_mk]
   rw [if_neg (by decide)]
   exact .case (by decide) (by decide) hn h1' h2' hn'
theorem Ty.Valid.parts {t : Ty} (h : t.Valid) : ∀ p ∈ t.parts, p.Valid := by
 cases h with
 | basic => intro p hp; cases hp
 | num => intro p hp; cases hp
 | str => intro p hp; cases hp
 | arr hp => intro p h; cases List.mem_singleton.1 h; exact hp
 | obj xs hn hr hp => intro p h; obtain ⟨x, hx, rfl⟩ := List.mem_map.1 h; exact hp x hx
 | fn xs r ho hp hr =>
   intro p h
   rcases List.mem_append.1 h with h | h
   · obtain ⟨x, hx, rfl⟩ := List.mem_map.1 h; exact hp x hx
   · cases List.mem_singleton.1 h; exact hr
 | un ps hl hk hs hg hp => exact hp
 | ref ps h1 h2 hn hp => exact hp
 | named => intro p hp; cases hp
 | case h1 h2 hn h1' h2' hn' => intro p h; cases List.mem_singleton.1 h; exact .named (.inr (.inl rfl)) h1' h2' hn'
theorem part_inj {p q : Ty} (hp : p.Valid) (hq : q.Valid) (h1 : p.kind ≠ 16) (h2 : q.kind ≠ 16) (h : p.partT = q.partT) : p.canon = q.canon := by
 obtain ⟨b, R, e1, e2⟩ := part_end (reads (p.nodes + q.nodes)) hp h1 (by omega) (s := []) trivial rfl
 obtain ⟨b', R', e3, e4⟩ := part_end (reads (p.nodes + q.nodes)) hq h2 (by omega) (s := []) trivial rfl
 rw [h, e3] at e1
 injection e1 with e1
 injection e1 with e1 e5
 injection e5 with _ e5
 subst e1 e5
 rw [e2] at e4
 injection e4 with e4 _
structure CV (t : Ty) : Prop where
 valid : t.Valid
 same : t.canon = t
theorem CV.of {t : Ty} (h : t.Valid) : CV t.canon := ⟨Ty.canon_valid h, Ty.canon_canon t⟩
theorem map_same {f : Ty → Ty} : ∀ {l : List Ty}, l.map f = l → ∀ p ∈ l, f p = p
 | [], _, p, h => by cases h
 | x :: r, e, p, h => by
   simp only [List.map_cons, List.cons.injEq] at e
   rcases List.mem_cons.1 h with rfl | h
   · exact e.1
   · exact map_same e.2 p h
theorem CV.parts {t : Ty} (h : CV t) : ∀ p ∈ t.parts, CV p := fun p hp => ⟨h.valid.parts p hp, by
 have e := Ty.canon_parts t
 rw [h.same] at e
 exact map_same e.symm p hp⟩
theorem CV.inj {p q : Ty} (hp : CV p) (hq : CV q) (h1 : p.kind ≠ 16) (h2 : q.kind ≠ 16) (h : p.partT = q.partT) : p = q := by
 have := part_inj hp.valid hq.valid h1 h2 h
 rwa [hp.same, hq.same] at this
theorem CV.text_inj {p q : Ty} (hp : CV p) (hq : CV q) (h : p.text = q.text) : p = q := by
 have := Go.Proofs.YtiaepldmgighbaaGreatDoor.text_inj hp.valid hq.valid h
 rwa [hp.same, hq.same] at this
theorem CV.basic {k : Int} (h1 : 1 ≤ k) (h2 : k ≤ 10) : CV (basicT k) := ⟨.basic h1 h2, by unfold basicT; rw [Ty.canon_mk, if_neg (by omega)]; rfl⟩
def LtP (a b : Ty) : Prop := ltS a.partT b.partT = true
theorem LtP.asymm {a b : Ty} (h : LtP a b) (k : LtP b a) : False := by
 have := ltS_tot.asymm _ _ h
 unfold LtP at k
 rw [k] at this
 cases this
theorem LtP.trans {a b c : Ty} (h : LtP a b) (k : LtP b c) : LtP a c := by
 rcases ltS_tot.neg a.partT c.partT b.partT h with q | q
 · exact q
 · exact (LtP.asymm k q).elim
theorem sorted_ext : ∀ {a b : List Ty}, a.Pairwise LtP → b.Pairwise LtP → (∀ x, x ∈ a ↔ x ∈ b) → a = b
 | [], [], _, _, _ => rfl
 | [], y :: b, _, _, h => absurd ((h y).2 (by simp)) (by simp)
 | x :: a, [], _, _, h => absurd ((h x).1 (by simp)) (by simp)
 | x :: a, y :: b, ha, hb, h => by
   rw [List.pairwise_cons] at ha hb
   have hxy : x = y := by
     rcases List.mem_cons.1 ((h x).1 (by simp)) with e | e
     · exact e
     · rcases List.mem_cons.1 ((h y).2 (by simp)) with e2 | e2
       · exact e2.symm
       · exact (LtP.asymm (ha.1 y e2) (hb.1 x e)).elim
   subst hxy
   rw [sorted_ext ha.2 hb.2 fun z => ⟨fun hz => ?_, fun hz => ?_⟩]
   · rcases List.mem_cons.1 ((h z).1 (by simp [hz])) with e | e
     · subst e; exact (LtP.asymm (ha.1 z hz) (ha.1 z hz)).elim
     · exact e
   · rcases List.mem_cons.1 ((h z).2 (by simp [hz])) with e | e
     · subst e; exact (LtP.asymm (hb.1 z hz) (hb.1 z hz)).elim
     · exact e
def insU (x : Ty) : List Ty → List Ty
 | [] => [x]
 | y :: r => if ltS x.partT y.partT = true then x :: y :: r else if ltS y.partT x.partT = true then y :: insU x r else y :: r
def sortU (l : List Ty) : List Ty := l.foldr insU []
theorem insU_sub (x : Ty) : ∀ (l : List Ty) (z : Ty), z ∈ insU x l → z = x ∨ z ∈ l
 | [], z, h => by simp [insU] at h; exact .inl h
 | y :: r, z, h => by
   unfold insU at h
   split at h
   · rcases List.mem_cons.1 h with e | e
     · exact .inl e
     · exact .inr e
   · split at h
     · rcases List.mem_cons.1 h with e | e
       · exact .inr (by simp [e])
       · rcases insU_sub x r z e with e | e
         · exact .inl e
         · exact .inr (by simp [e])
     · exact .inr h
theorem insU_old (x : Ty) : ∀ (l : List Ty) (z : Ty), z ∈ l → z ∈ insU x l
 | [], z, h => by cases h
 | y :: r, z, h => by
   unfold insU
   split
   · exact List.mem_cons_of_mem _ h
   · split
     · rcases List.mem_cons.1 h with e | e
       · simp [e]
       · exact List.mem_cons_of_mem _ (insU_old x r z e)
     · exact h
theorem insU_new (x : Ty) : ∀ (l : List Ty), (∀ y ∈ l, y.partT = x.partT → y = x) → x ∈ insU x l
 | [], _ => by simp [insU]
 | y :: r, h => by
   unfold insU
   split
   · simp
   · rename_i h1
     split
     · exact List.mem_cons_of_mem _ (insU_new x r fun z hz => h z (by simp [hz]))
     · rename_i h2
       have := h y (by simp) (ltS_tot.tri _ _ (by simpa using h2) (by simpa using h1))
       simp [this]
theorem insU_sorted (x : Ty) : ∀ (l : List Ty), l.Pairwise LtP → (insU x l).Pairwise LtP
 | [], _ => by simp [insU]
 | y :: r, h => by
   have h' := h
   rw [List.pairwise_cons] at h'
   unfold insU
   split
   · rename_i h1
     rw [List.pairwise_cons]
     refine ⟨fun z hz => ?_, h⟩
     rcases List.mem_cons.1 hz with e | e
     · subst e; exact h1
     · exact LtP.trans h1 (h'.1 z e)
   · split
     · rename_i h2
       rw [List.pairwise_cons]
       refine ⟨fun z hz => ?_, insU_sorted x r h'.2⟩
       rcases insU_sub x r z hz with e | e
       · subst e; exact h2
       · exact h'.1 z e
     · exact h
theorem sortU_sorted : ∀ l : List Ty, (sortU l).Pairwise LtP
 | [] => List.Pairwise.nil
 | x :: r => insU_sorted x _ (sortU_sorted r)
def KeyInj (l : List Ty) : Prop := ∀ x ∈ l, ∀ y ∈ l, x.partT = y.partT → x = y
theorem sortU_mem : ∀ (l : List Ty), KeyInj l → ∀ z, z ∈ sortU l ↔ z ∈ l
 | [], _, z => Iff.rfl
 | x :: r, h, z => by
   have ih := sortU_mem r fun a ha b hb => h a (by simp [ha]) b (by simp [hb])
   constructor
   · intro hz
     rcases insU_sub x _ z hz with e | e
     · simp [e]
     · exact List.mem_cons_of_mem _ ((ih z).1 e)
   · intro hz
     rcases List.mem_cons.1 hz with e | e
     · subst e
       exact insU_new z _ fun y hy e => h y (List.mem_cons_of_mem _ ((ih y).1 hy)) z (by simp) e
     · exact insU_old x _ z ((ih z).2 e)
def Ty.flat (t : Ty) : List Ty := if t.kind = 16 then t.parts else [t]
def Goes (F : List Ty) (x : Ty) : Prop := x.kind = 3 ∨ (x.kind = 11 ∧ ∃ q ∈ F, q.kind = 7) ∨ (x.kind = 12 ∧ ∃ q ∈ F, q.kind = 8) ∨ (x.kind = 20 ∧ ∃ q ∈ F, q.kind = 19 ∧ ∃ e ∈ x.parts, q.text = e.text)
noncomputable def goesB (F : List Ty) (x : Ty) : Bool := by classical exact decide (Goes F x)
theorem goesB_iff (F : List Ty) (x : Ty) : goesB F x = true ↔ Goes F x := by unfold goesB; simp
noncomputable def restU (F : List Ty) : List Ty := F.filter fun x => !goesB F x
theorem restU_mem {F : List Ty} {x : Ty} : x ∈ restU F ↔ x ∈ F ∧ ¬ Goes F x := by
 unfold restU
 rw [List.mem_filter]
 cases h : goesB F x with
 | true => simp [(goesB_iff F x).1 h]
 | false =>
   have : ¬ Goes F x := fun q => by rw [(goesB_iff F x).2 q] at h; cases h
   simp [this]
def wrapU : List Ty → Ty
 | [] => basicT 3
 | [x] => x
 | x :: y :: r => .mk 16 0 ⟨#[]⟩ (x :: y :: r) [] []
noncomputable def unionF (F : List Ty) : Ty := by
 classical exact if ∃ x ∈ F, x.kind = 1 then basicT 1 else if ∃ x ∈ F, x.kind = 2 then basicT 2 else wrapU (sortU (restU F))
noncomputable def unionC (l : List Ty) : Ty := unionF (l.flatMap Ty.flat)
def Fl (F : List Ty) : Prop := ∀ x ∈ F, CV x ∧ x.kind ≠ 16
theorem Fl.key {F : List Ty} (h : Fl F) : KeyInj F := fun x hx y hy e => (h x hx).1.inj (h y hy).1 (h x hx).2 (h y hy).2 e
theorem CV.union {t : Ty} (h : CV t) (hk : t.kind = 16) : ∃ ps, t = .mk 16 0 ⟨#[]⟩ ps [] [] ∧ 2 ≤ ps.length ∧ (∀ p ∈ ps, CV p ∧ p.kind ≠ 16 ∧ p.kind ≠ 1 ∧ p.kind ≠ 2 ∧ p.kind ≠ 3) ∧ ps.Pairwise LtP ∧ ∀ p ∈ ps, ¬ Goes ps p := by
 have hv := h.valid
 have hpp := h.parts
 cases hv with
 | un ps hl hk' hs hg hp =>
   refine ⟨ps, rfl, hl, fun p hp' => ⟨hpp p hp', hk' p hp'⟩, hs, fun p hp' hgo => ?_⟩
   obtain ⟨g1, g2, g3⟩ := hg p hp'
   rcases hgo with h | ⟨h, q, hq, hq2⟩ | ⟨h, q, hq, hq2⟩ | ⟨h, q, hq, hq2, e, he, hte⟩
   · exact (hk' p hp').2.2.2 h
   · exact g1 h q hq hq2
   · exact g2 h q hq hq2
   · exact g3 h q hq hq2 e he hte
 | basic h1 h2 => exact absurd hk (by simp only [Ty.kind]; omega)
 | num => exact absurd hk (by simp only [Ty.kind]; omega)
 | str => exact absurd hk (by simp only [Ty.kind]; omega)
 | arr => exact absurd hk (by simp only [Ty.kind]; omega)
 | obj => exact absurd hk (by simp only [Ty.kind]; omega)
 | fn => exact absurd hk (by simp only [Ty.kind]; omega)
 | ref => exact absurd hk (by simp only [Ty.kind]; omega)
 | named hk' => exact absurd hk (by simp only [Ty.kind]; omega)
 | case => exact absurd hk (by simp only [Ty.kind]; omega)
theorem CV.flat {t : Ty} (h : CV t) : Fl t.flat := by
 unfold Ty.flat
 split
 · rename_i hk
   obtain ⟨ps, rfl, _, h2, _⟩ := h.union hk
   exact fun x hx => ⟨(h2 x hx).1, (h2 x hx).2.1⟩
 · rename_i hk
   intro x hx
   cases List.mem_singleton.1 hx
   exact ⟨h, hk⟩
theorem Fl.of {l : List Ty} (h : ∀ t ∈ l, CV t) : Fl (l.flatMap Ty.flat) := fun x hx => by
 obtain ⟨t, ht, hx⟩ := List.mem_flatMap.1 hx
 exact (h t ht).flat x hx
theorem Goes.congr {F G : List Ty} (h : ∀ x, x ∈ F ↔ x ∈ G) (x : Ty) : Goes F x ↔ Goes G x := by
 unfold Goes
 simp only [h]
theorem Goes.mono {F G : List Ty} (h : ∀ x ∈ F, x ∈ G) {x : Ty} (hg : Goes F x) : Goes G x := by
 rcases hg with hg | ⟨hg, q, hq, hr⟩ | ⟨hg, q, hq, hr⟩ | ⟨hg, q, hq, hr⟩
 · exact .inl hg
 · exact .inr (.inl ⟨hg, q, h q hq, hr⟩)
 · exact .inr (.inr (.inl ⟨hg, q, h q hq, hr⟩))
 · exact .inr (.inr (.inr ⟨hg, q, h q hq, hr⟩))
theorem Goes.rest {F : List Ty} {x : Ty} (h : Goes F x) : Goes (restU F) x := by
 have key : ∀ q ∈ F, q.kind = 7 ∨ q.kind = 8 ∨ q.kind = 19 → q ∈ restU F := fun q hq hk => restU_mem.2 ⟨hq, fun hg => by
   rcases hg with hg | ⟨hg, _⟩ | ⟨hg, _⟩ | ⟨hg, _⟩ <;> omega⟩
 rcases h with hg | ⟨hg, q, hq, hr⟩ | ⟨hg, q, hq, hr⟩ | ⟨hg, q, hq, hr, he⟩
 · exact .inl hg
 · exact .inr (.inl ⟨hg, q, key q hq (.inl hr), hr⟩)
 · exact .inr (.inr (.inl ⟨hg, q, key q hq (.inr (.inl hr)), hr⟩))
 · exact .inr (.inr (.inr ⟨hg, q, key q hq (.inr (.inr hr)), hr, he⟩))
theorem wrapU_flat {l : List Ty} (h : ∀ x ∈ l, x.kind ≠ 16) : (wrapU l).flat = if l = [] then [basicT 3] else l := by
 match l, h with
 | [], _ => rfl
 | [x], h =>
   show (if x.kind = 16 then x.parts else [x]) = _
   rw [if_neg (h x (by simp))]
   simp
 | x :: y :: r, _ => simp [wrapU, Ty.flat, Ty.kind, Ty.parts]
theorem Ty.Valid.low {t : Ty} (h : t.Valid) (hk : t.kind ≤ 10) : t = basicT t.kind := by
 cases h with
 | basic h1 h2 => rfl
 | un => exact absurd hk (by simp only [Ty.kind]; omega)
 | num => exact absurd hk (by simp only [Ty.kind]; omega)
 | str => exact absurd hk (by simp only [Ty.kind]; omega)
 | arr => exact absurd hk (by simp only [Ty.kind]; omega)
 | obj => exact absurd hk (by simp only [Ty.kind]; omega)
 | fn => exact absurd hk (by simp only [Ty.kind]; omega)
 | ref => exact absurd hk (by simp only [Ty.kind]; omega)
 | named hk' => exact absurd hk (by simp only [Ty.kind]; omega)
 | case => exact absurd hk (by simp only [Ty.kind]; omega)
theorem unionF_cases (F : List Ty) : ((∃ x ∈ F, x.kind = 1) ∧ unionF F = basicT 1) ∨ ((¬ ∃ x ∈ F, x.kind = 1) ∧ (∃ x ∈ F, x.kind = 2) ∧ unionF F = basicT 2) ∨ ((¬ ∃ x ∈ F, x.kind = 1) ∧ (¬ ∃ x ∈ F, x.kind = 2) ∧ unionF F = wrapU (sortU (restU F))) := by
 classical
 unfold unionF
 by_cases h1 : ∃ x ∈ F, x.kind = 1
 · exact .inl ⟨h1, by rw [if_pos h1]⟩
 · by_cases h2 : ∃ x ∈ F, x.kind = 2
   · exact .inr (.inl ⟨h1, h2, by rw [if_neg h1, if_pos h2]⟩)
   · exact .inr (.inr ⟨h1, h2, by rw [if_neg h1, if_neg h2]⟩)
theorem wrapU_cases (l : List Ty) : (l = [] ∧ wrapU l = basicT 3) ∨ (∃ x, l = [x] ∧ wrapU l = x) ∨ (2 ≤ l.length ∧ wrapU l = .mk 16 0 ⟨#[]⟩ l [] []) := by
 match l with
 | [] => exact .inl ⟨rfl, rfl⟩
 | [x] => exact .inr (.inl ⟨x, rfl, rfl⟩)
 | x :: y :: r => exact .inr (.inr ⟨by simp, rfl⟩)
theorem unionF_cv {F : List Ty} (hF : Fl F) : CV (unionF F) := by
 rcases unionF_cases F with ⟨_, e⟩ | ⟨_, _, e⟩ | ⟨h1, h2, e⟩
 · rw [e]; exact CV.basic (by decide) (by decide)
 · rw [e]; exact CV.basic (by decide) (by decide)
 · rw [e]
   have hkey : KeyInj (restU F) := fun a ha b hb => hF.key a (restU_mem.1 ha).1 b (restU_mem.1 hb).1
   have hsm := sortU_mem _ hkey
   have hin : ∀ x ∈ sortU (restU F), x ∈ F ∧ ¬ Goes F x := fun x hx => restU_mem.1 ((hsm x).1 hx)
   rcases wrapU_cases (sortU (restU F)) with ⟨_, e⟩ | ⟨x, hl, e⟩ | ⟨hl, e⟩
   · rw [e]; exact CV.basic (by decide) (by decide)
   · rw [e]; exact (hF x (hin x (by rw [hl]; simp)).1).1
   · rw [e]
     refine ⟨.un _ hl (fun p hp => ⟨(hF p (hin p hp).1).2, fun q => h1 ⟨p, (hin p hp).1, q⟩, fun q => h2 ⟨p, (hin p hp).1, q⟩, fun q => (hin p hp).2 (.inl q)⟩) (sortU_sorted _) (fun p hp => ⟨fun hk q hq hq7 => (hin p hp).2 (.inr (.inl ⟨hk, q, (hin q hq).1, hq7⟩)), fun hk q hq hq7 => (hin p hp).2 (.inr (.inr (.inl ⟨hk, q, (hin q hq).1, hq7⟩))), fun hk q hq hq9 e he ht => (hin p hp).2 (.inr (.inr (.inr ⟨hk, q, (hin q hq).1, hq9, e, he, ht⟩)))⟩) (fun p hp => (hF p (hin p hp).1).1.valid), ?_⟩
     rw [Ty.canon_mk, if_neg (by decide)]
     congr 1
     have : ∀ l : List Ty, (∀ p ∈ l, p.canon = p) → l.map Ty.canon = l := fun l h => by
       have := List.map_congr_left (g := id) h
       rw [this, List.map_id]
     exact this _ fun p hp => (hF p (hin p hp).1).1.same
theorem unionC_cv {l : List Ty} (h : ∀ t ∈ l, CV t) : CV (unionC l) := unionF_cv (Fl.of h)
theorem unionF_self {t : Ty} (h : CV t) (hk : t.kind = 16) : unionF t.parts = t := by
 obtain ⟨ps, rfl, hl, hp, hs, hg⟩ := h.union hk
 have hF : Fl ps := fun x hx => ⟨(hp x hx).1, (hp x hx).2.1⟩
 have er : ∀ x, x ∈ restU ps ↔ x ∈ ps := fun x => by
   rw [restU_mem]
   exact ⟨fun q => q.1, fun q => ⟨q, hg x q⟩⟩
 show unionF ps = _
 rcases unionF_cases ps with ⟨⟨x, hx, hx1⟩, _⟩ | ⟨_, ⟨x, hx, hx1⟩, _⟩ | ⟨_, _, e⟩
 · exact absurd hx1 (hp x hx).2.2.1
 · exact absurd hx1 (hp x hx).2.2.2.1
 · have es : sortU (restU ps) = ps := by
     refine sorted_ext (sortU_sorted _) hs fun x => ?_
     rw [sortU_mem _ (fun a ha b hb => hF.key a (restU_mem.1 ha).1 b (restU_mem.1 hb).1)]
     exact er x
   rw [e, es]
   rcases wrapU_cases ps with ⟨e, _⟩ | ⟨x, e, _⟩ | ⟨_, e⟩
   · rw [e] at hl; simp at hl
   · rw [e] at hl; simp at hl
   · exact e
theorem flat_self {F : List Ty} (h : ∀ x ∈ F, x.kind ≠ 16) : F.flatMap Ty.flat = F := by
 induction F with
 | nil => rfl
 | cons x r ih =>
   rw [List.flatMap_cons, ih fun y hy => h y (by simp [hy])]
   unfold Ty.flat
   rw [if_neg (h x (by simp))]
   rfl
theorem unionC_self {t : Ty} (h : CV t) (hk : t.kind = 16) : unionC t.parts = t := by
 have := unionF_self h hk
 obtain ⟨ps, rfl, hl, hp, hs, hg⟩ := h.union hk
 unfold unionC
 rw [flat_self (F := (Ty.mk 16 0 ⟨#[]⟩ ps [] []).parts) fun x hx => (hp x hx).2.1]
 exact this
noncomputable def boolT : Ty := unionC [basicT 10, basicT 9]
mutual
noncomputable def widenC : Ty → Ty
 | .mk k n nm ps ns ms => if k = 11 then basicT 7 else if k = 12 then basicT 8 else if k = 9 ∨ k = 10 then boolT else if k = 20 then ps.headD (basicT 3) else if k = 16 then unionC (widenL ps) else if k = 13 ∨ k = 14 then .mk k n nm (widenL ps) ns ms else .mk k n nm ps ns ms
noncomputable def widenL : List Ty → List Ty
 | [] => []
 | p :: r => widenC p :: widenL r
end
theorem widen_id {k : Int} (h : k ≠ 9 ∧ k ≠ 10 ∧ k ≠ 11 ∧ k ≠ 12 ∧ k ≠ 13 ∧ k ≠ 14 ∧ k ≠ 16 ∧ k ≠ 20) (n : Int) (nm : ByteArray) (ps : List Ty) (ns : List ByteArray) (ms : List Bool) : widenC (.mk k n nm ps ns ms) = .mk k n nm ps ns ms := by
 rw [widenC, if_neg (by omega), if_neg (by omega), if_neg (by omega), if_neg (by omega), if_neg (by omega), if_neg (by omega)]
abbrev falseTrue : Ty := .mk 16 0 ⟨#[]⟩ [basicT 10, basicT 9] [] []
theorem falseTrue_cv : CV falseTrue := by
 refine ⟨.un _ (by simp) (fun p hp => ?_) ?_ (fun p hp => ?_) (fun p hp => ?_), ?_⟩
 · simp only [List.mem_cons, List.not_mem_nil, or_false] at hp
   rcases hp with rfl | rfl <;> decide
 · have h : ltS (basicT 10).partT (basicT 9).partT = true := by
     have e1 : (basicT 10).partT = wordS 10 := by
       unfold Ty.partT basicT partS roundS
       rw [tx_basic (by decide) (by decide)]
       rfl
     have e2 : (basicT 9).partT = wordS 9 := by
       unfold Ty.partT basicT partS roundS
       rw [tx_basic (by decide) (by decide)]
       rfl
     rw [e1, e2]
     decide +kernel
   simp [h]
 · simp only [List.mem_cons, List.not_mem_nil, or_false] at hp
   refine ⟨fun h => ?_, fun h => ?_, fun h => ?_⟩ <;> rcases hp with rfl | rfl <;> exact absurd h (by decide)
 · simp only [List.mem_cons, List.not_mem_nil, or_false] at hp
   rcases hp with rfl | rfl
   · exact .basic (by decide) (by decide)
   · exact .basic (by decide) (by decide)
 · rw [Ty.canon_mk, if_neg (by decide)]
   simp only [List.map_cons, List.map_nil, basicT]
   rw [Ty.canon_mk, Ty.canon_mk, if_neg (by decide), if_neg (by decide)]
   rfl
theorem boolT_eq : boolT = falseTrue := unionC_self falseTrue_cv rfl
theorem boolT_flat : boolT.flat = [basicT 10, basicT 9] := by rw [boolT_eq]; rfl
def Wid (t : Ty) : Prop := ∀ y ∈ t.flat, (widenC y = y ∧ y ≠ basicT 9 ∧ y ≠ basicT 10) ∨ ((y = basicT 9 ∨ y = basicT 10) ∧ basicT 9 ∈ t.flat ∧ basicT 10 ∈ t.flat)
theorem widen_basic {k : Int} (h1 : 1 ≤ k) (h2 : k ≤ 8) : widenC (basicT k) = basicT k ∧ basicT k ≠ basicT 9 ∧ basicT k ≠ basicT 10 := by
 refine ⟨widen_id (by omega) _ _ _ _ _, fun e => ?_, fun e => ?_⟩
 · have := congrArg Ty.kind e
   simp only [basicT, Ty.kind] at this
   omega
 · have := congrArg Ty.kind e
   simp only [basicT, Ty.kind] at this
   omega
theorem Wid.one {t : Ty} (hk : t.kind ≠ 16) (h : widenC t = t) (h9 : t.kind ≠ 9) (h10 : t.kind ≠ 10) : Wid t := fun y hy => by
 unfold Ty.flat at hy
 rw [if_neg hk] at hy
 cases List.mem_singleton.1 hy
 exact .inl ⟨h, fun e => h9 (by rw [e]; rfl), fun e => h10 (by rw [e]; rfl)⟩
theorem Wid.basic {k : Int} (h1 : 1 ≤ k) (h2 : k ≤ 8) : Wid (basicT k) := Wid.one (by simp only [basicT, Ty.kind]; omega) (widen_basic h1 h2).1 (by simp only [basicT, Ty.kind]; omega) (by simp only [basicT, Ty.kind]; omega)
theorem Wid.bool : Wid boolT := fun y hy => by
 rw [boolT_flat] at hy ⊢
 simp only [List.mem_cons, List.not_mem_nil, or_false] at hy
 refine .inr ⟨hy.symm, by simp, by simp⟩
theorem Wid.union {l : List Ty} (hl : ∀ t ∈ l, CV t ∧ Wid t) : Wid (unionC l) := by
 have hF := Fl.of fun t ht => (hl t ht).1
 unfold unionC
 generalize hFF : l.flatMap Ty.flat = F at hF
 have hW : ∀ y ∈ F, (widenC y = y ∧ y ≠ basicT 9 ∧ y ≠ basicT 10) ∨ ((y = basicT 9 ∨ y = basicT 10) ∧ basicT 9 ∈ F ∧ basicT 10 ∈ F) := fun y hy => by
   rw [← hFF] at hy
   obtain ⟨t, ht, hy⟩ := List.mem_flatMap.1 hy
   rcases (hl t ht).2 y hy with h | ⟨h, h1, h2⟩
   · exact .inl h
   · exact .inr ⟨h, by rw [← hFF]; exact List.mem_flatMap.2 ⟨t, ht, h1⟩, by rw [← hFF]; exact List.mem_flatMap.2 ⟨t, ht, h2⟩⟩
 rcases unionF_cases F with ⟨_, e⟩ | ⟨_, _, e⟩ | ⟨_, _, e⟩
 · rw [e]; exact Wid.basic (by decide) (by decide)
 · rw [e]; exact Wid.basic (by decide) (by decide)
 · rw [e]
   have hkey : KeyInj (restU F) := fun a ha b hb => hF.key a (restU_mem.1 ha).1 b (restU_mem.1 hb).1
   have hsm := sortU_mem _ hkey
   have hfl := wrapU_flat (l := sortU (restU F)) fun y hy => (hF y (restU_mem.1 ((hsm y).1 hy)).1).2
   intro y hy
   rw [hfl] at hy
   rw [hfl]
   split at hy
   · rename_i h0
     cases List.mem_singleton.1 hy
     exact .inl (widen_basic (by decide) (by decide))
   · rename_i h0
     rw [if_neg h0]
     have hyr := (hsm y).1 hy
     rcases hW y (restU_mem.1 hyr).1 with h | ⟨h, h1, h2⟩
     · exact .inl h
     · refine .inr ⟨h, (hsm _).2 (restU_mem.2 ⟨h1, fun hg => ?_⟩), (hsm _).2 (restU_mem.2 ⟨h2, fun hg => ?_⟩)⟩
       · rcases hg with hg | ⟨hg, _⟩ | ⟨hg, _⟩ | ⟨hg, _⟩ <;> exact absurd hg (by decide)
       · rcases hg with hg | ⟨hg, _⟩ | ⟨hg, _⟩ | ⟨hg, _⟩ <;> exact absurd hg (by decide)
theorem CV.arr {p : Ty} (h : CV p) : CV (.mk 13 0 ⟨#[]⟩ [p] [] []) := ⟨.arr h.valid, by rw [Ty.canon_mk, if_neg (by decide)]; simp [h.same]⟩
theorem map_fix {f : Ty → Ty} {l : List Ty} (h : ∀ p ∈ l, f p = p) : l.map f = l := by
 have := List.map_congr_left (g := id) h
 rw [this, List.map_id]
theorem CV.obj (xs : List (ByteArray × Bool × Ty)) (hn : ∀ x ∈ xs, NameOk x.1) (hr : Rising (xs.map (·.1))) (hp : ∀ x ∈ xs, CV x.2.2) : CV (.mk 14 0 ⟨#[]⟩ (xs.map (·.2.2)) (xs.map (·.1)) (xs.map (·.2.1))) := ⟨.obj xs hn hr fun x hx => (hp x hx).valid, by
  rw [Ty.canon_mk, if_neg (by decide), map_fix (f := Ty.canon) fun p hp' => by
    obtain ⟨x, hx, rfl⟩ := List.mem_map.1 hp'
    exact (hp x hx).same]⟩
mutual
def Ty.varsOk (P : Int → ByteArray → Prop) : Ty → Prop
 | .mk k n nm ps _ _ => (k = 18 → P n nm) ∧ Ty.varsOkL P ps
def Ty.varsOkL (P : Int → ByteArray → Prop) : List Ty → Prop
 | [] => True
 | p :: r => Ty.varsOk P p ∧ Ty.varsOkL P r
end
theorem Ty.varsOkL_mem {P : Int → ByteArray → Prop} : ∀ {ps : List Ty}, Ty.varsOkL P ps → ∀ p ∈ ps, Ty.varsOk P p
 | [], _, p, h => by cases h
 | q :: r, h, p, hp => by
   rw [Ty.varsOkL] at h
   rcases List.mem_cons.1 hp with rfl | hp
   · exact h.1
   · exact Ty.varsOkL_mem h.2 p hp
def idOf (ts : List Ty) (p : Ty) : Nat := (ts.map fun u => tb u.text).findIdx fun s => s == tb p.text
theorem idOf_at {ts : List Ty} {p : Ty} (h : ∃ u ∈ ts, u.text = p.text) : (ts.map Ty.text)[idOf ts p]? = some p.text := by
 obtain ⟨u, h1, h2⟩ := h
 have hx : ∃ x ∈ ts.map (fun u => tb u.text), (x == tb p.text) = true := ⟨tb u.text, List.mem_map.2 ⟨u, h1, rfl⟩, by rw [h2]; exact beq_self_eq_true _⟩
 have hl := List.findIdx_lt_length_of_exists hx
 have hg := List.findIdx_getElem (w := hl)
 rw [List.getElem_map] at hg
 rw [List.length_map] at hl
 refine List.getElem?_eq_some_iff.2 ⟨by rw [List.length_map]; exact hl, ?_⟩
 rw [List.getElem_map]
 exact tb_inj (eq_of_beq hg)
set_option linter.unusedVariables false
def smallP (x y : Ty) : Prop := (x.kind = 11 ∧ y.kind = 7) ∨ (x.kind = 12 ∧ y.kind = 8) ∨ (x.kind = 5 ∧ y.kind = 4) ∨ ((x.kind = 19 ∨ x.kind = 20) ∧ (y.kind = 7 ∨ y.kind = 8))
def part (x : Ty) (i : Nat) : Ty := x.parts.getD i (basicT 3)
def AskF (S : Ty → Ty → Prop) (x y : Ty) : Prop :=
 x.marks.count false ≤ y.marks.length ∧ (∀ i, i < min x.marks.length y.marks.length → S (part y i) (part x i)) ∧ ((part y y.marks.length).kind ≠ 4 → S (part x x.marks.length) (part y y.marks.length))
def AskO (S : Ty → Ty → Prop) (x y : Ty) : Prop :=
 ∀ (j : Nat) (nm : ByteArray) (m : Bool) (p : Ty), y.names[j]? = some nm → y.marks[j]? = some m → y.parts[j]? = some p →
   (nm ∉ x.names → m = true) ∧ ∀ (i : Nat) (m' : Bool) (p' : Ty), x.names[i]? = some nm → x.marks[i]? = some m' → x.parts[i]? = some p' → (m' = true → m = true) ∧ S p' p
open Classical in
def Ask (S : Ty → Ty → Prop) (x y : Ty) : Prop :=
 if x = y ∨ y.kind = 1 ∨ y.kind = 2 then True
 else if x.kind = 1 then y.kind ≠ 3
 else if x.kind = 3 then True
 else if x.kind = 2 then False
 else if x.kind = 16 then ∀ p ∈ x.parts, S p y
 else if y.kind = 16 then ∃ p ∈ y.parts, S x p
 else if smallP x y ∨ (x.kind = 20 ∧ part x 0 = y) then True
 else if x.kind = 13 ∧ y.kind = 13 then S (part x 0) (part y 0)
 else if x.kind = 15 ∧ y.kind = 15 then AskF S x y
 else if x.kind = 14 ∧ y.kind = 14 then AskO S x y
 else False
theorem AskF.mono {S T : Ty → Ty → Prop} (h : ∀ a b, S a b → T a b) {x y : Ty} (k : AskF S x y) : AskF T x y := ⟨k.1, fun i hi => h _ _ (k.2.1 i hi), fun e => h _ _ (k.2.2 e)⟩
theorem AskO.mono {S T : Ty → Ty → Prop} (h : ∀ a b, S a b → T a b) {x y : Ty} (k : AskO S x y) : AskO T x y := fun j nm m p h1 h2 h3 => ⟨(k j nm m p h1 h2 h3).1, fun i m' p' g1 g2 g3 => ⟨((k j nm m p h1 h2 h3).2 i m' p' g1 g2 g3).1, h _ _ ((k j nm m p h1 h2 h3).2 i m' p' g1 g2 g3).2⟩⟩
theorem Ask.mono {S T : Ty → Ty → Prop} (h : ∀ a b, S a b → T a b) {x y : Ty} (k : Ask S x y) : Ask T x y := by
 classical
 unfold Ask at k ⊢
 split
 · trivial
 rename_i h1
 rw [if_neg h1] at k
 split
 · rename_i h2; rw [if_pos h2] at k; exact k
 rename_i h2
 rw [if_neg h2] at k
 split
 · trivial
 rename_i h3
 rw [if_neg h3] at k
 split
 · rename_i h4; rw [if_pos h4] at k; exact k
 rename_i h4
 rw [if_neg h4] at k
 split
 · rename_i h5; rw [if_pos h5] at k; exact fun p hp => h _ _ (k p hp)
 rename_i h5
 rw [if_neg h5] at k
 split
 · rename_i h6; rw [if_pos h6] at k; obtain ⟨p, q1, q2⟩ := k; exact ⟨p, q1, h _ _ q2⟩
 rename_i h6
 rw [if_neg h6] at k
 split
 · trivial
 rename_i h7
 rw [if_neg h7] at k
 split
 · rename_i h8; rw [if_pos h8] at k; exact h _ _ k
 rename_i h8
 rw [if_neg h8] at k
 split
 · rename_i h9; rw [if_pos h9] at k; exact k.mono h
 rename_i h9
 rw [if_neg h9] at k
 split
 · rename_i h10; rw [if_pos h10] at k; exact k.mono h
 · rename_i h10; rw [if_neg h10] at k; exact k
def Sub (x y : Ty) : Prop := ∃ S : Ty → Ty → Prop, (∀ a b, S a b → Ask S a b) ∧ S x y
theorem Sub.out {x y : Ty} (h : Sub x y) : Ask Sub x y := by
 obtain ⟨S, h1, h2⟩ := h
 exact (h1 _ _ h2).mono fun a b hab => ⟨S, h1, hab⟩
theorem Sub.intro {x y : Ty} (h : Ask Sub x y) : Sub x y :=
 ⟨Ask Sub, fun a b hab => hab.mono fun c d hcd => hcd.out, h⟩
theorem sub_iff {x y : Ty} : Sub x y ↔ Ask Sub x y := ⟨Sub.out, Sub.intro⟩
theorem Sub.of {R : Ty → Ty → Prop} (h : ∀ a b, R a b → Ask (fun c d => R c d ∨ Sub c d) a b) {x y : Ty} (hxy : R x y) : Sub x y :=
 ⟨fun a b => R a b ∨ Sub a b, fun a b hab => hab.elim (h a b) fun k => k.out.mono fun _ _ q => .inr q, .inl hxy⟩
section
open Classical
variable {S : Ty → Ty → Prop} {x y : Ty}
theorem ask_self : Ask S x x := by unfold Ask; rw [if_pos (.inl rfl)]; trivial
theorem ask_top (h : y.kind = 1 ∨ y.kind = 2) : Ask S x y := by unfold Ask; rw [if_pos (.inr h)]; trivial
theorem ask_never (h : x.kind = 3) : Ask S x y := by
 unfold Ask
 split
 · trivial
 · have h1 : ¬ x.kind = 1 := by omega
   first
     | trivial
     | (rw [if_neg h1]; trivial)
     | (rw [if_neg h1, if_pos h]; trivial)
theorem ask_union (h1 : x ≠ y) (h2 : y.kind ≠ 1 ∧ y.kind ≠ 2) (hx : x.kind = 16) : Ask S x y ↔ ∀ p ∈ x.parts, S p y := by
 unfold Ask
 rw [if_neg (by rintro (e | e | e); exact h1 e; exact h2.1 e; exact h2.2 e), if_neg (by omega), if_neg (by omega), if_neg (by omega), if_pos hx]
theorem ask_any (h1 : x ≠ y) (h2 : y.kind ≠ 1 ∧ y.kind ≠ 2) (hx : x.kind ≠ 1 ∧ x.kind ≠ 2 ∧ x.kind ≠ 3 ∧ x.kind ≠ 16) (hy : y.kind = 16) : Ask S x y ↔ ∃ p ∈ y.parts, S x p := by
 unfold Ask
 rw [if_neg (by rintro (e | e | e); exact h1 e; exact h2.1 e; exact h2.2 e), if_neg hx.1, if_neg hx.2.2.1, if_neg hx.2.1, if_neg hx.2.2.2, if_pos hy]
def Rest (S : Ty → Ty → Prop) (x y : Ty) : Prop :=
 smallP x y ∨ (x.kind = 20 ∧ part x 0 = y) ∨ (x.kind = 13 ∧ y.kind = 13 ∧ S (part x 0) (part y 0)) ∨ (x.kind = 15 ∧ y.kind = 15 ∧ AskF S x y) ∨ (x.kind = 14 ∧ y.kind = 14 ∧ AskO S x y)
theorem not_small (h : (x.kind = 13 ∧ y.kind = 13) ∨ (x.kind = 15 ∧ y.kind = 15) ∨ (x.kind = 14 ∧ y.kind = 14)) : ¬ (smallP x y ∨ (x.kind = 20 ∧ part x 0 = y)) := by
 unfold smallP
 omega
theorem ask_rest (h1 : x ≠ y) (h2 : y.kind ≠ 1 ∧ y.kind ≠ 2) (hx : x.kind ≠ 1 ∧ x.kind ≠ 2 ∧ x.kind ≠ 3 ∧ x.kind ≠ 16) (hy : y.kind ≠ 16) : Ask S x y ↔ Rest S x y := by
 unfold Ask
 rw [if_neg (by rintro (e | e | e); exact h1 e; exact h2.1 e; exact h2.2 e), if_neg hx.1, if_neg hx.2.2.1, if_neg hx.2.1, if_neg hx.2.2.2, if_neg hy]
 unfold Rest
 constructor
 · intro h
   split at h
   · rename_i q; exact q.elim .inl fun q => .inr (.inl q)
   split at h
   · rename_i q; exact .inr (.inr (.inl ⟨q.1, q.2, h⟩))
   split at h
   · rename_i q; exact .inr (.inr (.inr (.inl ⟨q.1, q.2, h⟩)))
   split at h
   · rename_i q; exact .inr (.inr (.inr (.inr ⟨q.1, q.2, h⟩)))
   · exact h.elim
 · rintro (h | h | ⟨a, b, h⟩ | ⟨a, b, h⟩ | ⟨a, b, h⟩)
   · rw [if_pos (.inl h)]; trivial
   · rw [if_pos (.inr h)]; trivial
   · rw [if_neg (not_small (.inl ⟨a, b⟩)), if_pos ⟨a, b⟩]; exact h
   · rw [if_neg (not_small (.inr (.inl ⟨a, b⟩))), if_neg (by omega), if_pos ⟨a, b⟩]; exact h
   · rw [if_neg (not_small (.inr (.inr ⟨a, b⟩))), if_neg (by omega), if_neg (by omega), if_pos ⟨a, b⟩]; exact h
end
theorem Sub.refl (x : Ty) : Sub x x := .intro ask_self
theorem sub_arrays (p q : Ty) : Sub (.mk 13 0 ⟨#[]⟩ [p] [] []) (.mk 13 0 ⟨#[]⟩ [q] [] []) ↔ Sub p q := by
 by_cases e : p = q
 · subst e
   exact ⟨fun _ => Sub.refl _, fun _ => Sub.refl _⟩
 · rw [sub_iff, ask_rest (fun h => e (by injection h with _ _ _ h; injection h)) (by simp [Ty.kind]) (by simp [Ty.kind]) (by simp [Ty.kind])]
   constructor
   · rintro (h | ⟨h, _⟩ | ⟨_, _, h⟩ | ⟨h, _⟩ | ⟨h, _⟩)
     · unfold smallP at h
       simp only [Ty.kind] at h
       omega
     · simp [Ty.kind] at h
     · exact h
     · simp [Ty.kind] at h
     · simp [Ty.kind] at h
   · exact fun h => .inr (.inr (.inl ⟨rfl, rfl, h⟩))
inductive Free : Ty → Prop
 | mk {k n : Int} {nm : ByteArray} {ps : List Ty} {ns : List ByteArray} {ms : List Bool} (hk : k ≠ 1 ∧ k ≠ 4 ∧ k ≠ 17 ∧ k ≠ 19 ∧ k ≠ 20) (hm : ∀ m ∈ ms, m = false) (hp : ∀ p ∈ ps, Free p) : Free (.mk k n nm ps ns ms)
theorem Free.kind {x : Ty} (h : Free x) : x.kind ≠ 1 ∧ x.kind ≠ 4 ∧ x.kind ≠ 17 ∧ x.kind ≠ 19 ∧ x.kind ≠ 20 := by cases h with | mk hk => exact hk
theorem Free.marks {x : Ty} (h : Free x) : ∀ m ∈ x.marks, m = false := by cases h with | mk _ hm => exact hm
theorem Free.parts {x : Ty} (h : Free x) : ∀ p ∈ x.parts, Free p := by cases h with | mk _ _ hp => exact hp
theorem Free.count {x : Ty} (h : Free x) : x.marks.count false = x.marks.length := by
 rw [List.count_eq_length]
 exact fun b hb => (h.marks b hb).symm
theorem valid_ten {x : Ty} (h : x.Valid) (h1 : 1 ≤ x.kind) (h2 : x.kind ≤ 10) : x = basicT x.kind := by
 revert h1 h2
 cases h with
 | basic => intro _ _; rfl
 | named hk => intro h1 h2; simp only [Ty.kind] at h1 h2; omega
 | num => intro h1 h2; simp [Ty.kind] at h2
 | str => intro h1 h2; simp [Ty.kind] at h2
 | arr => intro h1 h2; simp [Ty.kind] at h2
 | obj => intro h1 h2; simp [Ty.kind] at h2
 | fn => intro h1 h2; simp [Ty.kind] at h2
 | un => intro h1 h2; simp [Ty.kind] at h2
 | ref => intro h1 h2; simp [Ty.kind] at h2
 | case => intro h1 h2; simp [Ty.kind] at h2
theorem part_in {x : Ty} {i : Nat} (h : i < x.parts.length) : part x i ∈ x.parts := by
 unfold part
 rw [List.getD_eq_getElem?_getD, List.getElem?_eq_getElem h, Option.getD_some]
 exact List.getElem_mem h
theorem arr_len {x : Ty} (h : x.Valid) (hk : x.kind = 13) : 0 < x.parts.length := by
 revert hk
 cases h with
 | arr => intro _; simp [Ty.parts]
 | basic => intro h; simp only [Ty.kind] at h; omega
 | named hk => intro h; simp only [Ty.kind] at h; omega
 | num => intro h; simp [Ty.kind] at h
 | str => intro h; simp [Ty.kind] at h
 | obj => intro h; simp [Ty.kind] at h
 | fn => intro h; simp [Ty.kind] at h
 | un => intro h; simp [Ty.kind] at h
 | ref => intro h; simp [Ty.kind] at h
 | case => intro h; simp [Ty.kind] at h
theorem fn_len {x : Ty} (h : x.Valid) (hk : x.kind = 15) : x.parts.length = x.marks.length + 1 := by
 revert hk
 cases h with
 | fn xs r => intro _; simp [Ty.parts, Ty.marks]
 | basic => intro h; simp only [Ty.kind] at h; omega
 | named hk => intro h; simp only [Ty.kind] at h; omega
 | num => intro h; simp [Ty.kind] at h
 | str => intro h; simp [Ty.kind] at h
 | obj => intro h; simp [Ty.kind] at h
 | arr => intro h; simp [Ty.kind] at h
 | un => intro h; simp [Ty.kind] at h
 | ref => intro h; simp [Ty.kind] at h
 | case => intro h; simp [Ty.kind] at h
theorem obj_len {x : Ty} (h : x.Valid) (hk : x.kind = 14) : x.names.length = x.parts.length ∧ x.marks.length = x.parts.length := by
 revert hk
 cases h with
 | obj xs => intro _; simp [Ty.parts, Ty.marks, Ty.names]
 | basic => intro h; simp only [Ty.kind] at h; omega
 | named hk => intro h; simp only [Ty.kind] at h; omega
 | num => intro h; simp [Ty.kind] at h
 | str => intro h; simp [Ty.kind] at h
 | fn => intro h; simp [Ty.kind] at h
 | arr => intro h; simp [Ty.kind] at h
 | un => intro h; simp [Ty.kind] at h
 | ref => intro h; simp [Ty.kind] at h
 | case => intro h; simp [Ty.kind] at h
structure FC (x : Ty) : Prop where
 cv : CV x
 free : Free x
theorem FC.parts {x : Ty} (h : FC x) : ∀ p ∈ x.parts, FC p := fun p hp => ⟨h.cv.parts p hp, h.free.parts p hp⟩
theorem FC.upart {x : Ty} (h : FC x) (hk : x.kind = 16) : ∀ p ∈ x.parts, p.kind ≠ 16 ∧ p.kind ≠ 1 ∧ p.kind ≠ 2 ∧ p.kind ≠ 3 := by
 obtain ⟨ps, e, _, hp, _⟩ := h.cv.union hk
 subst e
 exact fun p hp' => (hp p hp').2
theorem not_never {x y : Ty} (hx : FC x) (hk : x.kind ≠ 2 ∧ x.kind ≠ 3 ∧ x.kind ≠ 16) (hy : y.kind = 3) : ¬ Sub x y := fun h => by
 have hf := hx.free.kind
 have h := (ask_rest (fun e => by rw [e] at hk; omega) (by omega) ⟨hf.1, hk⟩ (by omega)).1 h.out
 rcases h with h | h | h | h | h
 · unfold smallP at h; omega
 · omega
 · omega
 · omega
 · omega
theorem from_unknown {x y : Ty} (hy : FC y) (hk : x.kind = 2) (h : Sub x y) : y.kind = 2 := by
 classical
 by_cases h2 : y.kind = 2
 · exact h2
 · by_cases e : x = y
   · rw [← e]; exact hk
   · have hf := hy.free.kind
     have h := h.out
     unfold Ask at h
     rw [if_neg (by rintro (q | q | q); exact e q; exact hf.1 q; exact h2 q), if_neg (by omega), if_neg (by omega), if_pos hk] at h
     exact h.elim
def Twice (x z : Ty) : Prop := FC x ∧ FC z ∧ ∃ y, FC y ∧ Sub x y ∧ Sub y z
def TwoS (x z : Ty) : Prop := Twice x z ∨ Sub x z
theorem twice_rest {x y z : Ty} (hx : FC x) (hy : FC y) (hz : FC z) (kx : x.kind ≠ 2 ∧ x.kind ≠ 3 ∧ x.kind ≠ 16) (kz : z.kind ≠ 2 ∧ z.kind ≠ 16) (ky : y.kind ≠ 16) (hxz : x ≠ z) (h1 : Sub x y) (h2 : Sub y z) : Ask TwoS x z := by
 have fx := hx.free.kind
 have fy := hy.free.kind
 have fz := hz.free.kind
 by_cases exy : x = y
 · subst exy
   exact h2.out.mono fun _ _ q => .inr q
 by_cases eyz : y = z
 · subst eyz
   exact h1.out.mono fun _ _ q => .inr q
 have y2 : y.kind ≠ 2 := fun e => kz.1 (from_unknown hz e h2)
 have y3 : y.kind ≠ 3 := fun e => not_never hx kx e h1
 have r1 := (ask_rest exy ⟨fy.1, y2⟩ ⟨fx.1, kx⟩ ky).1 h1.out
 have r2 := (ask_rest eyz ⟨fz.1, kz.1⟩ ⟨fy.1, y2, y3, ky⟩ kz.2).1 h2.out
 refine (ask_rest hxz ⟨fz.1, kz.1⟩ ⟨fx.1, kx⟩ kz.2).2 ?_
 rcases r1 with r1 | r1 | ⟨a1, b1, c1⟩ | ⟨a1, b1, c1⟩ | ⟨a1, b1, c1⟩
 · exfalso
   unfold smallP at r1
   rcases r2 with r2 | r2 | r2 | r2 | r2
   · unfold smallP at r2; omega
   · omega
   · omega
   · omega
   · omega
 · omega
 · rcases r2 with r2 | r2 | ⟨a2, b2, c2⟩ | r2 | r2
   · unfold smallP at r2; omega
   · omega
   · exact .inr (.inr (.inl ⟨a1, b2, .inl ⟨hx.parts _ (part_in (arr_len hx.cv.valid a1)), hz.parts _ (part_in (arr_len hz.cv.valid b2)), part y 0, hy.parts _ (part_in (arr_len hy.cv.valid b1)), c1, c2⟩⟩))
   · omega
   · omega
 · rcases r2 with r2 | r2 | r2 | ⟨a2, b2, c2⟩ | r2
   · unfold smallP at r2; omega
   · omega
   · omega
   · have lx := fn_len hx.cv.valid a1
     have ly := fn_len hy.cv.valid b1
     have lz := fn_len hz.cv.valid b2
     have nx := hx.free.count
     have ny := hy.free.count
     have l1 := c1.1
     have l2 := c2.1
     rw [nx] at l1
     rw [ny] at l2
     have P : ∀ {t : Ty}, FC t → t.parts.length = t.marks.length + 1 → ∀ i, i ≤ t.marks.length → FC (part t i) := fun ht hl i hi => ht.parts _ (part_in (by omega))
     have hv : ∀ {t : Ty}, FC t → t.kind ≠ 4 := fun ht => ht.free.kind.2.1
     refine .inr (.inr (.inr (.inl ⟨a1, b2, by rw [nx]; omega, fun i hi => .inl ⟨P hz lz i (by omega), P hx lx i (by omega), part y i, P hy ly i (by omega), c2.2.1 i (by omega), c1.2.1 i (by omega)⟩, fun _ => .inl ⟨P hx lx _ (Nat.le_refl _), P hz lz _ (Nat.le_refl _), part y y.marks.length, P hy ly _ (Nat.le_refl _), c1.2.2 (hv (P hy ly _ (Nat.le_refl _))), c2.2.2 (hv (P hz lz _ (Nat.le_refl _)))⟩⟩)))
   · omega
 · rcases r2 with r2 | r2 | r2 | r2 | ⟨a2, b2, c2⟩
   · unfold smallP at r2; omega
   · omega
   · omega
   · omega
   · have ly := obj_len hy.cv.valid b1
     refine .inr (.inr (.inr (.inr ⟨a1, b2, fun j nm m p g1 g2 g3 => ?_⟩)))
     have hmf : m = false := hz.free.marks m (List.mem_of_getElem? g2)
     have k2 := c2 j nm m p g1 g2 g3
     have hin : nm ∈ y.names := by
       by_cases hn : nm ∈ y.names
       · exact hn
       · have := k2.1 hn
         rw [hmf] at this
         cases this
     obtain ⟨i, hi⟩ := List.getElem?_of_mem hin
     have hil := (List.getElem?_eq_some_iff.1 hi).1
     obtain ⟨m', hm'⟩ : ∃ m', y.marks[i]? = some m' := ⟨_, List.getElem?_eq_getElem (by omega)⟩
     obtain ⟨p', hp'⟩ : ∃ p', y.parts[i]? = some p' := ⟨_, List.getElem?_eq_getElem (by omega)⟩
     have k1 := c1 i nm m' p' hi hm' hp'
     have hm'f : m' = false := hy.free.marks m' (List.mem_of_getElem? hm')
     have s2 := (k2.2 i m' p' hi hm' hp').2
     refine ⟨(fun hn => by have := k1.1 hn; rw [hm'f] at this; cases this), fun i2 m2 p2 q1 q2 q3 => ?_⟩
     have s1 := k1.2 i2 m2 p2 q1 q2 q3
     refine ⟨(fun e => by have := hx.free.marks m2 (List.mem_of_getElem? q2); rw [e] at this; cases this), .inl ⟨hx.parts _ (List.mem_of_getElem? q3), hz.parts _ (List.mem_of_getElem? g3), p', hy.parts _ (List.mem_of_getElem? hp'), s1.2, s2⟩⟩
theorem twice_ask {x z : Ty} (h : Twice x z) : Ask TwoS x z := by
 obtain ⟨hx, hz, y, hy, h1, h2⟩ := h
 have fx := hx.free.kind
 have fy := hy.free.kind
 have fz := hz.free.kind
 by_cases exz : x = z
 · subst exz; exact ask_self
 by_cases z2 : z.kind = 2
 · exact ask_top (.inr z2)
 by_cases x3 : x.kind = 3
 · exact ask_never x3
 by_cases x2 : x.kind = 2
 · exact absurd (from_unknown hz (from_unknown hy x2 h1) h2) z2
 have y2 : y.kind ≠ 2 := fun e => z2 (from_unknown hz e h2)
 by_cases x16 : x.kind = 16
 · refine (ask_union exz ⟨fz.1, z2⟩ x16).2 fun p hp => ?_
   by_cases exy : x = y
   · subst exy
     exact .inr ((ask_union exz ⟨fz.1, z2⟩ x16).1 h2.out p hp)
   · exact .inl ⟨hx.parts p hp, hz, y, hy, (ask_union exy ⟨fy.1, y2⟩ x16).1 h1.out p hp, h2⟩
 have y3 : y.kind ≠ 3 := fun e => not_never hx ⟨x2, x3, x16⟩ e h1
 by_cases z16 : z.kind = 16
 · refine (ask_any exz ⟨fz.1, z2⟩ ⟨fx.1, x2, x3, x16⟩ z16).2 ?_
   by_cases eyz : y = z
   · subst eyz
     obtain ⟨q, q1, q2⟩ := (ask_any exz ⟨fz.1, z2⟩ ⟨fx.1, x2, x3, x16⟩ z16).1 h1.out
     exact ⟨q, q1, .inr q2⟩
   · by_cases y16 : y.kind = 16
     · obtain ⟨p, p1, p2⟩ := (ask_any (fun e => by rw [e] at x16; exact x16 y16) ⟨fy.1, y2⟩ ⟨fx.1, x2, x3, x16⟩ y16).1 h1.out
       have p3 := (ask_union eyz ⟨fz.1, z2⟩ y16).1 h2.out p p1
       have pk := hy.upart y16 p p1
       obtain ⟨q, q1, q2⟩ := (ask_any (fun e => by rw [e] at pk; exact pk.1 z16) ⟨fz.1, z2⟩ ⟨pk.2.1, pk.2.2.1, pk.2.2.2, pk.1⟩ z16).1 p3.out
       exact ⟨q, q1, .inl ⟨hx, hz.parts q q1, p, hy.parts p p1, p2, q2⟩⟩
     · obtain ⟨q, q1, q2⟩ := (ask_any eyz ⟨fz.1, z2⟩ ⟨fy.1, y2, y3, y16⟩ z16).1 h2.out
       exact ⟨q, q1, .inl ⟨hx, hz.parts q q1, y, hy, h1, q2⟩⟩
 · by_cases y16 : y.kind = 16
   · obtain ⟨p, p1, p2⟩ := (ask_any (fun e => by rw [e] at x16; exact x16 y16) ⟨fy.1, y2⟩ ⟨fx.1, x2, x3, x16⟩ y16).1 h1.out
     have p3 := (ask_union (fun e => by rw [e] at y16; exact z16 y16) ⟨fz.1, z2⟩ y16).1 h2.out p p1
     have pk := hy.upart y16 p p1
     exact twice_rest hx (hy.parts p p1) hz ⟨x2, x3, x16⟩ ⟨z2, z16⟩ pk.1 exz p2 p3
   · exact twice_rest hx hy hz ⟨x2, x3, x16⟩ ⟨z2, z16⟩ y16 exz h1 h2
theorem sub_trans {x y z : Ty} (hx : FC x) (hy : FC y) (hz : FC z) (h1 : Sub x y) (h2 : Sub y z) : Sub x z :=
 Sub.of (R := Twice) (fun a b h => twice_ask h) ⟨hx, hz, y, hy, h1, h2⟩
end Go.Proofs.YtiaepldmgighbaaGreatDoor
