import Derived.Test.YtbghpkoimbmijaaGreatDoorM13
/- YtbghpkoimbmijaaGreatDoorM14: lemmas of the proof, in order: VU. -/
/- Plain law: unions of sound types, up to what a text tells. -/
namespace Go.Proofs.YtbghpkoimbmijaaGreatDoor
open Go.RowKit
set_option linter.unusedSimpArgs false

def basicT (k : Int) : Ty := .mk k 0 ⟨#[]⟩ [] [] []
theorem Ty.canons_canon : ∀ ps : List Ty, (∀ p ∈ ps, p.canon.canon = p.canon) → (ps.map Ty.canon).map Ty.canon = ps.map Ty.canon
  | [], _ => rfl
  | p :: r, h => by
    simp only [List.map_cons]
    rw [h p (by simp), Ty.canons_canon r fun q hq => h q (by simp [hq])]
mutual
theorem Ty.canon_canon : ∀ t : Ty, t.canon.canon = t.canon
  | .mk k n nm ps ns ms => by
    rw [Ty.canon, Ty.canon, Ty.canons_canons ps]
    split <;> rfl
theorem Ty.canons_canons : ∀ ps : List Ty, Ty.canons (Ty.canons ps) = Ty.canons ps
  | [] => rfl
  | p :: r => by rw [Ty.canons, Ty.canons, Ty.canon_canon p, Ty.canons_canons r]
end
theorem Ty.partT_canon (t : Ty) : t.canon.partT = t.partT := by unfold Ty.partT; rw [Ty.canon_kind, Ty.text_canon]
theorem Ty.canon_parts : ∀ t : Ty, t.canon.parts = t.parts.map Ty.canon
  | .mk k n nm ps ns ms => by rw [Ty.canon_mk]; rfl
theorem Ty.canon_valid {t : Ty} (h : t.Valid) : t.canon.Valid := by
  induction h with
  | @basic k h1 h2 => rw [Ty.canon_mk, if_neg (by omega)]; exact .basic h1 h2
  | num h1 h2 => rw [Ty.canon_mk, if_neg (by decide)]; exact .num h1 h2
  | str h => rw [Ty.canon_mk, if_neg (by decide)]; exact .str h
  | arr hp ih => rw [Ty.canon_mk, if_neg (by decide)]; exact .arr ih
  | obj xs hn hr hp ih =>
    rw [Ty.canon_mk, if_neg (by decide)]
    have h := Ty.Valid.obj (xs.map fun x => (x.1, x.2.1, x.2.2.canon)) (fun x hx => by
      obtain ⟨y, hy, rfl⟩ := List.mem_map.1 hx
      exact hn y hy) (by rw [List.map_map]; exact hr) (fun x hx => by
      obtain ⟨y, hy, rfl⟩ := List.mem_map.1 hx
      exact ih y hy)
    simpa [List.map_map, Function.comp_def] using h
  | fn xs r ho hp hr ih1 ih2 =>
    rw [Ty.canon_mk, if_neg (by decide)]
    have h := Ty.Valid.fn (xs.map fun x => (x.1.canon, x.2)) r.canon (by rw [List.map_map]; exact ho) (fun x hx => by
      obtain ⟨y, hy, rfl⟩ := List.mem_map.1 hx
      exact ih1 y hy) ih2
    simpa [List.map_map, Function.comp_def] using h
  | un ps hl hk hs hg hp ih =>
    rw [Ty.canon_mk, if_neg (by decide)]
    refine .un (ps.map Ty.canon) (by simpa using hl) (fun p hp' => ?_) ?_ (fun p hp' => ?_) (fun p hp' => ?_)
    · obtain ⟨q, hq, rfl⟩ := List.mem_map.1 hp'
      rw [Ty.canon_kind]
      exact hk q hq
    · rw [List.pairwise_map]
      refine hs.imp ?_
      intro a b h
      rw [Ty.partT_canon, Ty.partT_canon]
      exact h
    · obtain ⟨q, hq, rfl⟩ := List.mem_map.1 hp'
      obtain ⟨g1, g2, g3⟩ := hg q hq
      refine ⟨fun hk1 x hx => ?_, fun hk1 x hx => ?_, fun hk1 x hx hx9 e he => ?_⟩
      · obtain ⟨y, hy, rfl⟩ := List.mem_map.1 hx
        rw [Ty.canon_kind] at hk1 ⊢
        exact g1 hk1 y hy
      · obtain ⟨y, hy, rfl⟩ := List.mem_map.1 hx
        rw [Ty.canon_kind] at hk1 ⊢
        exact g2 hk1 y hy
      · obtain ⟨y, hy, rfl⟩ := List.mem_map.1 hx
        rw [Ty.canon_kind] at hk1 hx9
        rw [Ty.canon_parts] at he
        obtain ⟨e', he', rfl⟩ := List.mem_map.1 he
        rw [Ty.text_canon, Ty.text_canon]
        exact g3 hk1 y hy hx9 e' he'
    · obtain ⟨q, hq, rfl⟩ := List.mem_map.1 hp'
      exact ih q hq
  | ref ps h1 h2 hn hp ih =>
    rw [Ty.canon_mk, if_neg (by decide)]
    exact .ref _ h1 h2 hn fun p hp' => by
      obtain ⟨q, hq, rfl⟩ := List.mem_map.1 hp'
      exact ih q hq
  | @named k n nm hk h1 h2 hn => rw [Ty.canon_mk, if_neg (by omega)]; exact .named hk h1 h2 hn
  | case h1 h2 hn h1' h2' hn' =>
    rw [Ty.canon_mk, if_pos rfl]
    simp only [List.map_cons, List.map_nil, Ty.canon_mk]
    rw [if_neg (by decide)]
    exact .case (by decide) (by decide) hn h1' h2' hn'
theorem Ty.Valid.parts {t : Ty} (h : t.Valid) : ∀ p ∈ t.parts, p.Valid := by
  cases h with
  | basic => intro p hp; cases hp
  | num => intro p hp; cases hp
  | str => intro p hp; cases hp
  | arr hp => intro p h; cases List.mem_singleton.1 h; exact hp
  | obj xs hn hr hp => intro p h; obtain ⟨x, hx, rfl⟩ := List.mem_map.1 h; exact hp x hx
  | fn xs r ho hp hr =>
    intro p h
    rcases List.mem_append.1 h with h | h
    · obtain ⟨x, hx, rfl⟩ := List.mem_map.1 h; exact hp x hx
    · cases List.mem_singleton.1 h; exact hr
  | un ps hl hk hs hg hp => exact hp
  | ref ps h1 h2 hn hp => exact hp
  | named => intro p hp; cases hp
  | case h1 h2 hn h1' h2' hn' => intro p h; cases List.mem_singleton.1 h; exact .named (.inr (.inl rfl)) h1' h2' hn'

/-- a part's text tells the part -/
theorem part_inj {p q : Ty} (hp : p.Valid) (hq : q.Valid) (h1 : p.kind ≠ 16) (h2 : q.kind ≠ 16) (h : p.partT = q.partT) : p.canon = q.canon := by
  obtain ⟨b, R, e1, e2⟩ := part_end (reads (p.nodes + q.nodes)) hp h1 (by omega) (s := []) trivial rfl
  obtain ⟨b', R', e3, e4⟩ := part_end (reads (p.nodes + q.nodes)) hq h2 (by omega) (s := []) trivial rfl
  rw [h, e3] at e1
  injection e1 with e1
  injection e1 with e1 e5
  injection e5 with _ e5
  subst e1 e5
  rw [e2] at e4
  injection e4 with e4 _

/-- a sound type that is but what its text tells -/
structure CV (t : Ty) : Prop where
  valid : t.Valid
  same : t.canon = t
theorem CV.of {t : Ty} (h : t.Valid) : CV t.canon := ⟨Ty.canon_valid h, Ty.canon_canon t⟩
theorem map_same {f : Ty → Ty} : ∀ {l : List Ty}, l.map f = l → ∀ p ∈ l, f p = p
  | [], _, p, h => by cases h
  | x :: r, e, p, h => by
    simp only [List.map_cons, List.cons.injEq] at e
    rcases List.mem_cons.1 h with rfl | h
    · exact e.1
    · exact map_same e.2 p h
theorem CV.parts {t : Ty} (h : CV t) : ∀ p ∈ t.parts, CV p := fun p hp => ⟨h.valid.parts p hp, by
  have e := Ty.canon_parts t
  rw [h.same] at e
  exact map_same e.symm p hp⟩
theorem CV.inj {p q : Ty} (hp : CV p) (hq : CV q) (h1 : p.kind ≠ 16) (h2 : q.kind ≠ 16) (h : p.partT = q.partT) : p = q := by
  have := part_inj hp.valid hq.valid h1 h2 h
  rwa [hp.same, hq.same] at this
theorem CV.text_inj {p q : Ty} (hp : CV p) (hq : CV q) (h : p.text = q.text) : p = q := by
  have := Go.Proofs.YtbghpkoimbmijaaGreatDoor.text_inj hp.valid hq.valid h
  rwa [hp.same, hq.same] at this
theorem CV.basic {k : Int} (h1 : 1 ≤ k) (h2 : k ≤ 10) : CV (basicT k) := ⟨.basic h1 h2, by unfold basicT; rw [Ty.canon_mk, if_neg (by omega)]; rfl⟩

/-- rows of parts in their order -/
def LtP (a b : Ty) : Prop := ltS a.partT b.partT = true
theorem LtP.asymm {a b : Ty} (h : LtP a b) (k : LtP b a) : False := by
  have := ltS_tot.asymm _ _ h
  unfold LtP at k
  rw [k] at this
  cases this
theorem LtP.trans {a b c : Ty} (h : LtP a b) (k : LtP b c) : LtP a c := by
  rcases ltS_tot.neg a.partT c.partT b.partT h with q | q
  · exact q
  · exact (LtP.asymm k q).elim
theorem sorted_ext : ∀ {a b : List Ty}, a.Pairwise LtP → b.Pairwise LtP → (∀ x, x ∈ a ↔ x ∈ b) → a = b
  | [], [], _, _, _ => rfl
  | [], y :: b, _, _, h => absurd ((h y).2 (by simp)) (by simp)
  | x :: a, [], _, _, h => absurd ((h x).1 (by simp)) (by simp)
  | x :: a, y :: b, ha, hb, h => by
    rw [List.pairwise_cons] at ha hb
    have hxy : x = y := by
      rcases List.mem_cons.1 ((h x).1 (by simp)) with e | e
      · exact e
      · rcases List.mem_cons.1 ((h y).2 (by simp)) with e2 | e2
        · exact e2.symm
        · exact (LtP.asymm (ha.1 y e2) (hb.1 x e)).elim
    subst hxy
    rw [sorted_ext ha.2 hb.2 fun z => ⟨fun hz => ?_, fun hz => ?_⟩]
    · rcases List.mem_cons.1 ((h z).1 (by simp [hz])) with e | e
      · subst e; exact (LtP.asymm (ha.1 z hz) (ha.1 z hz)).elim
      · exact e
    · rcases List.mem_cons.1 ((h z).2 (by simp [hz])) with e | e
      · subst e; exact (LtP.asymm (hb.1 z hz) (hb.1 z hz)).elim
      · exact e
def insU (x : Ty) : List Ty → List Ty
  | [] => [x]
  | y :: r => if ltS x.partT y.partT = true then x :: y :: r else if ltS y.partT x.partT = true then y :: insU x r else y :: r
def sortU (l : List Ty) : List Ty := l.foldr insU []
theorem insU_sub (x : Ty) : ∀ (l : List Ty) (z : Ty), z ∈ insU x l → z = x ∨ z ∈ l
  | [], z, h => by simp [insU] at h; exact .inl h
  | y :: r, z, h => by
    unfold insU at h
    split at h
    · rcases List.mem_cons.1 h with e | e
      · exact .inl e
      · exact .inr e
    · split at h
      · rcases List.mem_cons.1 h with e | e
        · exact .inr (by simp [e])
        · rcases insU_sub x r z e with e | e
          · exact .inl e
          · exact .inr (by simp [e])
      · exact .inr h
theorem insU_old (x : Ty) : ∀ (l : List Ty) (z : Ty), z ∈ l → z ∈ insU x l
  | [], z, h => by cases h
  | y :: r, z, h => by
    unfold insU
    split
    · exact List.mem_cons_of_mem _ h
    · split
      · rcases List.mem_cons.1 h with e | e
        · simp [e]
        · exact List.mem_cons_of_mem _ (insU_old x r z e)
      · exact h
theorem insU_new (x : Ty) : ∀ (l : List Ty), (∀ y ∈ l, y.partT = x.partT → y = x) → x ∈ insU x l
  | [], _ => by simp [insU]
  | y :: r, h => by
    unfold insU
    split
    · simp
    · rename_i h1
      split
      · exact List.mem_cons_of_mem _ (insU_new x r fun z hz => h z (by simp [hz]))
      · rename_i h2
        have := h y (by simp) (ltS_tot.tri _ _ (by simpa using h2) (by simpa using h1))
        simp [this]
theorem insU_sorted (x : Ty) : ∀ (l : List Ty), l.Pairwise LtP → (insU x l).Pairwise LtP
  | [], _ => by simp [insU]
  | y :: r, h => by
    have h' := h
    rw [List.pairwise_cons] at h'
    unfold insU
    split
    · rename_i h1
      rw [List.pairwise_cons]
      refine ⟨fun z hz => ?_, h⟩
      rcases List.mem_cons.1 hz with e | e
      · subst e; exact h1
      · exact LtP.trans h1 (h'.1 z e)
    · split
      · rename_i h2
        rw [List.pairwise_cons]
        refine ⟨fun z hz => ?_, insU_sorted x r h'.2⟩
        rcases insU_sub x r z hz with e | e
        · subst e; exact h2
        · exact h'.1 z e
      · exact h
theorem sortU_sorted : ∀ l : List Ty, (sortU l).Pairwise LtP
  | [] => List.Pairwise.nil
  | x :: r => insU_sorted x _ (sortU_sorted r)
/-- keys tell the elements apart -/
def KeyInj (l : List Ty) : Prop := ∀ x ∈ l, ∀ y ∈ l, x.partT = y.partT → x = y
theorem sortU_mem : ∀ (l : List Ty), KeyInj l → ∀ z, z ∈ sortU l ↔ z ∈ l
  | [], _, z => Iff.rfl
  | x :: r, h, z => by
    have ih := sortU_mem r fun a ha b hb => h a (by simp [ha]) b (by simp [hb])
    constructor
    · intro hz
      rcases insU_sub x _ z hz with e | e
      · simp [e]
      · exact List.mem_cons_of_mem _ ((ih z).1 e)
    · intro hz
      rcases List.mem_cons.1 hz with e | e
      · subst e
        exact insU_new z _ fun y hy e => h y (List.mem_cons_of_mem _ ((ih y).1 hy)) z (by simp) e
      · exact insU_old x _ z ((ih z).2 e)

def Ty.flat (t : Ty) : List Ty := if t.kind = 16 then t.parts else [t]
def Goes (F : List Ty) (x : Ty) : Prop := x.kind = 3 ∨ (x.kind = 11 ∧ ∃ q ∈ F, q.kind = 7) ∨ (x.kind = 12 ∧ ∃ q ∈ F, q.kind = 8) ∨ (x.kind = 20 ∧ ∃ q ∈ F, q.kind = 19 ∧ ∃ e ∈ x.parts, q.text = e.text)
noncomputable def goesB (F : List Ty) (x : Ty) : Bool := by classical exact decide (Goes F x)
theorem goesB_iff (F : List Ty) (x : Ty) : goesB F x = true ↔ Goes F x := by unfold goesB; simp
noncomputable def restU (F : List Ty) : List Ty := F.filter fun x => !goesB F x
theorem restU_mem {F : List Ty} {x : Ty} : x ∈ restU F ↔ x ∈ F ∧ ¬ Goes F x := by
  unfold restU
  rw [List.mem_filter]
  cases h : goesB F x with
  | true => simp [(goesB_iff F x).1 h]
  | false =>
    have : ¬ Goes F x := fun q => by rw [(goesB_iff F x).2 q] at h; cases h
    simp [this]
def wrapU : List Ty → Ty
  | [] => basicT 3
  | [x] => x
  | x :: y :: r => .mk 16 0 ⟨#[]⟩ (x :: y :: r) [] []
noncomputable def unionF (F : List Ty) : Ty := by
  classical exact if ∃ x ∈ F, x.kind = 1 then basicT 1 else if ∃ x ∈ F, x.kind = 2 then basicT 2 else wrapU (sortU (restU F))
noncomputable def unionC (l : List Ty) : Ty := unionF (l.flatMap Ty.flat)

/-- rows of parts of unions -/
def Fl (F : List Ty) : Prop := ∀ x ∈ F, CV x ∧ x.kind ≠ 16
theorem Fl.key {F : List Ty} (h : Fl F) : KeyInj F := fun x hx y hy e => (h x hx).1.inj (h y hy).1 (h x hx).2 (h y hy).2 e
theorem CV.union {t : Ty} (h : CV t) (hk : t.kind = 16) : ∃ ps, t = .mk 16 0 ⟨#[]⟩ ps [] [] ∧ 2 ≤ ps.length ∧ (∀ p ∈ ps, CV p ∧ p.kind ≠ 16 ∧ p.kind ≠ 1 ∧ p.kind ≠ 2 ∧ p.kind ≠ 3) ∧ ps.Pairwise LtP ∧ ∀ p ∈ ps, ¬ Goes ps p := by
  have hv := h.valid
  have hpp := h.parts
  cases hv with
  | un ps hl hk' hs hg hp =>
    refine ⟨ps, rfl, hl, fun p hp' => ⟨hpp p hp', hk' p hp'⟩, hs, fun p hp' hgo => ?_⟩
    obtain ⟨g1, g2, g3⟩ := hg p hp'
    rcases hgo with h | ⟨h, q, hq, hq2⟩ | ⟨h, q, hq, hq2⟩ | ⟨h, q, hq, hq2, e, he, hte⟩
    · exact (hk' p hp').2.2.2 h
    · exact g1 h q hq hq2
    · exact g2 h q hq hq2
    · exact g3 h q hq hq2 e he hte
  | basic h1 h2 => exact absurd hk (by simp only [Ty.kind]; omega)
  | num => exact absurd hk (by simp only [Ty.kind]; omega)
  | str => exact absurd hk (by simp only [Ty.kind]; omega)
  | arr => exact absurd hk (by simp only [Ty.kind]; omega)
  | obj => exact absurd hk (by simp only [Ty.kind]; omega)
  | fn => exact absurd hk (by simp only [Ty.kind]; omega)
  | ref => exact absurd hk (by simp only [Ty.kind]; omega)
  | named hk' => exact absurd hk (by simp only [Ty.kind]; omega)
  | case => exact absurd hk (by simp only [Ty.kind]; omega)
theorem CV.flat {t : Ty} (h : CV t) : Fl t.flat := by
  unfold Ty.flat
  split
  · rename_i hk
    obtain ⟨ps, rfl, _, h2, _⟩ := h.union hk
    exact fun x hx => ⟨(h2 x hx).1, (h2 x hx).2.1⟩
  · rename_i hk
    intro x hx
    cases List.mem_singleton.1 hx
    exact ⟨h, hk⟩
theorem Fl.of {l : List Ty} (h : ∀ t ∈ l, CV t) : Fl (l.flatMap Ty.flat) := fun x hx => by
  obtain ⟨t, ht, hx⟩ := List.mem_flatMap.1 hx
  exact (h t ht).flat x hx
theorem Goes.congr {F G : List Ty} (h : ∀ x, x ∈ F ↔ x ∈ G) (x : Ty) : Goes F x ↔ Goes G x := by
  unfold Goes
  simp only [h]
theorem Goes.mono {F G : List Ty} (h : ∀ x ∈ F, x ∈ G) {x : Ty} (hg : Goes F x) : Goes G x := by
  rcases hg with hg | ⟨hg, q, hq, hr⟩ | ⟨hg, q, hq, hr⟩ | ⟨hg, q, hq, hr⟩
  · exact .inl hg
  · exact .inr (.inl ⟨hg, q, h q hq, hr⟩)
  · exact .inr (.inr (.inl ⟨hg, q, h q hq, hr⟩))
  · exact .inr (.inr (.inr ⟨hg, q, h q hq, hr⟩))
/-- what stays names all that made others go -/
theorem Goes.rest {F : List Ty} {x : Ty} (h : Goes F x) : Goes (restU F) x := by
  have key : ∀ q ∈ F, q.kind = 7 ∨ q.kind = 8 ∨ q.kind = 19 → q ∈ restU F := fun q hq hk => restU_mem.2 ⟨hq, fun hg => by
    rcases hg with hg | ⟨hg, _⟩ | ⟨hg, _⟩ | ⟨hg, _⟩ <;> omega⟩
  rcases h with hg | ⟨hg, q, hq, hr⟩ | ⟨hg, q, hq, hr⟩ | ⟨hg, q, hq, hr, he⟩
  · exact .inl hg
  · exact .inr (.inl ⟨hg, q, key q hq (.inl hr), hr⟩)
  · exact .inr (.inr (.inl ⟨hg, q, key q hq (.inr (.inl hr)), hr⟩))
  · exact .inr (.inr (.inr ⟨hg, q, key q hq (.inr (.inr hr)), hr, he⟩))
theorem unionF_congr {F G : List Ty} (hF : Fl F) (hG : Fl G) (h : ∀ x, x ∈ F ↔ x ∈ G) : unionF F = unionF G := by
  have hr : ∀ x, x ∈ restU F ↔ x ∈ restU G := fun x => by rw [restU_mem, restU_mem, h, Goes.congr h]
  have hs : sortU (restU F) = sortU (restU G) := by
    refine sorted_ext (sortU_sorted _) (sortU_sorted _) fun x => ?_
    rw [sortU_mem _ (fun a ha b hb => hF.key a (restU_mem.1 ha).1 b (restU_mem.1 hb).1), sortU_mem _ (fun a ha b hb => hG.key a (restU_mem.1 ha).1 b (restU_mem.1 hb).1)]
    exact hr x
  unfold unionF
  simp only [h, hs]
theorem wrapU_flat {l : List Ty} (h : ∀ x ∈ l, x.kind ≠ 16) : (wrapU l).flat = if l = [] then [basicT 3] else l := by
  match l, h with
  | [], _ => rfl
  | [x], h =>
    show (if x.kind = 16 then x.parts else [x]) = _
    rw [if_neg (h x (by simp))]
    simp
  | x :: y :: r, _ => simp [wrapU, Ty.flat, Ty.kind, Ty.parts]
/-- the flat parts of a union: all that matters -/
theorem unionF_rest {F G : List Ty} (hF : Fl F) (hG : Fl G) : unionF ((unionF F).flat ++ G) = unionF (F ++ G) := by
  classical
  have hFG : Fl (F ++ G) := fun x hx => by rcases List.mem_append.1 hx with q | q; exact hF x q; exact hG x q
  by_cases h1 : ∃ x ∈ F, x.kind = 1
  · have e : unionF F = basicT 1 := by unfold unionF; rw [if_pos h1]
    rw [e]
    have e1 : unionF ((basicT 1).flat ++ G) = basicT 1 := by
      unfold unionF
      rw [if_pos ⟨basicT 1, by simp [Ty.flat, basicT, Ty.kind], rfl⟩]
    have e2 : unionF (F ++ G) = basicT 1 := by
      unfold unionF
      obtain ⟨x, hx, hk⟩ := h1
      rw [if_pos ⟨x, by simp [hx], hk⟩]
    rw [e1, e2]
  by_cases h2 : ∃ x ∈ F, x.kind = 2
  · have e : unionF F = basicT 2 := by unfold unionF; rw [if_neg h1, if_pos h2]
    rw [e]
    by_cases h3 : ∃ x ∈ G, x.kind = 1
    · obtain ⟨x, hx, hk⟩ := h3
      unfold unionF
      rw [if_pos ⟨x, by simp [hx], hk⟩, if_pos ⟨x, by simp [hx], hk⟩]
    · unfold unionF
      obtain ⟨x, hx, hk⟩ := h2
      rw [if_neg, if_pos ⟨basicT 2, by simp [Ty.flat, basicT, Ty.kind], rfl⟩, if_neg, if_pos ⟨x, by simp [hx], hk⟩]
      · rintro ⟨y, hy, hy1⟩
        rcases List.mem_append.1 hy with q | q
        · exact h1 ⟨y, q, hy1⟩
        · exact h3 ⟨y, q, hy1⟩
      · rintro ⟨y, hy, hy1⟩
        rcases List.mem_append.1 hy with q | q
        · have q : y ∈ [basicT 2] := q
          cases List.mem_singleton.1 q
          exact absurd hy1 (by decide)
        · exact h3 ⟨y, q, hy1⟩
  have e : unionF F = wrapU (sortU (restU F)) := by unfold unionF; rw [if_neg h1, if_neg h2]
  have hkey : KeyInj (restU F) := fun a ha b hb => hF.key a (restU_mem.1 ha).1 b (restU_mem.1 hb).1
  have hsm := sortU_mem _ hkey
  have hfl : ∀ x, x ∈ (unionF F).flat → x ∈ restU F ∨ x = basicT 3 := fun x hx => by
    rw [e, wrapU_flat (fun y hy => (hF y (restU_mem.1 ((hsm y).1 hy)).1).2)] at hx
    split at hx
    · exact .inr (List.mem_singleton.1 hx)
    · exact .inl ((hsm x).1 hx)
  have hfl2 : ∀ x ∈ restU F, x ∈ (unionF F).flat := fun x hx => by
    rw [e, wrapU_flat (fun y hy => (hF y (restU_mem.1 ((hsm y).1 hy)).1).2), if_neg (fun q => by
      have := (hsm x).2 hx
      rw [q] at this
      cases this)]
    exact (hsm x).2 hx
  have hA : Fl ((unionF F).flat ++ G) := fun x hx => by
    rcases List.mem_append.1 hx with q | q
    · rcases hfl x q with q | q
      · exact hF x (restU_mem.1 q).1
      · subst q; exact ⟨CV.basic (by decide) (by decide), by decide⟩
    · exact hG x q
  have hk : ∀ k : Int, k = 1 ∨ k = 2 → ((∃ x ∈ (unionF F).flat ++ G, x.kind = k) ↔ ∃ x ∈ F ++ G, x.kind = k) := fun k hk => by
    constructor
    · rintro ⟨x, hx, hxk⟩
      rcases List.mem_append.1 hx with q | q
      · rcases hfl x q with q | q
        · exact ⟨x, by simp [(restU_mem.1 q).1], hxk⟩
        · subst q
          exact absurd hxk (by simp only [basicT, Ty.kind]; omega)
      · exact ⟨x, by simp [q], hxk⟩
    · rintro ⟨x, hx, hxk⟩
      rcases List.mem_append.1 hx with q | q
      · rcases hk with rfl | rfl
        · exact (h1 ⟨x, q, hxk⟩).elim
        · exact (h2 ⟨x, q, hxk⟩).elim
      · exact ⟨x, by simp [q], hxk⟩
  have hr : ∀ x, x ∈ restU ((unionF F).flat ++ G) ↔ x ∈ restU (F ++ G) := fun x => by
    have g1 : ∀ y, Goes ((unionF F).flat ++ G) y → Goes (F ++ G) y := fun y hy => by
      have key : ∀ q : Ty, q ∈ (unionF F).flat ++ G → q.kind ≠ 3 → q ∈ F ++ G := fun q hq hq3 => by
        rcases List.mem_append.1 hq with r | r
        · rcases hfl q r with r | r
          · simp [(restU_mem.1 r).1]
          · subst r; exact absurd rfl hq3
        · simp [r]
      rcases hy with hg | ⟨hg, q, hq, hr⟩ | ⟨hg, q, hq, hr⟩ | ⟨hg, q, hq, hr, he⟩
      · exact .inl hg
      · exact .inr (.inl ⟨hg, q, key q hq (by omega), hr⟩)
      · exact .inr (.inr (.inl ⟨hg, q, key q hq (by omega), hr⟩))
      · exact .inr (.inr (.inr ⟨hg, q, key q hq (by omega), hr, he⟩))
    have g2 : ∀ y, Goes (F ++ G) y → Goes ((unionF F).flat ++ G) y := fun y hy => by
      have key : ∀ q ∈ F ++ G, q.kind = 7 ∨ q.kind = 8 ∨ q.kind = 19 → q ∈ (unionF F).flat ++ G := fun q hq hk => by
        rcases List.mem_append.1 hq with r | r
        · refine List.mem_append.2 (.inl (hfl2 q (restU_mem.2 ⟨r, fun hg => ?_⟩)))
          rcases hg with hg | ⟨hg, _⟩ | ⟨hg, _⟩ | ⟨hg, _⟩ <;> omega
        · exact List.mem_append.2 (.inr r)
      rcases hy with hg | ⟨hg, q, hq, hr⟩ | ⟨hg, q, hq, hr⟩ | ⟨hg, q, hq, hr, he⟩
      · exact .inl hg
      · exact .inr (.inl ⟨hg, q, key q hq (.inl hr), hr⟩)
      · exact .inr (.inr (.inl ⟨hg, q, key q hq (.inr (.inl hr)), hr⟩))
      · exact .inr (.inr (.inr ⟨hg, q, key q hq (.inr (.inr hr)), hr, he⟩))
    rw [restU_mem, restU_mem]
    constructor
    · rintro ⟨hx, hn⟩
      refine ⟨?_, fun q => hn (g2 x q)⟩
      rcases List.mem_append.1 hx with q | q
      · rcases hfl x q with q | q
        · simp [(restU_mem.1 q).1]
        · subst q; exact absurd (.inl rfl) hn
      · simp [q]
    · rintro ⟨hx, hn⟩
      refine ⟨?_, fun q => hn (g1 x q)⟩
      rcases List.mem_append.1 hx with q | q
      · exact List.mem_append.2 (.inl (hfl2 x (restU_mem.2 ⟨q, fun hg => hn (hg.mono fun y hy => by simp [hy])⟩)))
      · simp [q]
  have hs : sortU (restU ((unionF F).flat ++ G)) = sortU (restU (F ++ G)) := by
    refine sorted_ext (sortU_sorted _) (sortU_sorted _) fun x => ?_
    rw [sortU_mem _ (fun a ha b hb => hA.key a (restU_mem.1 ha).1 b (restU_mem.1 hb).1), sortU_mem _ (fun a ha b hb => hFG.key a (restU_mem.1 ha).1 b (restU_mem.1 hb).1)]
    exact hr x
  have k1 := hk 1 (.inl rfl)
  have k2 := hk 2 (.inr rfl)
  unfold unionF at k1 k2 hs ⊢
  simp only [k1, k2, hs]

theorem basicT_flat (k : Int) (h : k ≠ 16) : (basicT k).flat = [basicT k] := by unfold Ty.flat basicT; rw [if_neg (by simpa [Ty.kind] using h)]
theorem Ty.Valid.low {t : Ty} (h : t.Valid) (hk : t.kind ≤ 10) : t = basicT t.kind := by
  cases h with
  | basic h1 h2 => rfl
  | un => exact absurd hk (by simp only [Ty.kind]; omega)
  | num => exact absurd hk (by simp only [Ty.kind]; omega)
  | str => exact absurd hk (by simp only [Ty.kind]; omega)
  | arr => exact absurd hk (by simp only [Ty.kind]; omega)
  | obj => exact absurd hk (by simp only [Ty.kind]; omega)
  | fn => exact absurd hk (by simp only [Ty.kind]; omega)
  | ref => exact absurd hk (by simp only [Ty.kind]; omega)
  | named hk' => exact absurd hk (by simp only [Ty.kind]; omega)
  | case => exact absurd hk (by simp only [Ty.kind]; omega)
/-- what a union is -/
theorem unionF_cases (F : List Ty) : ((∃ x ∈ F, x.kind = 1) ∧ unionF F = basicT 1) ∨ ((¬ ∃ x ∈ F, x.kind = 1) ∧ (∃ x ∈ F, x.kind = 2) ∧ unionF F = basicT 2) ∨ ((¬ ∃ x ∈ F, x.kind = 1) ∧ (¬ ∃ x ∈ F, x.kind = 2) ∧ unionF F = wrapU (sortU (restU F))) := by
  classical
  unfold unionF
  by_cases h1 : ∃ x ∈ F, x.kind = 1
  · exact .inl ⟨h1, by rw [if_pos h1]⟩
  · by_cases h2 : ∃ x ∈ F, x.kind = 2
    · exact .inr (.inl ⟨h1, h2, by rw [if_neg h1, if_pos h2]⟩)
    · exact .inr (.inr ⟨h1, h2, by rw [if_neg h1, if_neg h2]⟩)
theorem wrapU_cases (l : List Ty) : (l = [] ∧ wrapU l = basicT 3) ∨ (∃ x, l = [x] ∧ wrapU l = x) ∨ (2 ≤ l.length ∧ wrapU l = .mk 16 0 ⟨#[]⟩ l [] []) := by
  match l with
  | [] => exact .inl ⟨rfl, rfl⟩
  | [x] => exact .inr (.inl ⟨x, rfl, rfl⟩)
  | x :: y :: r => exact .inr (.inr ⟨by simp, rfl⟩)
theorem unionF_cv {F : List Ty} (hF : Fl F) : CV (unionF F) := by
  rcases unionF_cases F with ⟨_, e⟩ | ⟨_, _, e⟩ | ⟨h1, h2, e⟩
  · rw [e]; exact CV.basic (by decide) (by decide)
  · rw [e]; exact CV.basic (by decide) (by decide)
  · rw [e]
    have hkey : KeyInj (restU F) := fun a ha b hb => hF.key a (restU_mem.1 ha).1 b (restU_mem.1 hb).1
    have hsm := sortU_mem _ hkey
    have hin : ∀ x ∈ sortU (restU F), x ∈ F ∧ ¬ Goes F x := fun x hx => restU_mem.1 ((hsm x).1 hx)
    rcases wrapU_cases (sortU (restU F)) with ⟨_, e⟩ | ⟨x, hl, e⟩ | ⟨hl, e⟩
    · rw [e]; exact CV.basic (by decide) (by decide)
    · rw [e]; exact (hF x (hin x (by rw [hl]; simp)).1).1
    · rw [e]
      refine ⟨.un _ hl (fun p hp => ⟨(hF p (hin p hp).1).2, fun q => h1 ⟨p, (hin p hp).1, q⟩, fun q => h2 ⟨p, (hin p hp).1, q⟩, fun q => (hin p hp).2 (.inl q)⟩) (sortU_sorted _) (fun p hp => ⟨fun hk q hq hq7 => (hin p hp).2 (.inr (.inl ⟨hk, q, (hin q hq).1, hq7⟩)), fun hk q hq hq7 => (hin p hp).2 (.inr (.inr (.inl ⟨hk, q, (hin q hq).1, hq7⟩))), fun hk q hq hq9 e he ht => (hin p hp).2 (.inr (.inr (.inr ⟨hk, q, (hin q hq).1, hq9, e, he, ht⟩)))⟩) (fun p hp => (hF p (hin p hp).1).1.valid), ?_⟩
      rw [Ty.canon_mk, if_neg (by decide)]
      congr 1
      have : ∀ l : List Ty, (∀ p ∈ l, p.canon = p) → l.map Ty.canon = l := fun l h => by
        have := List.map_congr_left (g := id) h
        rw [this, List.map_id]
      exact this _ fun p hp => (hF p (hin p hp).1).1.same
theorem unionC_cv {l : List Ty} (h : ∀ t ∈ l, CV t) : CV (unionC l) := unionF_cv (Fl.of h)
theorem unionC_congr {l m : List Ty} (hl : ∀ t ∈ l, CV t) (hm : ∀ t ∈ m, CV t) (h : ∀ x, x ∈ l.flatMap Ty.flat ↔ x ∈ m.flatMap Ty.flat) : unionC l = unionC m := unionF_congr (Fl.of hl) (Fl.of hm) h
/-- unions within unions -/
theorem unionC_nest {l m : List Ty} (hl : ∀ t ∈ l, CV t) (hm : ∀ t ∈ m, CV t) : unionC (unionC m :: l) = unionC (m ++ l) := by
  unfold unionC
  rw [List.flatMap_cons, List.flatMap_append]
  exact unionF_rest (Fl.of hm) (Fl.of hl)
/-- a union of its parts -/
theorem unionF_self {t : Ty} (h : CV t) (hk : t.kind = 16) : unionF t.parts = t := by
  obtain ⟨ps, rfl, hl, hp, hs, hg⟩ := h.union hk
  have hF : Fl ps := fun x hx => ⟨(hp x hx).1, (hp x hx).2.1⟩
  have er : ∀ x, x ∈ restU ps ↔ x ∈ ps := fun x => by
    rw [restU_mem]
    exact ⟨fun q => q.1, fun q => ⟨q, hg x q⟩⟩
  show unionF ps = _
  rcases unionF_cases ps with ⟨⟨x, hx, hx1⟩, _⟩ | ⟨_, ⟨x, hx, hx1⟩, _⟩ | ⟨_, _, e⟩
  · exact absurd hx1 (hp x hx).2.2.1
  · exact absurd hx1 (hp x hx).2.2.2.1
  · have es : sortU (restU ps) = ps := by
      refine sorted_ext (sortU_sorted _) hs fun x => ?_
      rw [sortU_mem _ (fun a ha b hb => hF.key a (restU_mem.1 ha).1 b (restU_mem.1 hb).1)]
      exact er x
    rw [e, es]
    rcases wrapU_cases ps with ⟨e, _⟩ | ⟨x, e, _⟩ | ⟨_, e⟩
    · rw [e] at hl; simp at hl
    · rw [e] at hl; simp at hl
    · exact e
theorem flat_self {F : List Ty} (h : ∀ x ∈ F, x.kind ≠ 16) : F.flatMap Ty.flat = F := by
  induction F with
  | nil => rfl
  | cons x r ih =>
    rw [List.flatMap_cons, ih fun y hy => h y (by simp [hy])]
    unfold Ty.flat
    rw [if_neg (h x (by simp))]
    rfl
theorem unionC_self {t : Ty} (h : CV t) (hk : t.kind = 16) : unionC t.parts = t := by
  have := unionF_self h hk
  obtain ⟨ps, rfl, hl, hp, hs, hg⟩ := h.union hk
  unfold unionC
  rw [flat_self (F := (Ty.mk 16 0 ⟨#[]⟩ ps [] []).parts) fun x hx => (hp x hx).2.1]
  exact this
theorem unionC_one {t : Ty} (h : CV t) : unionC [t] = t := by
  by_cases hk : t.kind = 16
  · have e : ([t] : List Ty).flatMap Ty.flat = t.parts := by simp [Ty.flat, hk]
    unfold unionC
    rw [e]
    exact unionF_self h hk
  · have e : ([t] : List Ty).flatMap Ty.flat = [t] := by simp [Ty.flat, hk]
    unfold unionC
    rw [e]
    have hlow : ∀ k : Int, k ≤ 10 → t.kind = k → basicT k = t := fun k h1 h2 => by
      have := h.valid.low (by omega)
      rw [h2] at this
      exact this.symm
    rcases unionF_cases [t] with ⟨⟨x, hx, hx1⟩, e⟩ | ⟨_, ⟨x, hx, hx1⟩, e⟩ | ⟨_, _, e⟩
    · rw [e]
      cases List.mem_singleton.1 hx
      exact hlow 1 (by decide) hx1
    · rw [e]
      cases List.mem_singleton.1 hx
      exact hlow 2 (by decide) hx1
    · rw [e]
      by_cases h3 : t.kind = 3
      · have er : restU [t] = [] := by
          rw [List.eq_nil_iff_forall_not_mem]
          intro x hx
          obtain ⟨q1, q2⟩ := restU_mem.1 hx
          cases List.mem_singleton.1 q1
          exact q2 (.inl h3)
        rw [er]
        exact hlow 3 (by decide) h3
      · have er : restU [t] = [t] := by
          have hn : ¬ Goes [t] t := fun hg => by
            rcases hg with hg | ⟨hg, q, hq, hr⟩ | ⟨hg, q, hq, hr⟩ | ⟨hg, q, hq, hr, _⟩
            · exact h3 hg
            · cases List.mem_singleton.1 hq; omega
            · cases List.mem_singleton.1 hq; omega
            · cases List.mem_singleton.1 hq; omega
          have hb : goesB [t] t = false := by
            cases hq : goesB [t] t with
            | false => rfl
            | true => exact (hn ((goesB_iff _ _).1 hq)).elim
          simp [restU, hb]
        rw [er]
        rfl

end Go.Proofs.YtbghpkoimbmijaaGreatDoor
