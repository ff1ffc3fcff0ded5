import Derived.Test.YtiaepldmgighbaaGreatDoorU25
namespace Go.Proofs.YtiaepldmgighbaaGreatDoor
open Go.RowKit
set_option linter.unusedSimpArgs false
def ja3 (k : Int) : Ty := .mk k 0 ⟨#[]⟩ [] [] []
mutual
theorem Ty.canon_canon : ∀ t : Ty,t.canon.canon = t.canon
 | .mk k n nm ps ns ms => by
   rw [Ty.canon,Ty.canon,Ty.canons_canons ps]
   split <;> rfl
theorem Ty.canons_canons : ∀ ps : List Ty,Ty.canons (Ty.canons ps) = Ty.canons ps
 | [] => rfl
 | p :: r => by rw [Ty.canons,Ty.canons,Ty.canon_canon p,Ty.canons_canons r]
end
theorem Ty.partT_canon (t : Ty) : t.canon.partT = t.partT:=by unfold Ty.partT;rw [Ty.canon_kind,Ty.text_canon]
theorem Ty.canon_parts : ∀ t : Ty,t.canon.parts = t.parts.map Ty.canon
 | .mk k n nm ps ns ms => by rw [Ty.canon_mk];rfl
theorem Ty.canon_valid {t : Ty} (h : t.Valid) : t.canon.Valid:=by
 induction h with
 | @basic k h1 h2 => rw [Ty.canon_mk,if_neg (by omega)];exact .basic h1 h2
 | num h1 h2 => rw [Ty.canon_mk,if_neg (by decide)];exact .num h1 h2
 | str h => rw [Ty.canon_mk,if_neg (by decide)];exact .str h
 | arr hp ih => rw [Ty.canon_mk,if_neg (by decide)];exact .arr ih
 | obj xs hn hr hp ih =>
   rw [Ty.canon_mk,if_neg (by decide)]
   have h:=Ty.Valid.obj (xs.map fun x => (x.1,x.2.1,x.2.2.canon)) (fun x hx => by
    obtain ⟨y,hy,rfl⟩:=List.mem_map.1 hx
    exact hn y hy) (by rw [List.map_map];exact hr) (fun x hx => by
    obtain ⟨y,hy,rfl⟩:=List.mem_map.1 hx
    exact ih y hy)
   simpa [List.map_map,Function.comp_def] using h
 | fn xs r ho hp hr ih1 ih2 =>
   rw [Ty.canon_mk,if_neg (by decide)]
   have h:=Ty.Valid.fn (xs.map fun x => (x.1.canon,x.2)) r.canon (by rw [List.map_map];exact ho) (fun x hx => by
    obtain ⟨y,hy,rfl⟩:=List.mem_map.1 hx
    exact ih1 y hy) ih2
   simpa [List.map_map,Function.comp_def] using h
 | un ps hl hk hs hg hp ih =>
   rw [Ty.canon_mk,if_neg (by decide)]
   refine .un (ps.map Ty.canon) (by simpa using hl) (fun p hp' => ?_) ?_ (fun p hp' => ?_) (fun p hp' => ?_)
   ·obtain ⟨q,hq,rfl⟩:=List.mem_map.1 hp'
    rw [Ty.canon_kind]
    exact hk q hq
   ·rw [List.pairwise_map]
    refine hs.imp ?_
    intro a b h
    rw [Ty.partT_canon,Ty.partT_canon]
    exact h
   ·obtain ⟨q,hq,rfl⟩:=List.mem_map.1 hp'
    obtain ⟨g1,g2,g3⟩:=hg q hq
    refine ⟨fun hk1 x hx => ?_,fun hk1 x hx => ?_,fun hk1 x hx hx9 e he => ?_⟩
    ·obtain ⟨y,hy,rfl⟩:=List.mem_map.1 hx
     rw [Ty.canon_kind] at hk1 ⊢
     exact g1 hk1 y hy
    ·obtain ⟨y,hy,rfl⟩:=List.mem_map.1 hx
     rw [Ty.canon_kind] at hk1 ⊢
     exact g2 hk1 y hy
    ·obtain ⟨y,hy,rfl⟩:=List.mem_map.1 hx
     rw [Ty.canon_kind] at hk1 hx9
     rw [Ty.canon_parts] at he
     obtain ⟨e',he',rfl⟩:=List.mem_map.1 he
     rw [Ty.text_canon,Ty.text_canon]
     exact g3 hk1 y hy hx9 e' he'
   ·obtain ⟨q,hq,rfl⟩:=List.mem_map.1 hp'
    exact ih q hq
 | ref ps h1 h2 hn hp ih =>
   rw [Ty.canon_mk,if_neg (by decide)]
   exact .ref _ h1 h2 hn fun p hp' => by
    obtain ⟨q,hq,rfl⟩:=List.mem_map.1 hp'
    exact ih q hq
 | @named k n nm hk h1 h2 hn => rw [Ty.canon_mk,if_neg (by omega)];exact .named hk h1 h2 hn
 | case h1 h2 hn h1' h2' hn' =>
   rw [Ty.canon_mk,if_pos rfl]
   simp only [List.map_cons,List.map_nil,Ty.canon_mk]
   rw [if_neg (by decide)]
   exact .case (by decide) (by decide) hn h1' h2' hn'
theorem Ty.Valid.parts {t : Ty} (h : t.Valid) : ∀ p ∈ t.parts,p.Valid:=by
 cases h with
 | basic => intro p hp;cases hp
 | num => intro p hp;cases hp
 | str => intro p hp;cases hp
 | arr hp => intro p h;cases List.mem_singleton.1 h;exact hp
 | obj xs hn hr hp => intro p h;obtain ⟨x,hx,rfl⟩:=List.mem_map.1 h;exact hp x hx
 | fn xs r ho hp hr =>
   intro p h
   rcases List.mem_append.1 h with h | h
   ·obtain ⟨x,hx,rfl⟩:=List.mem_map.1 h;exact hp x hx
   ·cases List.mem_singleton.1 h;exact hr
 | un ps hl hk hs hg hp => exact hp
 | ref ps h1 h2 hn hp => exact hp
 | named => intro p hp;cases hp
 | case h1 h2 hn h1' h2' hn' => intro p h;cases List.mem_singleton.1 h;exact .named (.inr (.inl rfl)) h1' h2' hn'
theorem jiK {p q : Ty} (hp : p.Valid) (hq : q.Valid) (h1 : p.kind ≠ 16) (h2 : q.kind ≠ 16) (h : p.partT = q.partT) : p.canon = q.canon:=by
 obtain ⟨b,R,e1,e2⟩:=jdo (reads (p.nodes + q.nodes)) hp h1 (by omega) (s := []) trivial rfl
 obtain ⟨b',R',e3,e4⟩:=jdo (reads (p.nodes + q.nodes)) hq h2 (by omega) (s := []) trivial rfl
 rw [h,e3] at e1
 injection e1 with e1
 injection e1 with e1 e5
 injection e5 with _ e5
 subst e1 e5
 rw [e2] at e4
 injection e4 with e4 _
structure CV (t : Ty) : Prop where
 valid : t.Valid
 same : t.canon = t
theorem CV.of {t : Ty} (h : t.Valid) : CV t.canon:=⟨Ty.canon_valid h,Ty.canon_canon t⟩
theorem jiR {f : Ty → Ty} : ∀ {l : List Ty},l.map f = l → ∀ p ∈ l,f p = p
 | [],_,p,h => by cases h
 | x :: r,e,p,h => by
   simp only [List.map_cons,List.cons.injEq] at e
   rcases List.mem_cons.1 h with rfl | h
   ·exact e.1
   ·exact jiR e.2 p h
theorem CV.parts {t : Ty} (h : CV t) : ∀ p ∈ t.parts,CV p:=fun p hp => ⟨h.valid.parts p hp,by
 have e:=Ty.canon_parts t
 rw [h.same] at e
 exact jiR e.symm p hp⟩
theorem CV.inj {p q : Ty} (hp : CV p) (hq : CV q) (h1 : p.kind ≠ 16) (h2 : q.kind ≠ 16) (h : p.partT = q.partT) : p = q:=by
 have:=jiK hp.valid hq.valid h1 h2 h
 rwa [hp.same,hq.same] at this
theorem CV.text_inj {p q : Ty} (hp : CV p) (hq : CV q) (h : p.text = q.text) : p = q:=by
 have:=Go.Proofs.YtiaepldmgighbaaGreatDoor.text_inj hp.valid hq.valid h
 rwa [hp.same,hq.same] at this
theorem CV.basic {k : Int} (h1 : 1 ≤ k) (h2 : k ≤ 10) : CV (ja3 k):=⟨.basic h1 h2,by unfold ja3;rw [Ty.canon_mk,if_neg (by omega)];rfl⟩
def LtP (a b : Ty) : Prop:=ltS a.partT b.partT = true
theorem LtP.asymm {a b : Ty} (h : LtP a b) (k : LtP b a) : False:=by
 have:=ltS_tot.asymm _ _ h
 unfold LtP at k
 rw [k] at this
 cases this
theorem LtP.trans {a b c : Ty} (h : LtP a b) (k : LtP b c) : LtP a c:=by
 rcases ltS_tot.neg a.partT c.partT b.partT h with q | q
 ·exact q
 ·exact (LtP.asymm k q).elim
theorem jbW : ∀ {a b : List Ty},a.Pairwise LtP → b.Pairwise LtP → (∀ x,x ∈ a ↔ x ∈ b) → a = b
 | [],[],_,_,_ => rfl
 | [],y :: b,_,_,h => absurd ((h y).2 (by simp)) (by simp)
 | x :: a,[],_,_,h => absurd ((h x).1 (by simp)) (by simp)
 | x :: a,y :: b,ha,hb,h => by
   rw [List.pairwise_cons] at ha hb
   have hxy : x = y:=by
    rcases List.mem_cons.1 ((h x).1 (by simp)) with e | e
    ·exact e
    ·rcases List.mem_cons.1 ((h y).2 (by simp)) with e2 | e2
     ·exact e2.symm
     ·exact (LtP.asymm (ha.1 y e2) (hb.1 x e)).elim
   subst hxy
   rw [jbW ha.2 hb.2 fun z => ⟨fun hz => ?_,fun hz => ?_⟩]
   ·rcases List.mem_cons.1 ((h z).1 (by simp [hz])) with e | e
    ·subst e;exact (LtP.asymm (ha.1 z hz) (ha.1 z hz)).elim
    ·exact e
   ·rcases List.mem_cons.1 ((h z).2 (by simp [hz])) with e | e
    ·subst e;exact (LtP.asymm (hb.1 z hz) (hb.1 z hz)).elim
    ·exact e
def insU (x : Ty) : List Ty → List Ty
 | [] => [x]
 | y :: r => if ltS x.partT y.partT = true then x :: y :: r else if ltS y.partT x.partT = true then y :: insU x r else y :: r
def jbH (l : List Ty) : List Ty:=l.foldr insU []
theorem jeq (x : Ty) : ∀ (l : List Ty) (z : Ty),z ∈ insU x l → z = x ∨ z ∈ l
 | [],z,h => by simp [insU] at h;exact .inl h
 | y :: r,z,h => by
   unfold insU at h
   split at h
   ·rcases List.mem_cons.1 h with e | e
    ·exact .inl e
    ·exact .inr e
   ·split at h
    ·rcases List.mem_cons.1 h with e | e
     ·exact .inr (by simp [e])
     ·rcases jeq x r z e with e | e
      ·exact .inl e
      ·exact .inr (by simp [e])
    ·exact .inr h
theorem jj0 (x : Ty) : ∀ (l : List Ty) (z : Ty),z ∈ l → z ∈ insU x l
 | [],z,h => by cases h
 | y :: r,z,h => by
   unfold insU
   split
   ·exact List.mem_cons_of_mem _ h
   ·split
    ·rcases List.mem_cons.1 h with e | e
     ·simp [e]
     ·exact List.mem_cons_of_mem _ (jj0 x r z e)
    ·exact h
theorem jj1 (x : Ty) : ∀ (l : List Ty),(∀ y ∈ l,y.partT = x.partT → y = x) → x ∈ insU x l
 | [],_ => by simp [insU]
 | y :: r,h => by
   unfold insU
   split
   ·simp
   ·rename_i h1
    split
    ·exact List.mem_cons_of_mem _ (jj1 x r fun z hz => h z (by simp [hz]))
    ·rename_i h2
     have:=h y (by simp) (ltS_tot.tri _ _ (by simpa using h2) (by simpa using h1))
     simp [this]
theorem jf3 (x : Ty) : ∀ (l : List Ty),l.Pairwise LtP → (insU x l).Pairwise LtP
 | [],_ => by simp [insU]
 | y :: r,h => by
   have h':=h
   rw [List.pairwise_cons] at h'
   unfold insU
   split
   ·rename_i h1
    rw [List.pairwise_cons]
    refine ⟨fun z hz => ?_,h⟩
    rcases List.mem_cons.1 hz with e | e
    ·subst e;exact h1
    ·exact LtP.trans h1 (h'.1 z e)
   ·split
    ·rename_i h2
     rw [List.pairwise_cons]
     refine ⟨fun z hz => ?_,jf3 x r h'.2⟩
     rcases jeq x r z hz with e | e
     ·subst e;exact h2
     ·exact h'.1 z e
    ·exact h
theorem jaS : ∀ l : List Ty,(jbH l).Pairwise LtP
 | [] => List.Pairwise.nil
 | x :: r => jf3 x _ (jaS r)
def jjm (l : List Ty) : Prop := ∀ x ∈ l,∀ y ∈ l,x.partT = y.partT → x = y
theorem jbj : ∀ (l : List Ty),jjm l → ∀ z,z ∈ jbH l ↔ z ∈ l
 | [],_,z => Iff.rfl
 | x :: r,h,z => by
   have ih:=jbj r fun a ha b hb => h a (by simp [ha]) b (by simp [hb])
   constructor
   ·intro hz
    rcases jeq x _ z hz with e | e
    ·simp [e]
    ·exact List.mem_cons_of_mem _ ((ih z).1 e)
   ·intro hz
    rcases List.mem_cons.1 hz with e | e
    ·subst e
     exact jj1 z _ fun y hy e => h y (List.mem_cons_of_mem _ ((ih y).1 hy)) z (by simp) e
    ·exact jj0 x _ z ((ih z).2 e)
def Ty.flat (t : Ty) : List Ty:=if t.kind = 16 then t.parts else [t]
def Goes (F : List Ty) (x : Ty) : Prop:=x.kind = 3 ∨ (x.kind = 11 ∧ ∃ q ∈ F,q.kind = 7) ∨ (x.kind = 12 ∧ ∃ q ∈ F,q.kind = 8) ∨ (x.kind = 20 ∧ ∃ q ∈ F,q.kind = 19 ∧ ∃ e ∈ x.parts,q.text = e.text)
noncomputable def jhw (F : List Ty) (x : Ty) : Bool:=by classical exact decide (Goes F x)
theorem jcE (F : List Ty) (x : Ty) : jhw F x = true ↔ Goes F x:=by unfold jhw;simp
noncomputable def jbg (F : List Ty) : List Ty:=F.filter fun x => !jhw F x
theorem jaf {F : List Ty} {x : Ty} : x ∈ jbg F ↔ x ∈ F ∧ ¬ Goes F x:=by
 unfold jbg
 rw [List.mem_filter]
 cases h : jhw F x with
 | true => simp [(jcE F x).1 h]
 | false =>
   have : ¬ Goes F x:=fun q => by rw [(jcE F x).2 q] at h;cases h
   simp [this]
def jec : List Ty → Ty
 | [] => ja3 3
 | [x] => x
 | x :: y :: r => .mk 16 0 ⟨#[]⟩ (x :: y :: r) [] []
noncomputable def jaR (F : List Ty) : Ty:=by
 classical exact if ∃ x ∈ F,x.kind = 1 then ja3 1 else if ∃ x ∈ F,x.kind = 2 then ja3 2 else jec (jbH (jbg F))
noncomputable def jal (l : List Ty) : Ty:=jaR (l.flatMap Ty.flat)
def Fl (F : List Ty) : Prop := ∀ x ∈ F,CV x ∧ x.kind ≠ 16
theorem Fl.key {F : List Ty} (h : Fl F) : jjm F:=fun x hx y hy e => (h x hx).1.inj (h y hy).1 (h x hx).2 (h y hy).2 e
theorem CV.union {t : Ty} (h : CV t) (hk : t.kind = 16) : ∃ ps,t = .mk 16 0 ⟨#[]⟩ ps [] [] ∧ 2 ≤ ps.length ∧ (∀ p ∈ ps,CV p ∧ p.kind ≠ 16 ∧ p.kind ≠ 1 ∧ p.kind ≠ 2 ∧ p.kind ≠ 3) ∧ ps.Pairwise LtP ∧ ∀ p ∈ ps,¬ Goes ps p:=by
 have hv:=h.valid
 have hpp:=h.parts
 cases hv with
 | un ps hl hk' hs hg hp =>
   refine ⟨ps,rfl,hl,fun p hp' => ⟨hpp p hp',hk' p hp'⟩,hs,fun p hp' hgo => ?_⟩
   obtain ⟨g1,g2,g3⟩:=hg p hp'
   rcases hgo with h | ⟨h,q,hq,hq2⟩ | ⟨h,q,hq,hq2⟩ | ⟨h,q,hq,hq2,e,he,hte⟩
   ·exact (hk' p hp').2.2.2 h
   ·exact g1 h q hq hq2
   ·exact g2 h q hq hq2
   ·exact g3 h q hq hq2 e he hte
 | basic h1 h2 => exact absurd hk (by simp only [Ty.kind];omega)
 | num => exact absurd hk (by simp only [Ty.kind];omega)
 | str => exact absurd hk (by simp only [Ty.kind];omega)
 | arr => exact absurd hk (by simp only [Ty.kind];omega)
 | obj => exact absurd hk (by simp only [Ty.kind];omega)
 | fn => exact absurd hk (by simp only [Ty.kind];omega)
 | ref => exact absurd hk (by simp only [Ty.kind];omega)
 | named hk' => exact absurd hk (by simp only [Ty.kind];omega)
 | case => exact absurd hk (by simp only [Ty.kind];omega)
theorem CV.flat {t : Ty} (h : CV t) : Fl t.flat:=by
 unfold Ty.flat
 split
 ·rename_i hk
  obtain ⟨ps,rfl,_,h2,_⟩:=h.union hk
  exact fun x hx => ⟨(h2 x hx).1,(h2 x hx).2.1⟩
 ·rename_i hk
  intro x hx
  cases List.mem_singleton.1 hx
  exact ⟨h,hk⟩
theorem Fl.of {l : List Ty} (h : ∀ t ∈ l,CV t) : Fl (l.flatMap Ty.flat):=fun x hx => by
 obtain ⟨t,ht,hx⟩:=List.mem_flatMap.1 hx
 exact (h t ht).flat x hx
theorem Goes.congr {F G : List Ty} (h : ∀ x,x ∈ F ↔ x ∈ G) (x : Ty) : Goes F x ↔ Goes G x:=by
 unfold Goes
 simp only [h]
theorem Goes.mono {F G : List Ty} (h : ∀ x ∈ F,x ∈ G) {x : Ty} (hg : Goes F x) : Goes G x:=by
 rcases hg with hg | ⟨hg,q,hq,hr⟩ | ⟨hg,q,hq,hr⟩ | ⟨hg,q,hq,hr⟩
 ·exact .inl hg
 ·exact .inr (.inl ⟨hg,q,h q hq,hr⟩)
 ·exact .inr (.inr (.inl ⟨hg,q,h q hq,hr⟩))
 ·exact .inr (.inr (.inr ⟨hg,q,h q hq,hr⟩))
theorem Goes.rest {F : List Ty} {x : Ty} (h : Goes F x) : Goes (jbg F) x:=by
 have key : ∀ q ∈ F,q.kind = 7 ∨ q.kind = 8 ∨ q.kind = 19 → q ∈ jbg F:=fun q hq hk => jaf.2 ⟨hq,fun hg => by
  rcases hg with hg | ⟨hg,_⟩ | ⟨hg,_⟩ | ⟨hg,_⟩ <;> omega⟩
 rcases h with hg | ⟨hg,q,hq,hr⟩ | ⟨hg,q,hq,hr⟩ | ⟨hg,q,hq,hr,he⟩
 ·exact .inl hg
 ·exact .inr (.inl ⟨hg,q,key q hq (.inl hr),hr⟩)
 ·exact .inr (.inr (.inl ⟨hg,q,key q hq (.inr (.inl hr)),hr⟩))
 ·exact .inr (.inr (.inr ⟨hg,q,key q hq (.inr (.inr hr)),hr,he⟩))
theorem jdK {l : List Ty} (h : ∀ x ∈ l,x.kind ≠ 16) : (jec l).flat = if l = [] then [ja3 3] else l:=by
 match l,h with
 | [],_ => rfl
 | [x],h =>
   show (if x.kind = 16 then x.parts else [x]) = _
   rw [if_neg (h x (by simp))]
   simp
 | x :: y :: r,_ => simp [jec,Ty.flat,Ty.kind,Ty.parts]
theorem jbO (k : Int) (h : k ≠ 16) : (ja3 k).flat = [ja3 k]:=by unfold Ty.flat ja3;rw [if_neg (by simpa [Ty.kind] using h)]
theorem Ty.Valid.low {t : Ty} (h : t.Valid) (hk : t.kind ≤ 10) : t = ja3 t.kind:=by
 cases h with
 | basic h1 h2 => rfl
 | un => exact absurd hk (by simp only [Ty.kind];omega)
 | num => exact absurd hk (by simp only [Ty.kind];omega)
 | str => exact absurd hk (by simp only [Ty.kind];omega)
 | arr => exact absurd hk (by simp only [Ty.kind];omega)
 | obj => exact absurd hk (by simp only [Ty.kind];omega)
 | fn => exact absurd hk (by simp only [Ty.kind];omega)
 | ref => exact absurd hk (by simp only [Ty.kind];omega)
 | named hk' => exact absurd hk (by simp only [Ty.kind];omega)
 | case => exact absurd hk (by simp only [Ty.kind];omega)
theorem jaq (F : List Ty) : ((∃ x ∈ F,x.kind = 1) ∧ jaR F = ja3 1) ∨ ((¬ ∃ x ∈ F,x.kind = 1) ∧ (∃ x ∈ F,x.kind = 2) ∧ jaR F = ja3 2) ∨ ((¬ ∃ x ∈ F,x.kind = 1) ∧ (¬ ∃ x ∈ F,x.kind = 2) ∧ jaR F = jec (jbH (jbg F))):=by
 classical
 unfold jaR
 by_cases h1 : ∃ x ∈ F,x.kind = 1
 ·exact .inl ⟨h1,by rw [if_pos h1]⟩
 ·by_cases h2 : ∃ x ∈ F,x.kind = 2
  ·exact .inr (.inl ⟨h1,h2,by rw [if_neg h1,if_pos h2]⟩)
  ·exact .inr (.inr ⟨h1,h2,by rw [if_neg h1,if_neg h2]⟩)
theorem jbr (l : List Ty) : (l = [] ∧ jec l = ja3 3) ∨ (∃ x,l = [x] ∧ jec l = x) ∨ (2 ≤ l.length ∧ jec l = .mk 16 0 ⟨#[]⟩ l [] []):=by
 match l with
 | [] => exact .inl ⟨rfl,rfl⟩
 | [x] => exact .inr (.inl ⟨x,rfl,rfl⟩)
 | x :: y :: r => exact .inr (.inr ⟨by simp,rfl⟩)
theorem jgL {F : List Ty} (hF : Fl F) : CV (jaR F):=by
 rcases jaq F with ⟨_,e⟩ | ⟨_,_,e⟩ | ⟨h1,h2,e⟩
 ·rw [e];exact CV.basic (by decide) (by decide)
 ·rw [e];exact CV.basic (by decide) (by decide)
 ·rw [e]
  have hkey : jjm (jbg F):=fun a ha b hb => hF.key a (jaf.1 ha).1 b (jaf.1 hb).1
  have hsm:=jbj _ hkey
  have hin : ∀ x ∈ jbH (jbg F),x ∈ F ∧ ¬ Goes F x:=fun x hx => jaf.1 ((hsm x).1 hx)
  rcases jbr (jbH (jbg F)) with ⟨_,e⟩ | ⟨x,hl,e⟩ | ⟨hl,e⟩
  ·rw [e];exact CV.basic (by decide) (by decide)
  ·rw [e];exact (hF x (hin x (by rw [hl];simp)).1).1
  ·rw [e]
   refine ⟨.un _ hl (fun p hp => ⟨(hF p (hin p hp).1).2,fun q => h1 ⟨p,(hin p hp).1,q⟩,fun q => h2 ⟨p,(hin p hp).1,q⟩,fun q => (hin p hp).2 (.inl q)⟩) (jaS _) (fun p hp => ⟨fun hk q hq hq7 => (hin p hp).2 (.inr (.inl ⟨hk,q,(hin q hq).1,hq7⟩)),fun hk q hq hq7 => (hin p hp).2 (.inr (.inr (.inl ⟨hk,q,(hin q hq).1,hq7⟩))),fun hk q hq hq9 e he ht => (hin p hp).2 (.inr (.inr (.inr ⟨hk,q,(hin q hq).1,hq9,e,he,ht⟩)))⟩) (fun p hp => (hF p (hin p hp).1).1.valid),?_⟩
   rw [Ty.canon_mk,if_neg (by decide)]
   congr 1
   have : ∀ l : List Ty,(∀ p ∈ l,p.canon = p) → l.map Ty.canon = l:=fun l h => by
    have:=List.map_congr_left (g:=id) h
    rw [this,List.map_id]
   exact this _ fun p hp => (hF p (hin p hp).1).1.same
theorem jdf {l : List Ty} (h : ∀ t ∈ l,CV t) : CV (jal l):=jgL (Fl.of h)
theorem jew {t : Ty} (h : CV t) (hk : t.kind = 16) : jaR t.parts = t:=by
 obtain ⟨ps,rfl,hl,hp,hs,hg⟩:=h.union hk
 have hF : Fl ps:=fun x hx => ⟨(hp x hx).1,(hp x hx).2.1⟩
 have er : ∀ x,x ∈ jbg ps ↔ x ∈ ps:=fun x => by
  rw [jaf]
  exact ⟨fun q => q.1,fun q => ⟨q,hg x q⟩⟩
 show jaR ps = _
 rcases jaq ps with ⟨⟨x,hx,hx1⟩,_⟩ | ⟨_,⟨x,hx,hx1⟩,_⟩ | ⟨_,_,e⟩
 ·exact absurd hx1 (hp x hx).2.2.1
 ·exact absurd hx1 (hp x hx).2.2.2.1
 ·have es : jbH (jbg ps) = ps:=by
   refine jbW (jaS _) hs fun x => ?_
   rw [jbj _ (fun a ha b hb => hF.key a (jaf.1 ha).1 b (jaf.1 hb).1)]
   exact er x
  rw [e,es]
  rcases jbr ps with ⟨e,_⟩ | ⟨x,e,_⟩ | ⟨_,e⟩
  ·rw [e] at hl;simp at hl
  ·rw [e] at hl;simp at hl
  ·exact e
theorem jlr {F : List Ty} (h : ∀ x ∈ F,x.kind ≠ 16) : F.flatMap Ty.flat = F:=by
 induction F with
 | nil => rfl
 | cons x r ih =>
   rw [List.flatMap_cons,ih fun y hy => h y (by simp [hy])]
   unfold Ty.flat
   rw [if_neg (h x (by simp))]
   rfl
theorem jex {t : Ty} (h : CV t) (hk : t.kind = 16) : jal t.parts = t:=by
 have:=jew h hk
 obtain ⟨ps,rfl,hl,hp,hs,hg⟩:=h.union hk
 unfold jal
 rw [jlr (F:=(Ty.mk 16 0 ⟨#[]⟩ ps [] []).parts) fun x hx => (hp x hx).2.1]
 exact this
theorem jfA {t : Ty} (h : CV t) : jal [t] = t:=by
 by_cases hk : t.kind = 16
 ·have e : ([t] : List Ty).flatMap Ty.flat = t.parts:=by simp [Ty.flat,hk]
  unfold jal
  rw [e]
  exact jew h hk
 ·have e : ([t] : List Ty).flatMap Ty.flat = [t]:=by simp [Ty.flat,hk]
  unfold jal
  rw [e]
  have hlow : ∀ k : Int,k ≤ 10 → t.kind = k → ja3 k = t:=fun k h1 h2 => by
   have:=h.valid.low (by omega)
   rw [h2] at this
   exact this.symm
  rcases jaq [t] with ⟨⟨x,hx,hx1⟩,e⟩ | ⟨_,⟨x,hx,hx1⟩,e⟩ | ⟨_,_,e⟩
  ·rw [e]
   cases List.mem_singleton.1 hx
   exact hlow 1 (by decide) hx1
  ·rw [e]
   cases List.mem_singleton.1 hx
   exact hlow 2 (by decide) hx1
  ·rw [e]
   by_cases h3 : t.kind = 3
   ·have er : jbg [t] = []:=by
     rw [List.eq_nil_iff_forall_not_mem]
     intro x hx
     obtain ⟨q1,q2⟩:=jaf.1 hx
     cases List.mem_singleton.1 q1
     exact q2 (.inl h3)
    rw [er]
    exact hlow 3 (by decide) h3
   ·have er : jbg [t] = [t]:=by
     have hn : ¬ Goes [t] t:=fun hg => by
      rcases hg with hg | ⟨hg,q,hq,hr⟩ | ⟨hg,q,hq,hr⟩ | ⟨hg,q,hq,hr,_⟩
      ·exact h3 hg
      ·cases List.mem_singleton.1 hq;omega
      ·cases List.mem_singleton.1 hq;omega
      ·cases List.mem_singleton.1 hq;omega
     have hb : jhw [t] t = false:=by
      cases hq : jhw [t] t with
      | false => rfl
      | true => exact (hn ((jcE _ _).1 hq)).elim
     simp [jbg,hb]
    rw [er]
    rfl
noncomputable def boolT : Ty:=jal [ja3 10,ja3 9]
mutual
noncomputable def jet : Ty → Ty
 | .mk k n nm ps ns ms => if k = 11 then ja3 7 else if k = 12 then ja3 8 else if k = 9 ∨ k = 10 then boolT else if k = 20 then ps.headD (ja3 3) else if k = 16 then jal (jko ps) else if k = 13 ∨ k = 14 then .mk k n nm (jko ps) ns ms else .mk k n nm ps ns ms
noncomputable def jko : List Ty → List Ty
 | [] => []
 | p :: r => jet p :: jko r
end
theorem jlY {k : Int} (h : k ≠ 9 ∧ k ≠ 10 ∧ k ≠ 11 ∧ k ≠ 12 ∧ k ≠ 13 ∧ k ≠ 14 ∧ k ≠ 16 ∧ k ≠ 20) (n : Int) (nm : ByteArray) (ps : List Ty) (ns : List ByteArray) (ms : List Bool) : jet (.mk k n nm ps ns ms) = .mk k n nm ps ns ms:=by
 rw [jet,if_neg (by omega),if_neg (by omega),if_neg (by omega),if_neg (by omega),if_neg (by omega),if_neg (by omega)]
abbrev jhB : Ty := .mk 16 0 ⟨#[]⟩ [ja3 10,ja3 9] [] []
theorem jhA : CV jhB:=by
 refine ⟨.un _ (by simp) (fun p hp => ?_) ?_ (fun p hp => ?_) (fun p hp => ?_),?_⟩
 ·simp only [List.mem_cons,List.not_mem_nil,or_false] at hp
  rcases hp with rfl | rfl <;> decide
 ·have h : ltS (ja3 10).partT (ja3 9).partT = true:=by
   have e1 : (ja3 10).partT = jaw 10:=by
    unfold Ty.partT ja3 jaK jas
    rw [jei (by decide) (by decide)]
    rfl
   have e2 : (ja3 9).partT = jaw 9:=by
    unfold Ty.partT ja3 jaK jas
    rw [jei (by decide) (by decide)]
    rfl
   rw [e1,e2]
   decide +kernel
  simp [h]
 ·simp only [List.mem_cons,List.not_mem_nil,or_false] at hp
  refine ⟨fun h => ?_,fun h => ?_,fun h => ?_⟩ <;> rcases hp with rfl | rfl <;> exact absurd h (by decide)
 ·simp only [List.mem_cons,List.not_mem_nil,or_false] at hp
  rcases hp with rfl | rfl
  ·exact .basic (by decide) (by decide)
  ·exact .basic (by decide) (by decide)
 ·rw [Ty.canon_mk,if_neg (by decide)]
  simp only [List.map_cons,List.map_nil,ja3]
  rw [Ty.canon_mk,Ty.canon_mk,if_neg (by decide),if_neg (by decide)]
  rfl
theorem jmZ : boolT = jhB:=jex jhA rfl
theorem jkf : boolT.flat = [ja3 10,ja3 9]:=by rw [jmZ];rfl
def Wid (t : Ty) : Prop := ∀ y ∈ t.flat,(jet y = y ∧ y ≠ ja3 9 ∧ y ≠ ja3 10) ∨ ((y = ja3 9 ∨ y = ja3 10) ∧ ja3 9 ∈ t.flat ∧ ja3 10 ∈ t.flat)
theorem jes {k : Int} (h1 : 1 ≤ k) (h2 : k ≤ 8) : jet (ja3 k) = ja3 k ∧ ja3 k ≠ ja3 9 ∧ ja3 k ≠ ja3 10:=by
 refine ⟨jlY (by omega) _ _ _ _ _,fun e => ?_,fun e => ?_⟩
 ·have:=congrArg Ty.kind e
  simp only [ja3,Ty.kind] at this
  omega
 ·have:=congrArg Ty.kind e
  simp only [ja3,Ty.kind] at this
  omega
theorem Wid.one {t : Ty} (hk : t.kind ≠ 16) (h : jet t = t) (h9 : t.kind ≠ 9) (h10 : t.kind ≠ 10) : Wid t:=fun y hy => by
 unfold Ty.flat at hy
 rw [if_neg hk] at hy
 cases List.mem_singleton.1 hy
 exact .inl ⟨h,fun e => h9 (by rw [e];rfl),fun e => h10 (by rw [e];rfl)⟩
theorem Wid.basic {k : Int} (h1 : 1 ≤ k) (h2 : k ≤ 8) : Wid (ja3 k):=Wid.one (by simp only [ja3,Ty.kind];omega) (jes h1 h2).1 (by simp only [ja3,Ty.kind];omega) (by simp only [ja3,Ty.kind];omega)
theorem Wid.bool : Wid boolT:=fun y hy => by
 rw [jkf] at hy ⊢
 simp only [List.mem_cons,List.not_mem_nil,or_false] at hy
 refine .inr ⟨hy.symm,by simp,by simp⟩
theorem Wid.union {l : List Ty} (hl : ∀ t ∈ l,CV t ∧ Wid t) : Wid (jal l):=by
 have hF:=Fl.of fun t ht => (hl t ht).1
 unfold jal
 generalize hFF : l.flatMap Ty.flat = F at hF
 have hW : ∀ y ∈ F,(jet y = y ∧ y ≠ ja3 9 ∧ y ≠ ja3 10) ∨ ((y = ja3 9 ∨ y = ja3 10) ∧ ja3 9 ∈ F ∧ ja3 10 ∈ F):=fun y hy => by
  rw [← hFF] at hy
  obtain ⟨t,ht,hy⟩:=List.mem_flatMap.1 hy
  rcases (hl t ht).2 y hy with h | ⟨h,h1,h2⟩
  ·exact .inl h
  ·exact .inr ⟨h,by rw [← hFF];exact List.mem_flatMap.2 ⟨t,ht,h1⟩,by rw [← hFF];exact List.mem_flatMap.2 ⟨t,ht,h2⟩⟩
 rcases jaq F with ⟨_,e⟩ | ⟨_,_,e⟩ | ⟨_,_,e⟩
 ·rw [e];exact Wid.basic (by decide) (by decide)
 ·rw [e];exact Wid.basic (by decide) (by decide)
 ·rw [e]
  have hkey : jjm (jbg F):=fun a ha b hb => hF.key a (jaf.1 ha).1 b (jaf.1 hb).1
  have hsm:=jbj _ hkey
  have hfl:=jdK (l:=jbH (jbg F)) fun y hy => (hF y (jaf.1 ((hsm y).1 hy)).1).2
  intro y hy
  rw [hfl] at hy
  rw [hfl]
  split at hy
  ·rename_i h0
   cases List.mem_singleton.1 hy
   exact .inl (jes (by decide) (by decide))
  ·rename_i h0
   rw [if_neg h0]
   have hyr:=(hsm y).1 hy
   rcases hW y (jaf.1 hyr).1 with h | ⟨h,h1,h2⟩
   ·exact .inl h
   ·refine .inr ⟨h,(hsm _).2 (jaf.2 ⟨h1,fun hg => ?_⟩),(hsm _).2 (jaf.2 ⟨h2,fun hg => ?_⟩)⟩
    ·rcases hg with hg | ⟨hg,_⟩ | ⟨hg,_⟩ | ⟨hg,_⟩ <;> exact absurd hg (by decide)
    ·rcases hg with hg | ⟨hg,_⟩ | ⟨hg,_⟩ | ⟨hg,_⟩ <;> exact absurd hg (by decide)
theorem CV.arr {p : Ty} (h : CV p) : CV (.mk 13 0 ⟨#[]⟩ [p] [] []):=⟨.arr h.valid,by rw [Ty.canon_mk,if_neg (by decide)];simp [h.same]⟩
theorem jo1 {f : Ty → Ty} {l : List Ty} (h : ∀ p ∈ l,f p = p) : l.map f = l:=by
 have:=List.map_congr_left (g:=id) h
 rw [this,List.map_id]
theorem CV.obj (xs : List (ByteArray × Bool × Ty)) (hn : ∀ x ∈ xs,NameOk x.1) (hr : jc5 (xs.map (·.1))) (hp : ∀ x ∈ xs,CV x.2.2) : CV (.mk 14 0 ⟨#[]⟩ (xs.map (·.2.2)) (xs.map (·.1)) (xs.map (·.2.1))):=⟨.obj xs hn hr fun x hx => (hp x hx).valid,by
 rw [Ty.canon_mk,if_neg (by decide),jo1 (f:=Ty.canon) fun p hp' => by
  obtain ⟨x,hx,rfl⟩:=List.mem_map.1 hp'
  exact (hp x hx).same]⟩
mutual
def Ty.varsOk (P : Int → ByteArray → Prop) : Ty → Prop
 | .mk k n nm ps _ _ => (k = 18 → P n nm) ∧ Ty.varsOkL P ps
def Ty.varsOkL (P : Int → ByteArray → Prop) : List Ty → Prop
 | [] => True
 | p :: r => Ty.varsOk P p ∧ Ty.varsOkL P r
end
theorem Ty.varsOkL_mem {P : Int → ByteArray → Prop} : ∀ {ps : List Ty},Ty.varsOkL P ps → ∀ p ∈ ps,Ty.varsOk P p
 | [],_,p,h => by cases h
 | q :: r,h,p,hp => by
   rw [Ty.varsOkL] at h
   rcases List.mem_cons.1 hp with rfl | hp
   ·exact h.1
   ·exact Ty.varsOkL_mem h.2 p hp
def idOf (ts : List Ty) (p : Ty) : Nat:=(ts.map fun u => tb u.text).findIdx fun s => s == tb p.text
theorem jij {ts : List Ty} {p : Ty} (h : ∃ u ∈ ts,u.text = p.text) : (ts.map Ty.text)[idOf ts p]? = some p.text:=by
 obtain ⟨u,h1,h2⟩:=h
 have hx : ∃ x ∈ ts.map (fun u => tb u.text),(x == tb p.text) = true:=⟨tb u.text,List.mem_map.2 ⟨u,h1,rfl⟩,by rw [h2];exact beq_self_eq_true _⟩
 have hl:=List.findIdx_lt_length_of_exists hx
 have hg:=List.findIdx_getElem (w:=hl)
 rw [List.getElem_map] at hg
 rw [List.length_map] at hl
 refine List.getElem?_eq_some_iff.2 ⟨by rw [List.length_map];exact hl,?_⟩
 rw [List.getElem_map]
 exact jgS (eq_of_beq hg)
set_option linter.unusedVariables false
def smallP (x y : Ty) : Prop:=(x.kind = 11 ∧ y.kind = 7) ∨ (x.kind = 12 ∧ y.kind = 8) ∨ (x.kind = 5 ∧ y.kind = 4) ∨ ((x.kind = 19 ∨ x.kind = 20) ∧ (y.kind = 7 ∨ y.kind = 8))
def part (x : Ty) (i : Nat) : Ty:=x.parts.getD i (ja3 3)
def AskF (S : Ty → Ty → Prop) (x y : Ty) : Prop :=
 x.marks.count false ≤ y.marks.length ∧ (∀ i,i < min x.marks.length y.marks.length → S (part y i) (part x i)) ∧ ((part y y.marks.length).kind ≠ 4 → S (part x x.marks.length) (part y y.marks.length))
def AskO (S : Ty → Ty → Prop) (x y : Ty) : Prop :=
 ∀ (j : Nat) (nm : ByteArray) (m : Bool) (p : Ty),y.names[j]? = some nm → y.marks[j]? = some m → y.parts[j]? = some p →
   (nm ∉ x.names → m = true) ∧ ∀ (i : Nat) (m' : Bool) (p' : Ty),x.names[i]? = some nm → x.marks[i]? = some m' → x.parts[i]? = some p' → (m' = true → m = true) ∧ S p' p
open Classical in
def Ask (S : Ty → Ty → Prop) (x y : Ty) : Prop :=
 if x = y ∨ y.kind = 1 ∨ y.kind = 2 then True
 else if x.kind = 1 then y.kind ≠ 3
 else if x.kind = 3 then True
 else if x.kind = 2 then False
 else if x.kind = 16 then ∀ p ∈ x.parts,S p y
 else if y.kind = 16 then ∃ p ∈ y.parts,S x p
 else if smallP x y ∨ (x.kind = 20 ∧ part x 0 = y) then True
 else if x.kind = 13 ∧ y.kind = 13 then S (part x 0) (part y 0)
 else if x.kind = 15 ∧ y.kind = 15 then AskF S x y
 else if x.kind = 14 ∧ y.kind = 14 then AskO S x y
 else False
theorem AskF.mono {S T : Ty → Ty → Prop} (h : ∀ a b,S a b → T a b) {x y : Ty} (k : AskF S x y) : AskF T x y:=⟨k.1,fun i hi => h _ _ (k.2.1 i hi),fun e => h _ _ (k.2.2 e)⟩
theorem AskO.mono {S T : Ty → Ty → Prop} (h : ∀ a b,S a b → T a b) {x y : Ty} (k : AskO S x y) : AskO T x y:=fun j nm m p h1 h2 h3 => ⟨(k j nm m p h1 h2 h3).1,fun i m' p' g1 g2 g3 => ⟨((k j nm m p h1 h2 h3).2 i m' p' g1 g2 g3).1,h _ _ ((k j nm m p h1 h2 h3).2 i m' p' g1 g2 g3).2⟩⟩
theorem Ask.mono {S T : Ty → Ty → Prop} (h : ∀ a b,S a b → T a b) {x y : Ty} (k : Ask S x y) : Ask T x y:=by
 classical
 unfold Ask at k ⊢
 split
 ·trivial
 rename_i h1
 rw [if_neg h1] at k
 split
 ·rename_i h2;rw [if_pos h2] at k;exact k
 rename_i h2
 rw [if_neg h2] at k
 split
 ·trivial
 rename_i h3
 rw [if_neg h3] at k
 split
 ·rename_i h4;rw [if_pos h4] at k;exact k
 rename_i h4
 rw [if_neg h4] at k
 split
 ·rename_i h5;rw [if_pos h5] at k;exact fun p hp => h _ _ (k p hp)
 rename_i h5
 rw [if_neg h5] at k
 split
 ·rename_i h6;rw [if_pos h6] at k;obtain ⟨p,q1,q2⟩:=k;exact ⟨p,q1,h _ _ q2⟩
 rename_i h6
 rw [if_neg h6] at k
 split
 ·trivial
 rename_i h7
 rw [if_neg h7] at k
 split
 ·rename_i h8;rw [if_pos h8] at k;exact h _ _ k
 rename_i h8
 rw [if_neg h8] at k
 split
 ·rename_i h9;rw [if_pos h9] at k;exact k.mono h
 rename_i h9
 rw [if_neg h9] at k
 split
 ·rename_i h10;rw [if_pos h10] at k;exact k.mono h
 ·rename_i h10;rw [if_neg h10] at k;exact k
def Sub (x y : Ty) : Prop := ∃ S : Ty → Ty → Prop,(∀ a b,S a b → Ask S a b) ∧ S x y
theorem Sub.out {x y : Ty} (h : Sub x y) : Ask Sub x y:=by
 obtain ⟨S,h1,h2⟩:=h
 exact (h1 _ _ h2).mono fun a b hab => ⟨S,h1,hab⟩
theorem Sub.intro {x y : Ty} (h : Ask Sub x y) : Sub x y :=
 ⟨Ask Sub,fun a b hab => hab.mono fun c d hcd => hcd.out,h⟩
theorem Sub.of {R : Ty → Ty → Prop} (h : ∀ a b,R a b → Ask (fun c d => R c d ∨ Sub c d) a b) {x y : Ty} (hxy : R x y) : Sub x y :=
 ⟨fun a b => R a b ∨ Sub a b,fun a b hab => hab.elim (h a b) fun k => k.out.mono fun _ _ q => .inr q, .inl hxy⟩
section
open Classical
variable {S : Ty → Ty → Prop} {x y : Ty}
theorem jn0 : Ask S x x:=by unfold Ask;rw [if_pos (.inl rfl)];trivial
end
theorem Sub.refl (x : Ty) : Sub x x := .intro jn0
inductive Free : Ty → Prop
 | mk {k n : Int} {nm : ByteArray} {ps : List Ty} {ns : List ByteArray} {ms : List Bool} (hk : k ≠ 1 ∧ k ≠ 4 ∧ k ≠ 17 ∧ k ≠ 19 ∧ k ≠ 20) (hm : ∀ m ∈ ms,m = false) (hp : ∀ p ∈ ps,Free p) : Free (.mk k n nm ps ns ms)
theorem Free.kind {x : Ty} (h : Free x) : x.kind ≠ 1 ∧ x.kind ≠ 4 ∧ x.kind ≠ 17 ∧ x.kind ≠ 19 ∧ x.kind ≠ 20:=by cases h with | mk hk => exact hk
theorem Free.marks {x : Ty} (h : Free x) : ∀ m ∈ x.marks,m = false:=by cases h with | mk _ hm => exact hm
theorem Free.parts {x : Ty} (h : Free x) : ∀ p ∈ x.parts,Free p:=by cases h with | mk _ _ hp => exact hp
theorem Free.count {x : Ty} (h : Free x) : x.marks.count false = x.marks.length:=by
 rw [List.count_eq_length]
 exact fun b hb => (h.marks b hb).symm
theorem jnU {x : Ty} {i : Nat} (h : i < x.parts.length) : part x i ∈ x.parts:=by
 unfold part
 rw [List.getD_eq_getElem?_getD,List.getElem?_eq_getElem h,Option.getD_some]
 exact List.getElem_mem h
theorem jkZ {x : Ty} (h : x.Valid) (hk : x.kind = 14) : x.names.length = x.parts.length ∧ x.marks.length = x.parts.length:=by
 revert hk
 cases h with
 | obj xs => intro _;simp [Ty.parts,Ty.marks,Ty.names]
 | basic => intro h;simp only [Ty.kind] at h;omega
 | named hk => intro h;simp only [Ty.kind] at h;omega
 | num => intro h;simp [Ty.kind] at h
 | str => intro h;simp [Ty.kind] at h
 | fn => intro h;simp [Ty.kind] at h
 | arr => intro h;simp [Ty.kind] at h
 | un => intro h;simp [Ty.kind] at h
 | ref => intro h;simp [Ty.kind] at h
 | case => intro h;simp [Ty.kind] at h
structure FC (x : Ty) : Prop where
 cv : CV x
 free : Free x
theorem FC.parts {x : Ty} (h : FC x) : ∀ p ∈ x.parts,FC p:=fun p hp => ⟨h.cv.parts p hp,h.free.parts p hp⟩
end Go.Proofs.YtiaepldmgighbaaGreatDoor
