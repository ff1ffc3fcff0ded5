import Derived.LaidEqlPtr
import Derived.Test.YtbghpkoimbmijaaGreatDoorM31
import Derived.Test.YtbghpkoimbmijaaGreatDoorM21
import Derived.Test.YtbghpkoimbmijaaGreatDoorM23
/- YtbghpkoimbmijaaGreatDoorM32: lemmas of the proof, in order: LE, UL, UN. -/
/- What stands between calls of the law: an arena of one's own, and what came in. -/
namespace Go.Proofs.YtbghpkoimbmijaaGreatDoor
open Go.RowKit
set_option linter.unusedSimpArgs false
set_option linter.unusedVariables false

/-- a union of some stands for them, in any order -/
theorem union_other {p q r : Ty} (hp : CV p) (hq : CV q) (hr : CV r) : unionC [r, p, q, p] = unionC [p, q, r] := by
  refine unionC_congr (fun t ht => ?_) (fun t ht => ?_) (fun x => ?_)
  · simp only [List.mem_cons, List.not_mem_nil, or_false] at ht
    rcases ht with rfl | rfl | rfl | rfl <;> assumption
  · simp only [List.mem_cons, List.not_mem_nil, or_false] at ht
    rcases ht with rfl | rfl | rfl <;> assumption
  · simp only [List.flatMap_cons, List.flatMap_nil, List.append_nil, List.mem_append]
    constructor
    · rintro (h | h | h | h)
      · exact .inr (.inr h)
      · exact .inl h
      · exact .inr (.inl h)
      · exact .inl h
    · rintro (h | h | h)
      · exact .inr (.inl h)
      · exact .inr (.inr (.inl h))
      · exact .inl h
theorem union_both {p q r : Ty} (hp : CV p) (hq : CV q) (hr : CV r) : unionC [r, unionC [p, q]] = unionC [p, q, r] := by
  have hpq : ∀ t ∈ [p, q], CV t := fun t ht => by
    simp only [List.mem_cons, List.not_mem_nil, or_false] at ht
    rcases ht with rfl | rfl <;> assumption
  have h1 : unionC [r, unionC [p, q]] = unionC [unionC [p, q], r] := by
    refine unionC_congr (fun t ht => ?_) (fun t ht => ?_) (fun x => ?_)
    · simp only [List.mem_cons, List.not_mem_nil, or_false] at ht
      rcases ht with rfl | rfl
      · exact hr
      · exact unionC_cv hpq
    · simp only [List.mem_cons, List.not_mem_nil, or_false] at ht
      rcases ht with rfl | rfl
      · exact unionC_cv hpq
      · exact hr
    · simp only [List.flatMap_cons, List.flatMap_nil, List.append_nil, List.mem_append]
      exact Or.comm
  rw [h1]
  exact unionC_nest (l := [r]) (m := [p, q]) (fun t ht => by rw [List.mem_singleton.1 ht]; exact hr) hpq

theorem TIs.mono {B B' : Nat} {w : World} {us : List Value} {t : Ty} (h : TIs B w us t) (k : B ≤ B') : TIs B' w us t := by
  have hr : ∀ {v : Value} {us : List Value}, RowV (fun x => x < B) w v us → RowV (fun x => x < B') w v us := fun ⟨T, h⟩ => ⟨T, h.keep fun g cs fz h1 h2 => ⟨Nat.lt_of_lt_of_le h1 k, h2⟩⟩
  induction h with
  | mk us hn1 hn2 hnm hnv hln hsm hmv hlm hl hpl hpc hc hq ih =>
    refine TIs.mk us hn1 hn2 hnm (hr hnv) hln hsm (hr hmv) hlm hl hpl hpc (fun j u hj => ?_) ih
    obtain ⟨b, off, h1, h2, h3, h4⟩ := hc j u hj
    exact ⟨b, off, h1, Nat.lt_of_lt_of_le h2 k, h3, h4⟩
theorem GlobB.mono {B B' : Nat} {w : World} (h : GlobB B w) (k : B ≤ B') : GlobB B' w := fun w' hk => h w' fun b o hb ho => hk b o (Nat.lt_of_lt_of_le hb k) ho

/-- an arena of one's own, behind what stood at w0 -/
structure Sta (w0 W : World) (A : Nat) (bs : List Nat) (ts : List Ty) (tv mv : Value) : Prop where
  are : Are W w0.heap.size A bs ts tv mv (.map none)
  glob : GlobB w0.heap.size W
  up : Up w0 W
theorem Sta.later {w0 W W' : World} {A : Nat} {bs : List Nat} {ts : List Ty} {tv mv : Value} (h : Sta w0 W A bs ts tv mv) (k : Up W W') : Sta w0 W' A bs ts tv mv := ⟨h.are.up k, h.glob.memo (Memo.of_up none1 _ k), h.up.trans k⟩
theorem Sta.step {w0 W W' : World} {A : Nat} {bs bs' : List Nat} {ts ts' : List Ty} {tv mv tv' mv' : Value} (h : Sta w0 W A bs ts tv mv) (k : Are W' w0.heap.size A bs' ts' tv' mv' (.map none)) (hL : LayM w0.heap.size A tv mv W W' tv' mv') : Sta w0 W' A bs' ts' tv' mv' :=
  ⟨k, h.glob.memo hL.memo, Below.trans h.up (hL.memo.below h.are.lt)⟩
theorem more {α : Type} {l r : List α} {i : Nat} {x : α} (h : l[i]? = some x) : (l ++ r)[i]? = some x := by
  rw [List.getElem?_append_left (List.getElem?_eq_some_iff.1 h).1]
  exact h

theorem laid_sta {w0 W : World} {A : Nat} {bs : List Nat} {ts : List Ty} {tv mv : Value} (h : Sta w0 W A bs ts tv mv) {us : List Value} {t : Ty} (ht : TIs w0.heap.size w0 us t) {m : Int} (hm : w0.cell? ⟨0, 0, none⟩ = some (.int .i64 m)) (h60 : t.nodes ≤ 60) (hb : bs.length ≤ 100000) :
    Calls Tryz.prog 8 #[.pointer (some ⟨A, 0, none⟩), .agg us.toArray] W fun e w' => ∃ (i : Nat) (ok : Bool) (bs' : List Nat) (ts' : List Ty) (tv' mv' : Value), e = .returned (.tuple #[.int .i64 i, .bool ok]) ∧ Sta w0 w' A (bs ++ bs') (ts ++ ts') tv' mv' ∧ bs'.length ≤ 6000 ∧ (ok = true → ∃ u, (ts ++ ts')[i]? = some u ∧ u.nodes ≤ 60 ∧ ∀ P, t.varsOk P → u.varsOk P) := by
  refine (laid_any _ t (Nat.le_refl _) us W w0.heap.size A bs ts tv mv (.map none) m (ht.low h.up) h.are h.glob ((h.up.cells _ _ (cell_lt5 hm)).trans hm) (cell_lt5 hm) (by omega) h60).mono ?_
  rintro e w' ⟨i, ok, bs', ts', tv', mv', rfl, h1, h2, h3, h4⟩
  exact ⟨i, ok, bs', ts', tv', mv', rfl, h.step h1 h2, by omega, fun e => by
    obtain ⟨u, q1, q2, q3⟩ := h4 e
    exact ⟨u, q1, by omega, q3⟩⟩

/-- numbers that are written out -/
theorem ids_lit (W : World) (zs : List Nat) (f : Nat × Nat) : IdsAt (W.alloc (.cells (zs.map numV).toArray IntT f)) (some ⟨W.heap.size, 0, none⟩) zs := fun j z hj => by
  have hA : (W.alloc (.cells (zs.map numV).toArray IntT f)).heap[W.heap.size]? = some (.cells (zs.map numV).toArray IntT f) := alloc_get _ _
  refine ⟨W.heap.size, 0, rfl, lt_of_heap hA, (cell_of hA _).trans ?_⟩
  rw [Nat.zero_add, List.getElem?_toArray, List.getElem?_map, hj]
  rfl

def UnionQ (w0 : World) (A : Nat) (bs : List Nat) (ts : List Ty) (c : Ty) (n : Nat) (e : Ending) (w' : World) : Prop :=
  ∃ (i : Nat) (bs' : List Nat) (ts' : List Ty) (tv' mv' : Value) (x : Ty), e = .returned (.tuple #[.int .i64 i, .int .i64 0]) ∧ Sta w0 w' A (bs ++ bs') (ts ++ ts') tv' mv' ∧ bs'.length ≤ 500 ∧ (ts ++ ts')[i]? = some x ∧ x.Valid ∧ x.canon = c ∧ x.nodes ≤ n
theorem union_sta {w0 W : World} {A : Nat} {bs : List Nat} {ts : List Ty} {tv mv : Value} (h : Sta w0 W A bs ts tv mv) (zs : List Nat) (us : List Ty) (n k cap : Nat) (hz : zs.map (fun z => ts[z]?) = us.map some) (hn : 1 + sumN us ≤ n) (h500 : n ≤ 500) (hb : bs.length ≤ 100000) (hk : zs.length = k) (f : Nat × Nat) :
    Calls Tryz.prog 14 #[.pointer (some ⟨A, 0, none⟩), .slice (some ⟨W.heap.size, 0, none⟩) k cap] (W.alloc (.cells (zs.map numV).toArray IntT f)) (UnionQ w0 A bs ts (unionC (us.map Ty.canon)) n) := by
  subst hk
  have hu : Up W (W.alloc (.cells (zs.map numV).toArray IntT f)) := uq
  have h' := h.later hu
  refine (Union_in w0.heap.size A bs ts tv mv (.map none) zs us _ cap _ h'.are (ids_lit W zs f) hz (fit_of h'.are hz (by omega)) h'.glob (by omega)).mono ?_
  rintro e w' ⟨u, w2, hv, hc, hm, hK⟩
  have hun : u.nodes ≤ n := by
    rw [← Ty.nodes_canon, hc]
    have h1 := unionC_nodes (us.map Ty.canon)
    rw [List.map_map, show (Ty.nodes ∘ Ty.canon) = Ty.nodes from funext Ty.nodes_canon] at h1
    unfold sumN at hn
    omega
  obtain ⟨i, bs', ts', tv', mv', x, rfl, k1, k2, k3, k4, k5, k6, k7⟩ := hK.done hv (by omega)
  exact ⟨i, bs', ts', tv', mv', x, rfl, h'.step k1 ((LayM.of_memo hm).trans k2), by omega, k4, k5, k6.trans hc, by omega⟩

/-- one text has one number -/
theorem Sta.same {w0 W : World} {A : Nat} {bs : List Nat} {ts : List Ty} {tv mv : Value} (h : Sta w0 W A bs ts tv mv) {i j : Nat} {x y : Ty} (hi : ts[i]? = some x) (hj : ts[j]? = some y) (e : x.canon = y.canon) : i = j := by
  have hx : (ts.map Ty.text)[i]? = some x.text := by rw [List.getElem?_map, hi]; rfl
  have hy : (ts.map Ty.text)[j]? = some x.text := by rw [List.getElem?_map, hj, ← Ty.text_canon x, e, Ty.text_canon]; rfl
  obtain ⟨h1, h2⟩ := List.getElem?_eq_some_iff.1 hx
  obtain ⟨h3, h4⟩ := List.getElem?_eq_some_iff.1 hy
  rcases Nat.lt_trichotomy i j with hlt | rfl | hlt
  · exact absurd (h2.trans h4.symm) (List.pairwise_iff_getElem.1 h.are.nodup i j h1 h3 hlt)
  · rfl
  · exact absurd (h4.trans h2.symm) (List.pairwise_iff_getElem.1 h.are.nodup j i h3 h1 hlt)

theorem Sta.new {w0 W : World} {A : Nat} {bs : List Nat} {g : Nat} {tv : Value} (h : Few W w0.heap.size A bs g tv 10) (hu : Up w0 W) (hg : GlobB w0.heap.size w0) : Sta w0 W A bs tenT tv (.map (some g)) := ⟨h.are, hg.memo (Memo.of_up none1 _ hu), hu⟩

end Go.Proofs.YtbghpkoimbmijaaGreatDoor

/- Walks: what is done to the parts of a type: through. -/
namespace Go.Proofs.YtbghpkoimbmijaaGreatDoor
open Go.RowKit
set_option linter.unusedSimpArgs false

/-- a sound type with other sound parts -/
theorem Ty.Valid.with {k n : Int} {nm : ByteArray} {ps us : List Ty} {ns : List ByteArray} {ms : List Bool} (h : (Ty.mk k n nm ps ns ms).Valid) (hk : k ≠ 16) (hl : us.length = ps.length) (hu : ∀ u ∈ us, u.Valid) (hc : k = 20 → us.map Ty.canon = ps.map Ty.canon) : (Ty.mk k n nm us ns ms).Valid := by
  cases h with
  | basic h1 h2 => rw [List.length_nil, List.length_eq_zero_iff] at hl; subst hl; exact .basic h1 h2
  | num h1 h2 => rw [List.length_nil, List.length_eq_zero_iff] at hl; subst hl; exact .num h1 h2
  | str h => rw [List.length_nil, List.length_eq_zero_iff] at hl; subst hl; exact .str h
  | arr hp =>
    obtain ⟨u, rfl⟩ := List.length_eq_one_iff.1 hl
    exact .arr (hu u (by simp))
  | obj xs hn hr hp =>
    rw [List.length_map] at hl
    have h := Ty.Valid.obj ((xs.zip us).map fun x => (x.1.1, x.1.2.1, x.2)) (fun x hx => by
      obtain ⟨y, hy, rfl⟩ := List.mem_map.1 hx
      exact hn y.1 (List.of_mem_zip hy).1) (by
      rw [List.map_map]
      have e : (xs.zip us).map ((fun x : ByteArray × Bool × Ty => x.1) ∘ fun x => (x.1.1, x.1.2.1, x.2)) = xs.map (·.1) := by
        have := List.map_fst_zip (l₁ := xs) (l₂ := us) (by omega)
        conv => rhs; rw [← this]
        rw [List.map_map]
        rfl
      rw [e]
      exact hr) (fun x hx => by
      obtain ⟨y, hy, rfl⟩ := List.mem_map.1 hx
      exact hu y.2 (List.of_mem_zip hy).2)
    rw [List.map_map, List.map_map, List.map_map] at h
    have e0 := List.map_fst_zip (l₁ := xs) (l₂ := us) (by omega)
    have e1 : (xs.zip us).map ((fun x : ByteArray × Bool × Ty => x.1) ∘ fun x => (x.1.1, x.1.2.1, x.2)) = xs.map (·.1) := by
      conv => rhs; rw [← e0]
      rw [List.map_map]
      rfl
    have e2 : (xs.zip us).map ((fun x : ByteArray × Bool × Ty => x.2.1) ∘ fun x => (x.1.1, x.1.2.1, x.2)) = xs.map (·.2.1) := by
      conv => rhs; rw [← e0]
      rw [List.map_map]
      rfl
    have e3 : (xs.zip us).map ((fun x : ByteArray × Bool × Ty => x.2.2) ∘ fun x => (x.1.1, x.1.2.1, x.2)) = us := List.map_snd_zip (by omega)
    rw [e1, e2, e3] at h
    exact h
  | fn xs r ho hp hr =>
    rw [List.length_append, List.length_map, List.length_singleton] at hl
    obtain ⟨us', u, rfl⟩ : ∃ us' u, us = us' ++ [u] := by
      rcases List.eq_nil_or_concat us with rfl | ⟨a, b, rfl⟩
      · simp at hl
      · exact ⟨a, b, by simp⟩
    have hl' : us'.length = xs.length := by simp at hl; omega
    have e0 := List.map_fst_zip (l₁ := us') (l₂ := xs) (by omega)
    have e9 := List.map_snd_zip (l₁ := us') (l₂ := xs) (by omega)
    have h := Ty.Valid.fn ((us'.zip xs).map fun x => (x.1, x.2.2)) u (by
      rw [List.map_map]
      have e : (us'.zip xs).map ((fun x : Ty × Bool => x.2) ∘ fun x => (x.1, x.2.2)) = xs.map (·.2) := by
        conv => rhs; rw [← e9]
        rw [List.map_map]
        rfl
      rw [e]
      exact ho) (fun x hx => by
      obtain ⟨y, hy, rfl⟩ := List.mem_map.1 hx
      exact hu y.1 (List.mem_append.2 (.inl (List.of_mem_zip hy).1))) (hu u (by simp))
    rw [List.map_map, List.map_map] at h
    have e1 : (us'.zip xs).map ((fun x : Ty × Bool => x.1) ∘ fun x => (x.1, x.2.2)) = us' := e0
    have e2 : (us'.zip xs).map ((fun x : Ty × Bool => x.2) ∘ fun x => (x.1, x.2.2)) = xs.map (·.2) := by
      conv => rhs; rw [← e9]
      rw [List.map_map]
      rfl
    rw [e1, e2] at h
    exact h
  | un => exact absurd rfl hk
  | ref ps h1 h2 hn hp => exact .ref us h1 h2 hn hu
  | named hk h1 h2 hn => rw [List.length_nil, List.length_eq_zero_iff] at hl; subst hl; exact .named hk h1 h2 hn
  | @case n m nm nm' h1 h2 hn h1' h2' hn' =>
    obtain ⟨u, rfl⟩ := List.length_eq_one_iff.1 hl
    have e := hc rfl
    simp only [List.map_cons, List.map_nil, List.cons.injEq, and_true] at e
    rw [Ty.canon_mk, if_neg (by decide)] at e
    have hv := hu u (by simp)
    have hk' := u.canon_kind
    rw [e] at hk'
    have hk' : (19 : Int) = u.kind := hk'
    revert hk' e
    cases hv with
    | @named k' n' nm'' hk2 g1 g2 gn =>
      intro e hk'
      have hk' : (19 : Int) = k' := hk'
      subst hk'
      exact .case h1 h2 hn g1 g2 gn
    | basic => intro _ h; exact absurd h (by simp only [Ty.kind]; omega)
    | num => intro _ h; exact absurd h (by simp only [Ty.kind]; omega)
    | str => intro _ h; exact absurd h (by simp only [Ty.kind]; omega)
    | arr => intro _ h; exact absurd h (by simp only [Ty.kind]; omega)
    | obj => intro _ h; exact absurd h (by simp only [Ty.kind]; omega)
    | fn => intro _ h; exact absurd h (by simp only [Ty.kind]; omega)
    | un => intro _ h; exact absurd h (by simp only [Ty.kind]; omega)
    | ref => intro _ h; exact absurd h (by simp only [Ty.kind]; omega)
    | case => intro _ h; exact absurd h (by simp only [Ty.kind]; omega)

/-- what is asked of what is done to a part -/
def DoAny (df : Nat) (bound : Array Value) (X : (Nat → Prop) → World → Prop) (B : Nat) (f : Ty → Ty) (t : Ty) : Prop := ∀ (N : Nat → Prop) (b : Nat) (W : World), Open N W → TyAt N B W b t → Glob W → B ≤ W.heap.size → X N W → Calls Tryz.prog df (#[.pointer (some ⟨b, 0, none⟩)] ++ bound) W (DoR N B W (f t.canon))

/-- a type whose parts something was done to -/
noncomputable def throughC (f : Ty → Ty) : Ty → Ty
  | .mk k n nm ps ns ms => if k = 16 then unionC (ps.map f) else .mk k n nm (ps.map f) ns ms

theorem ownsRow_rowG {N : Nat → Prop} {w : World} {T : TypeId} {v : Value} {n : Nat} {us : List Value} (h : w.ownsRow 0 T 1 v n us) (hN : ∀ g, v.ownBlock = some g → N g) (hl : us.length = n) (hn : n ≤ 1000000000) : RowOf T N w v us := by
  subst hl
  rcases h.2 with ⟨hv, h0⟩ | ⟨g, cap, cur, hv, hB, hg, hc, hu⟩
  · rw [List.length_eq_zero_iff.1 h0, hv]; exact RowOf.nil _ _ _
  · refine ⟨some ⟨g, 0, none⟩, cap, hv, hc, hn, fun j u hj => ⟨g, 0, cur, (0, 0), rfl, hN g (by rw [hv]; rfl), hg, ?_⟩⟩
    have h2 := hu.2.2
    rw [Nat.mul_one] at h2
    rw [← h2, List.getElem?_take] at hj
    split at hj
    · rw [Nat.zero_add, ← Array.getElem?_toList]; exact hj
    · cases hj
/-- while something is done to the parts -/
structure Thru (N : Nat → Prop) (B : Nat) (f : Ty → Ty) (w : World) (ps : List Ty) (qs : List Nat) (j : Nat) (lv : Value) (same : Bool) (cs : List Nat) (us : List Ty) (wr : World) : Prop where
  base : B ≤ w.heap.size
  memo : Memo none1 B w wr
  len : cs.length = j
  lenU : us.length = j
  row : wr.ownsRow 0 TpT 1 lv j (cs.map ptrV)
  rowB : ∀ g, lv.ownBlock = some g → w.heap.size ≤ g
  ty : ∀ (i c : Nat) (u : Ty), cs[i]? = some c → us[i]? = some u → TyAt (fun x => N x ∧ lv.ownBlock ≠ some x) B wr c u
  val : ∀ u ∈ us, u.Valid
  canon : us.map Ty.canon = (ps.take j).map (fun p => f p.canon)
  same : same = true → cs = qs.take j
section
variable {N : Nat → Prop} {B : Nat} {f : Ty → Ty} {w : World} {ps : List Ty} {qs : List Nat} {j : Nat} {lv : Value} {same : Bool} {cs : List Nat} {us : List Ty} {wr : World}
theorem row_blockT {w : World} {T : TypeId} {v : Value} {n : Nat} {xs : List Value} (h : w.ownsRow 0 T 1 v n xs) {g : Nat} (hg : v.ownBlock = some g) : ∃ cur, w.heap[g]? = some (.cells cur T (0, 0)) := by
  rcases h.2 with ⟨hv, _⟩ | ⟨g'', cap, cur, hv, _, hc, _⟩
  · rw [hv] at hg; cases hg
  · rw [hv] at hg; cases hg; exact ⟨cur, hc⟩
theorem Thru.up (h : Thru N B f w ps qs j lv same cs us wr) {w2 : World} (hu : Up wr w2) : Thru N B f w ps qs j lv same cs us w2 :=
  ⟨h.base, h.memo.up hu, h.len, h.lenU, ownsRow_up h.row hu, h.rowB, fun i c u h1 h2 => (h.ty i c u h1 h2).up hu, h.val, h.canon, h.same⟩
theorem Thru.open_ (h : Thru N B f w ps qs j lv same cs us wr) (hN : Open N w) : Open (fun x => N x ∧ lv.ownBlock ≠ some x) wr := fun x hx => ⟨hN x (Nat.le_trans h.memo.size hx), fun e => by
  obtain ⟨cur, hc⟩ := row_blockT h.row e
  have := lt_of_heap hc
  omega⟩
theorem Thru.free (h : Thru N B f w ps qs j lv same cs us wr) : ∀ x, N x → x < w.heap.size → N x ∧ lv.ownBlock ≠ some x := fun x h1 h2 => ⟨h1, fun e => by have := h.rowB x e; omega⟩
theorem Thru.part (h : Thru N B f w ps qs j lv same cs us wr) {q : Nat} {p : Ty} (hq : TyAt N B w q p) : TyAt (fun x => N x ∧ lv.ownBlock ≠ some x) B wr q p :=
  (h.memo.ty _ q p (fun _ _ e => e) hq.there).weaken fun x hx _ => h.free x hx.1 hx.2
theorem Thru.next (h : Thru N B f w ps qs j lv same cs us wr) {p : Ty} {q : Nat} (hp : ps[j]? = some p) (hq : qs[j]? = some q) {W2 w3 W w7 : World} (hu2 : Up wr W2) {c : Nat} {u : Ty} (hc : TyAt (fun x => N x ∧ lv.ownBlock ≠ some x) B w3 c u) (hv : u.Valid) (hcn : u.canon = f p.canon) (hm : Memo none1 B W2 w3) (hu : Up w3 W) {lv' : Value}
    (hown : w7.ownsRow 0 TpT 1 lv' (j + 1) (cs.map ptrV ++ [.pointer (some ⟨c, 0, none⟩)])) (hgrow : (W.alloc (.cells #[.pointer (some ⟨c, 0, none⟩)] TpT)).grownBy w7 lv.ownBlock) (hblk : lv'.ownBlock = lv.ownBlock ∨ ∃ g', lv'.ownBlock = some g' ∧ W.heap.size + 1 ≤ g') (s' : Bool) (hs : s' = true → same = true ∧ q = c) :
    Thru N B f w ps qs (j + 1) lv' s' (cs ++ [c]) (us ++ [u]) w7 := by
  have mW : Memo none1 B wr W := ((Memo.of_up none1 B hu2).trans hm).up hu
  have hB : ∀ r, lv.ownBlock = some r → B ≤ r := fun r e => Nat.le_trans h.base (h.rowB r e)
  have hrow : W.ownsRow 0 TpT 1 lv j (cs.map ptrV) := ownsRow_memo h.row (by decide) mW
  have mg : Memo (fun x => lv.ownBlock = some x) B W w7 := (Memo.of_up _ B (show Up W (W.alloc (.cells #[.pointer (some ⟨c, 0, none⟩)] TpT)) from uq)).trans (Memo.grown hgrow fun r e => by
    obtain ⟨cur, hc⟩ := row_blockT hrow e
    exact ⟨e, hB r e, cur, TpT, (0, 0), alloc_keep hc, by decide⟩)
  have hty : ∀ {b : Nat} {t : Ty}, TyAt (fun x => N x ∧ lv.ownBlock ≠ some x) B W b t → TyAt (fun x => N x ∧ lv'.ownBlock ≠ some x) B w7 b t := fun ht =>
    (mg.ty _ _ _ (fun x hx => hx.1.2) ht.there).weaken fun x hx _ => ⟨hx.1.1, fun e => by
      rcases hblk with q | ⟨g', q, q2⟩
      · exact hx.1.2 (q.symm.trans e)
      · rw [q] at e
        cases e
        have := hx.2
        omega⟩
  refine ⟨h.base, ?_, by simp [h.len], by simp [h.lenU], by rw [List.map_append]; exact hown, fun g hg => ?_, fun i c' u' h1 h2 => ?_, fun x hx => ?_, ?_, fun e => ?_⟩
  · refine (((h.memo.trans mW).mono (T := fun x => w.heap.size ≤ x) fun _ e => e.elim).trans (mg.mono fun x e => h.rowB x e)).fresh fun _ e => e
  · rcases hblk with q | ⟨g', q, q2⟩
    · exact h.rowB g (by rw [← q]; exact hg)
    · rw [q] at hg
      cases hg
      have := h.memo.size
      have := mW.size
      omega
  · rcases Nat.lt_or_ge i j with hi | hi
    · rw [List.getElem?_append_left (by rw [h.len]; exact hi)] at h1
      rw [List.getElem?_append_left (by rw [h.lenU]; exact hi)] at h2
      exact hty ((h.ty i c' u' h1 h2).memo mW)
    · have e0 : i = j := by
        have := (List.getElem?_eq_some_iff.1 h1).1
        simp [h.len] at this
        omega
      subst e0
      rw [List.getElem?_append_right (by rw [h.len]; exact Nat.le_refl _), h.len, Nat.sub_self] at h1
      rw [List.getElem?_append_right (by rw [h.lenU]; exact Nat.le_refl _), h.lenU, Nat.sub_self] at h2
      simp at h1 h2
      subst h1 h2
      exact hty (hc.up hu)
  · rcases List.mem_append.1 hx with q | q
    · exact h.val x q
    · rw [List.mem_singleton.1 q]; exact hv
  · rw [List.map_append, h.canon, List.map_cons, List.map_nil, hcn, List.take_add_one, hp, List.map_append]
    rfl
  · obtain ⟨e1, e2⟩ := hs e
    rw [h.same e1, List.take_add_one, hq, ← e2]
    rfl
end

end Go.Proofs.YtbghpkoimbmijaaGreatDoor

/- Walk: what is done to the parts of a type, by widened (printed by gen_thru.py). -/
namespace Go.Proofs.YtbghpkoimbmijaaGreatDoor
open Go.RowKit
set_option linter.unusedSimpArgs false
set_option linter.unusedVariables false
theorem typS_info : (Tryz.prog.info? TyT).map (·.size) = some 8 := by kernel_rfl
/-- two types are one, or not -/
theorem ptr_eq {N N' : Nat → Prop} {B B' : Nat} {w : World} {q c : Nat} {t u : Ty} (h : TyAt N B w q t) (k : TyAt N' B' w c u) : ∃ s : Bool, (s = true → q = c) ∧ (binOp .eql TpT (.pointer (some ⟨q, 0, none⟩)) (.pointer (some ⟨c, 0, none⟩))).run Tryz.prog w = .ok (.bool s) w := by
  obtain ⟨j, hj, hz⟩ : ∃ j, Tryz.prog.info? TyT = some j ∧ j.size ≠ 0 := by
    have := typS_info
    cases hi : Tryz.prog.info? TyT with
    | none => rw [hi] at this; cases this
    | some j =>
      rw [hi] at this
      simp only [Option.map_some, Option.some.injEq] at this
      exact ⟨j, rfl, by omega⟩
  by_cases e : q = c
  · subst e
    exact ⟨true, fun _ => rfl, run_eql_ptr_same w _ Tryz.underlying63 hj⟩
  · obtain ⟨cs, h1⟩ := h.blk
    obtain ⟨ct, h2⟩ := k.blk
    exact ⟨false, (fun h => by cases h), run_eql_ptr_other w Tryz.underlying63 hj hz (fun e2 => e (by injection e2)) h1 h2⟩
def ThruJ (N : Nat → Prop) (B : Nat) (f : Ty → Ty) (w : World) (ps : List Ty) (qs : List Nat) (lv sv i : Value) (wr : World) : Prop := ∃ (j : Nat) (same : Bool) (cs : List Nat) (us : List Ty), j ≤ ps.length ∧ i = .int .i64 j ∧ sv = .bool same ∧ Thru N B f w ps qs j lv same cs us wr
/-- where nothing is done, a type is as it was -/
theorem throughC_same {t : Ty} (f : Ty → Ty) (h : t.parts.map (fun p => f p.canon) = t.parts.map Ty.canon) (hcv : CV t.canon) : throughC f t.canon = t.canon := by
  cases t with
  | mk k n nm ps ns ms =>
    have h : ps.map (fun p => f p.canon) = ps.map Ty.canon := h
    have e : (ps.map Ty.canon).map f = ps.map Ty.canon := by rw [List.map_map]; exact h
    by_cases hk : k = 16
    · have hc := unionC_self hcv (by rw [Ty.canon_kind]; exact hk)
      rw [Ty.canon_parts] at hc
      have hc : unionC (ps.map Ty.canon) = (Ty.mk k n nm ps ns ms).canon := hc
      have h1 : throughC f (Ty.mk k n nm ps ns ms).canon = unionC (ps.map Ty.canon) := by rw [Ty.canon_mk, throughC, if_pos hk, e]
      exact h1.trans hc
    · rw [Ty.canon_mk, throughC, if_neg hk, e]

set_option maxRecDepth 100000 in
set_option maxHeartbeats 6400000 in
theorem through_widened (X : (Nat → Prop) → World → Prop) (B : Nat) (f : Ty → Ty) (t : Ty) (hX : ∀ N N' w w', X N w → Memo none1 B w w' → (∀ x, N x → x < w.heap.size → N' x) → X N' w') (hv : t.Valid) (hs : Sm t) (hd : ∀ p ∈ t.parts, DoAny 30 #[] X B f p) (hcv : CV t.canon) (hfit : t.kind = 16 → ∀ us : List Ty, us.map Ty.canon = t.parts.map (fun p => f p.canon) → (∀ u ∈ us, u.Valid) → Fit us)
    (hcase : t.kind = 20 → ∀ p ∈ t.parts, f p.canon = p.canon) (N : Nat → Prop) (b : Nat) (w : World) (hN : Open N w) (ht : TyAt N B w b t) (hG : Glob w) (hB : B ≤ w.heap.size) (hXN : X N w) :
    Calls Tryz.prog 44 #[.pointer (some ⟨b, 0, none⟩), .func (.func 30) #[] #[]] w (DoR N B w (throughC f t.canon)) := by
  cases t with
  | mk k n nm ps ns ms =>
    obtain ⟨pv, nv, mv, qs, V⟩ := ht.view
    obtain ⟨pa, pcap, rfl, _, _⟩ := V.parts
    obtain ⟨na, nl, ncap, rfl⟩ : ∃ na nl ncap, nv = .slice na nl ncap := by obtain ⟨a, cap, e, _⟩ := V.hn; exact ⟨_, _, _, e⟩
    obtain ⟨ma, ml, mcap, rfl⟩ : ∃ ma ml mcap, mv = .slice ma ml mcap := by obtain ⟨a, cap, e, _⟩ := V.hm; exact ⟨_, _, _, e⟩
    have HV := Lib.hid (And.intro V (And.intro ht (And.intro hG (And.intro hB (And.intro hXN hN)))))
    have HP := Lib.hid (And.intro hv (And.intro hs (And.intro hd (And.intro hcv (And.intro hfit (And.intro hcase hX))))))
    have a0 := V.c0
    have a3 := V.c3
    have al := V.lt
    have hpl := hs.length
    clear ht hG hB hXN hN hv hs hd hcv hfit hcase hX V
    by_cases hp0 : ps = []
    · have hl0 : ps.length = 0 := by rw [hp0]; rfl
      have hp0 := Lib.hid hp0
      rw [hl0] at a3
      clear hl0
      go_enter Tryz.func44, Tryz.ntmps44
      go_wp2_with fail
      refine bodyPost_ret (v := .pointer (some ⟨b, 0, none⟩)) (by simp [results, Tryz.results44, go_sem]) rfl ?_
      refine ⟨b, _, rfl, HV.out.2.1.up uq, HP.out.1, ?_, Memo.of_up _ _ uq⟩
      have hk16 : k ≠ 16 := fun e => by
        subst e
        exact union_parts HP.out.1 rfl hp0.out
      exact (throughC_same f (by rw [show (Ty.mk k n nm ps ns ms).parts = ps from rfl, hp0.out]; rfl) HP.out.2.2.2.1).symm
    · have hl0 : 0 < ps.length := List.length_pos_iff.2 hp0
      have hl0i : ¬ (ps.length : Int) = 0 := by omega
      have hp0 := Lib.hid hp0
      clear hl0
      obtain ⟨i0, hi, hz0, hz1, hz2⟩ := info_parts typ_info
      go_enter Tryz.func44, Tryz.ntmps44
      go_wp2_with fail
      go_loopw [5, 6, 22] (fun lv sv i wr => ThruJ N B f w ps qs lv sv i wr) (fun _ _ i _ => ps.length - (intOf i).toNat)
      case atStart => exact ⟨0, true, [], [], Nat.zero_le _, rfl, rfl, HV.out.2.2.2.1, Memo.of_up _ _ uq, rfl, rfl, (show World.ownsRow _ 0 TpT 1 (.slice none 0 0) 0 [] from ⟨rfl, .inl ⟨rfl, rfl⟩⟩), (fun g hg => by simp [Value.ownBlock] at hg), (fun i c u h _ => by simp at h), (fun u h => by cases h), rfl, fun _ => rfl⟩
      case round =>
        obtain ⟨j, same, cs, us, hj, rfl, rfl, hS⟩ := hrel
        obtain ⟨la, lcap, rfl⟩ := ownsRow_form hS.row
        by_cases hlt : j < ps.length
        · have hji : (j : Int) < ps.length := by omega
          obtain ⟨p, hp⟩ : ∃ p, ps[j]? = some p := ⟨_, List.getElem?_eq_getElem hlt⟩
          obtain ⟨q, hqj⟩ : ∃ q, qs[j]? = some q := ⟨_, List.getElem?_eq_getElem (by have := HV.out.1.hl; omega)⟩
          obtain ⟨a', cap', e, _, _, hrows⟩ := HV.out.1.hp
          injection e with e1 e2 e3
          obtain ⟨g, off, ct, fz, f1, f2, f3, f4⟩ := hrows j (ptrV q) (by rw [List.getElem?_map, hqj]; rfl)
          have y0 : wr.cell? ⟨g, off + j, none⟩ = some (.pointer (some ⟨q, 0, none⟩)) := (cell_of (hS.memo.cells f3 (by decide) (fun e => e)) _).trans f4
          have hgl := lt_of_heap (hS.memo.cells f3 (by decide) (fun e => e))
          have hpa : pa = some ⟨g, off, none⟩ := e1.trans f1
          have hq := HV.out.1.hq j q p hqj hp
          have HD := Lib.hid (fun W (hW : Up wr W) => HP.out.2.2.1 p (List.mem_of_getElem? hp) (fun x => N x ∧ (Value.slice la j lcap).ownBlock ≠ some x) q W ((hS.open_ HV.out.2.2.2.2.2).up hW) ((hS.part hq).up hW) (HV.out.2.2.1.memo (hS.memo.up hW)) (Nat.le_trans HV.out.2.2.2.1 (hS.memo.up hW).size) (HP.out.2.2.2.2.2.2 _ _ _ _ HV.out.2.2.2.2.1 (hS.memo.up hW) hS.free))
          have HS := Lib.hid (And.intro hS (And.intro hp hqj))
          clear hS hp hqj hlt e1 e2 e3 hrows f1 f2 f3 f4 hq
          subst hpa
          go_wp2_with (first
            | (go_at_call 30; refine (HD.out _ (show Up wr _ from uq)).mono ?_; rintro e w3 ⟨c, u, rfl, hc, hcv, hcn, hm3⟩; have HC := Lib.hid (And.intro hc (And.intro hcv (And.intro hcn hm3))); obtain ⟨s, hsq, hpe⟩ := ptr_eq ((HV.out.1.hq j q p HS.out.2.2 HS.out.2.1).memo ((HS.out.1.memo.up (show Up wr _ from uq)).trans hm3)) hc; have HSQ := Lib.hid hsq; clear hc hcv hcn hm3 hsq)
            | (at_builtin; go_must (refine wpList_append_new rfl _ _ 55 rfl TpT i0 (.pointer none) 1 8 Tryz.underlying55 hi hz0 hz1 hz2 rfl (by decide) (.slice la j lcap) j (cs.map ptrV) rfl (ownsRow_up (ownsRow_memo HS.out.1.row (by decide) ((Memo.of_up none1 B (show Up wr _ from uq)).trans HC.out.2.2.2)) uq) _ 1 1 rfl (by first | rfl | (simp; done) | omega) rfl (by intro u hu; have hu2 : u = .pointer (some ⟨c, 0, none⟩) := (by simpa using hu); rw [hu2]; rfl) (by unfold maxLen; omega) (by omega) ?_; intro sa' cap' w7 hown' hgrow hblk; (try simp only [World.size_alloc] at hblk); have HY := Lib.hid (And.intro hown' (And.intro hgrow hblk)); clear hown' hgrow hblk)))
          all_goals
            refine ⟨⟨_, _, _, _, _, ?_, rfl, rfl, rfl, rfl, rfl⟩, by simp [intOf]; omega⟩
            refine ⟨j + 1, _, cs ++ [c], us ++ [u], by omega, by simp, rfl, HS.out.1.next HS.out.2.1 HS.out.2.2 (show Up wr _ from uq) HC.out.1 HC.out.2.1 HC.out.2.2.1 HC.out.2.2.2 (show Up w3 _ from uq) HY.out.1 HY.out.2.1 HY.out.2.2 _ ?_⟩
            first
              | exact fun h => ⟨by first | rfl | assumption, HSQ.out h⟩
              | exact fun h => by cases h
        · obtain rfl : j = ps.length := by omega
          have hcan : Hid (us.map Ty.canon = ps.map fun p => f p.canon) := by have := hS.canon; rw [List.take_length] at this; exact this
          have hVr := HV.out.1.memo hS.memo
          have b0 := hVr.c0
          have b1 := hVr.c1
          have b2 := hVr.c2
          have b4 := hVr.c4
          have b5 := hVr.c5
          have bl := hVr.lt
          have hcl : Hid (cs.length = us.length) := hS.len.trans hS.lenU.symm
          have htys : Hid (∀ W, Up wr W → ∀ (i c : Nat) (u : Ty), cs[i]? = some c → us[i]? = some u → TyAt N B W c u) := fun W hW i c u h1 h2 => ((hS.ty i c u h1 h2).up hW).weaken fun x hx _ => hx.1
          have HS := Lib.hid hS
          clear hlt hS
          cases same with
          | true =>
            have hcs : cs = qs := by have := HS.out.same rfl; rw [← HV.out.1.hl, List.take_length] at this; exact this
            have hus : us = ps := by
              apply List.ext_getElem?
              intro i
              rcases Nat.lt_or_ge i ps.length with hi | hi
              · obtain ⟨p, hp1⟩ : ∃ p, ps[i]? = some p := ⟨_, List.getElem?_eq_getElem hi⟩
                obtain ⟨u, hu1⟩ : ∃ u, us[i]? = some u := ⟨_, List.getElem?_eq_getElem (by have := HS.out.lenU; omega)⟩
                obtain ⟨q, hq1⟩ : ∃ q, qs[i]? = some q := ⟨_, List.getElem?_eq_getElem (by have := HV.out.1.hl; omega)⟩
                rw [hp1, hu1, (htys.out wr (Up.refl _) i q u (by rw [hcs]; exact hq1) hu1).unique ((HV.out.1.hq i q p hq1 hp1).memo HS.out.memo)]
              · rw [List.getElem?_eq_none hi, List.getElem?_eq_none (by have := HS.out.lenU; omega)]
            have hsm : Hid (throughC f (Ty.mk k n nm ps ns ms).canon = (Ty.mk k n nm ps ns ms).canon) := throughC_same f (by have := hcan.out; rw [hus] at this; exact this.symm) HP.out.2.2.2.1
            clear hcs hus
            go_wp2_with fail
            refine bodyPost_ret (v := .pointer (some ⟨b, 0, none⟩)) (by simp [results, Tryz.results44, go_sem]) rfl ?_
            exact ⟨b, _, rfl, (HV.out.2.1.memo HS.out.memo).up uq, HP.out.1, hsm.out.symm, HS.out.memo.up uq⟩
          | false =>
            by_cases hk : k = 16
            · have hfu : Hid (Fit us) := HP.out.2.2.2.2.1 hk us hcan.out HS.out.val
              have HU : Hid (∀ W, Up wr W → Calls Tryz.prog 33 #[.slice la ps.length lcap] W (DoR N B W (unionC (us.map Ty.canon)))) := fun W hW => by
                have hrow := ownsRow_rowOf (ownsRow_up HS.out.row hW) (by rw [List.length_map, HS.out.len]) (by have := hpl; omega)
                have q := union_tree N B la lcap cs us W (by rw [HS.out.len]; exact hrow) hcl.out (htys.out W hW) hfu.out (Nat.le_trans HV.out.2.2.2.1 (HS.out.memo.up hW).size) (HV.out.2.2.1.memo (HS.out.memo.up hW)) (HV.out.2.2.2.2.2.memo (HS.out.memo.up hW))
                rw [HS.out.len] at q
                exact q
              subst hk
              go_wp2_with (first | (go_at_call 33; refine (HU.out _ (show Up wr _ from uq)).mono ?_; rintro e w5 ⟨c, u, rfl, hc, hv, hcn, hm5⟩; have HC := Lib.hid (And.intro hc (And.intro hv (And.intro hcn ((HS.out.memo.up (show Up wr _ from uq)).trans hm5)))); clear hc hv hcn hm5))
              refine bodyPost_ret (v := .pointer (some ⟨c, 0, none⟩)) (by simp [results, Tryz.results44, go_sem]) rfl ?_
              exact ⟨c, u, rfl, HC.out.1, HC.out.2.1, by rw [HC.out.2.2.1, hcan.out, Ty.canon_mk, throughC, if_pos rfl, List.map_map]; rfl, HC.out.2.2.2⟩
            · have HM : Hid (∀ W, Up wr W → Calls Tryz.prog 26 #[.agg #[.int .i64 k, .int .i64 n, .string nm, .slice la ps.length lcap, .slice na nl ncap, .slice ma ml mcap, .int .i64 0, .string ⟨#[]⟩]] W fun e w' => ∃ b, e = .returned (.pointer (some ⟨b, 0, none⟩)) ∧ TyAt N B w' b (.mk k n nm us ns ms) ∧ W.heap.size ≤ b ∧ Up W w') := fun W hW => by
                have hVW := HV.out.1.memo (HS.out.memo.up hW)
                have hrow := ownsRow_rowG (N := N) (ownsRow_up HS.out.row hW) (fun g hg => HV.out.2.2.2.2.2 g (HS.out.rowB g hg)) (by rw [List.length_map, HS.out.len]) (by have := hpl; omega)
                exact made_tree N B k n nm cs us ns ms _ _ _ W (Nat.le_trans HV.out.2.2.2.1 (HS.out.memo.up hW).size) hrow hVW.hn hVW.hm hcl.out (htys.out W hW)
              have hkb : (k == 16) = false := by simp [hk]
              go_wp2_with fail
              go_region_held3 (fun X => X.cell? ⟨b, 0, none⟩ = some (.int .i64 k) ∧ X.cell? ⟨b, 1, none⟩ = some (.int .i64 n) ∧ X.cell? ⟨b, 2, none⟩ = some (.string nm) ∧ X.cell? ⟨b, 4, none⟩ = some (.slice na nl ncap) ∧ X.cell? ⟨b, 5, none⟩ = some (.slice ma ml mcap)) (((try dsimp only); (repeat' apply And.intro); all_goals (first | go_keep | assumption))) (first | (go_at_call 26; refine (HM.out _ (show Up wr _ from uq)).mono ?_; rintro e w5 ⟨c, rfl, hc, hl5, hu5⟩; have hm5 := (HS.out.memo.up (show Up wr _ from uq)).up hu5; have HC := Lib.hid (And.intro hc hm5); have hV5 := HV.out.1.memo hm5; have b0 := hV5.c0; have b1 := hV5.c1; have b2 := hV5.c2; have b4 := hV5.c4; have b5 := hV5.c5; have bl := hV5.lt; clear hc hl5 hV5 hm5))
              all_goals (go_wp2_with fail)
              all_goals refine bodyPost_ret (v := .pointer (some ⟨c, 0, none⟩)) (by simp [results, Tryz.results44, go_sem]) rfl ?_
              refine ⟨c, _, rfl, HC.out.1.up (show Up w5 _ from uq), HP.out.1.with hk (by rw [HS.out.lenU]) HS.out.val (fun h20 => ?_), ?_, HC.out.2.up (show Up w5 _ from uq)⟩
              · rw [hcan.out]
                exact List.map_congr_left fun p hp => HP.out.2.2.2.2.2.1 h20 p hp
              · rw [Ty.canon_mk, Ty.canon_mk, throughC, if_neg hk, hcan.out, List.map_map]
                rfl

end Go.Proofs.YtbghpkoimbmijaaGreatDoor
