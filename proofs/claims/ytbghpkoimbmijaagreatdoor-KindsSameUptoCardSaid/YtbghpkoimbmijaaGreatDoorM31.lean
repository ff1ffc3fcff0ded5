import Derived.Test.YtbghpkoimbmijaaGreatDoorM30
import Derived.Test.YtbghpkoimbmijaaGreatDoorM23
import Derived.Test.YtbghpkoimbmijaaGreatDoorM29
/- YtbghpkoimbmijaaGreatDoorM31: lemmas of the proof, in order: LC, LD, KP, KQ, AN. -/
/- Walks: a type laid in an arena, part by part: what stands meanwhile. -/
namespace Go.Proofs.YtbghpkoimbmijaaGreatDoor
open Go.RowKit
set_option linter.unusedSimpArgs false
set_option linter.unusedVariables false

abbrev IntT : TypeId := 3
theorem int_info : (Tryz.prog.info? IntT).map (fun i => (i.zero, i.size, i.bytes)) = some (some (.int .i64 0), 1, 8) := by kernel_rfl

/-- all but rows of numbers lie as they lay -/
def Apart (w w' : World) : Prop := ∀ (x : Nat) (o : Obj), w.heap[x]? = some o → (∀ (cs : Array Value) (f : Nat × Nat), o ≠ .cells cs IntT f) → w'.heap[x]? = some o
theorem not_int {T : TypeId} (cs : Array Value) (f : Nat × Nat) (hT : T ≠ IntT) : ∀ (cs' : Array Value) (f' : Nat × Nat), Obj.cells cs T f ≠ .cells cs' IntT f' := fun cs' f' e => by
  injection e with _ e _
  exact hT e
theorem TyAt.apart {N : Nat → Prop} {B : Nat} {w w' : World} {b : Nat} {t : Ty} (h : TyAt N B w b t) (k : Apart w w') : TyAt N B w' b t := by
  induction h with
  | mk said pv nv mv qs hB hh hs hp hn hm hl hq ih =>
    exact TyAt.mk said pv nv mv qs hB (k _ _ hh (not_int _ _ (by decide))) hs (hp.keep fun g cs fz q1 q2 => ⟨q1, k _ _ q2 (not_int _ _ (by decide))⟩) (hn.keep fun g cs fz q1 q2 => ⟨q1, k _ _ q2 (not_int _ _ (by decide))⟩) (hm.keep fun g cs fz q1 q2 => ⟨q1, k _ _ q2 (not_int _ _ (by decide))⟩) hl ih
theorem Are.apart {w w' : World} {B A : Nat} {bs : List Nat} {ts : List Ty} {tv mv dv : Value} (h : Are w B A bs ts tv mv dv) (k : Apart w w') : Are w' B A bs ts tv mv dv where
  base := h.base
  head := k _ _ h.head (not_int _ _ (by decide))
  row := ownsRow_keep h.row fun g' hg' => by
    obtain ⟨cur, hc⟩ : ∃ cur, w.heap[g']? = some (.cells cur TpT (0, 0)) := by
      rcases h.row.2 with ⟨hv, _⟩ | ⟨g'', cap, cur, hv, _, hc, _⟩
      · rw [hv] at hg'; cases hg'
      · rw [hv] at hg'; cases hg'; exact ⟨cur, hc⟩
    rw [hc]
    exact k _ _ hc (not_int _ _ (by decide))
  rowB := h.rowB
  ids := h.ids.imp id fun ⟨g, es, clk, h1, h2, h3, h4⟩ => ⟨g, es, clk, h1, h2, k _ _ h3 (fun _ _ e => by cases e), h4⟩
  len := h.len
  nodup := h.nodup
  ty i b t h1 h2 := (h.ty i b t h1 h2).apart k
  good := h.good
  closed := h.closed

theorem row_blockI {w : World} {T : TypeId} {v : Value} {n : Nat} {xs : List Value} (h : w.ownsRow 0 T 1 v n xs) {g : Nat} (hg : v.ownBlock = some g) : ∃ cur, w.heap[g]? = some (.cells cur T (0, 0)) := by
  rcases h.2 with ⟨hv, _⟩ | ⟨g'', cap, cur, hv, _, hc, _⟩
  · rw [hv] at hg; cases hg
  · rw [hv] at hg; cases hg; exact ⟨cur, hc⟩
theorem ownsRow_memoS {S : Nat → Prop} {B : Nat} {w w' : World} {T : TypeId} {v : Value} {n : Nat} {xs : List Value} (h : w.ownsRow 0 T 1 v n xs) (hT : T ≠ TyT) (hS : ∀ g, v.ownBlock = some g → ¬ S g) (m : Memo S B w w') : w'.ownsRow 0 T 1 v n xs := ownsRow_keep h fun g hg => by
  obtain ⟨cur, hc⟩ := row_blockI h hg
  exact (m.cells hc hT (hS g hg)).trans hc.symm
theorem ids_more {l r : List Ty} : ∀ {zs : List Nat} {us : List Ty}, zs.map (fun z => l[z]?) = us.map some → zs.map (fun z => (l ++ r)[z]?) = us.map some
  | [], [], _ => rfl
  | [], _ :: _, h => by simp at h
  | _ :: _, [], h => by simp at h
  | z :: zs, u :: us, h => by
    simp only [List.map_cons, List.cons.injEq] at h ⊢
    exact ⟨by rw [List.getElem?_append_left (List.getElem?_eq_some_iff.1 h.1).1]; exact h.1, ids_more h.2⟩

/-- what keep answers, of a type that is not too large -/
theorem KeepR.done {B A : Nat} {bs : List Nat} {ts : List Ty} {tv mv dv : Value} {w w' : World} {u : Ty} {e : Ending} (h : KeepR B A bs ts tv mv dv w u e w') (hv : u.Valid) (hn : u.nodes ≤ 500) :
    ∃ (i : Nat) (bs' : List Nat) (ts' : List Ty) (tv' mv' : Value) (x : Ty), e = .returned (.tuple #[.int .i64 i, .int .i64 0]) ∧ Are w' B A (bs ++ bs') (ts ++ ts') tv' mv' dv ∧ LayM B A tv mv w w' tv' mv' ∧ bs'.length ≤ u.nodes ∧ (ts ++ ts')[i]? = some x ∧ x.Valid ∧ x.canon = u.canon ∧ x.nodes = u.nodes := by
  rcases h with ⟨_, i, rfl, i', bs', ts', tv', mv', e, h1, h2, h3, h4, _⟩ | ⟨h5, _, _⟩
  · injection e with e
    injection e with _ e
    obtain rfl : i = i' := by omega
    rw [List.getElem?_map] at h3
    cases hx : (ts ++ ts')[i]? with
    | none => rw [hx] at h3; cases h3
    | some x =>
      rw [hx] at h3
      simp only [Option.map_some, Option.some.injEq] at h3
      have hg := (h1.good x (List.mem_of_getElem? hx)).1
      exact ⟨i, bs', ts', tv', mv', x, rfl, h1, h2, h4, hx, hg, text_inj hg hv h3, text_smaller hg hv h3⟩
  · omega

/-- what laid answers -/
def LaidR (B A : Nat) (bs : List Nat) (ts : List Ty) (tv mv dv : Value) (w : World) (t : Ty) (e : Ending) (w' : World) : Prop :=
  ∃ (i : Nat) (ok : Bool) (bs' : List Nat) (ts' : List Ty) (tv' mv' : Value), e = .returned (.tuple #[.int .i64 i, .bool ok]) ∧ Are w' B A (bs ++ bs') (ts ++ ts') tv' mv' dv ∧ LayM B A tv mv w w' tv' mv' ∧ bs'.length ≤ 100 * t.nodes ∧ (ok = true → ∃ u, (ts ++ ts')[i]? = some u ∧ u.nodes ≤ t.nodes ∧ ∀ P, t.varsOk P → u.varsOk P)

/-- while the parts are laid -/
structure LaidS (B A : Nat) (bs : List Nat) (ts : List Ty) (tv mv dv : Value) (w : World) (ps : List Ty) (c j : Nat) (lv : Value) (bs1 : List Nat) (ts1 : List Ty) (tv1 mv1 : Value) (zs : List Nat) (us : List Ty) (wr : World) : Prop where
  base : B ≤ w.heap.size
  are : Are wr B A (bs ++ bs1) (ts ++ ts1) tv1 mv1 dv
  lay : LayM B A tv mv w wr tv1 mv1
  few : bs1.length ≤ 100 * sumN (ps.take c)
  len : zs.length = j
  ids : zs.map (fun z => (ts ++ ts1)[z]?) = us.map some
  size : sumN us ≤ sumN (ps.take j)
  vars : ∀ P, (∀ p ∈ ps.take j, p.varsOk P) → ∀ u ∈ us, u.varsOk P
  row : wr.ownsRow 0 IntT 1 lv j (zs.map numV)
  far : ∀ g, lv.ownBlock = some g → w.heap.size ≤ g ∧ ¬ arS A tv1 mv1 g

section
variable {B A : Nat} {bs : List Nat} {ts : List Ty} {tv mv dv : Value} {w : World} {ps : List Ty} {c j : Nat} {lv : Value} {bs1 : List Nat} {ts1 : List Ty} {tv1 mv1 : Value} {zs : List Nat} {us : List Ty} {wr : World}
theorem LaidS.up (h : LaidS B A bs ts tv mv dv w ps c j lv bs1 ts1 tv1 mv1 zs us wr) {w2 : World} (hu : Up wr w2) : LaidS B A bs ts tv mv dv w ps c j lv bs1 ts1 tv1 mv1 zs us w2 :=
  ⟨h.base, h.are.up hu, h.lay.trans (LayM.of_memo (Memo.of_up _ _ hu)), h.few, h.len, h.ids, h.size, h.vars, ownsRow_up h.row hu, h.far⟩
theorem LaidS.called (h0 : LaidS B A bs ts tv mv dv w ps j j lv bs1 ts1 tv1 mv1 zs us wr) {w2 w3 : World} (hu : Up wr w2) {p : Ty} (hp : ps[j]? = some p) {e : Ending} (k : LaidR B A (bs ++ bs1) (ts ++ ts1) tv1 mv1 dv w2 p e w3) :
    ∃ (i : Nat) (ok : Bool) (bs2 : List Nat) (ts2 : List Ty) (tv2 mv2 : Value), e = .returned (.tuple #[.int .i64 i, .bool ok]) ∧ LaidS B A bs ts tv mv dv w ps (j + 1) j lv bs2 ts2 tv2 mv2 zs us w3 ∧ (ok = true → ∃ x, (ts ++ ts2)[i]? = some x ∧ x.nodes ≤ p.nodes ∧ ∀ P, p.varsOk P → x.varsOk P) := by
  have h := h0.up hu
  obtain ⟨i, ok, bs', ts', tv', mv', rfl, k1, k2, k3, k4⟩ := k
  refine ⟨i, ok, bs1 ++ bs', ts1 ++ ts', tv', mv', rfl, ⟨h.base, ?_, h.lay.trans k2, ?_, h.len, ?_, h.size, h.vars, ownsRow_memoS h.row (by decide) (fun g hg => (h.far g hg).2) k2.memo, fun g hg => ⟨(h.far g hg).1, fun hx => ?_⟩⟩, ?_⟩
  · rw [List.append_assoc, List.append_assoc] at k1
    exact k1
  · have := h.few
    rw [sumN_next hp, List.length_append]
    omega
  · rw [← List.append_assoc]
    exact ids_more h.ids
  · rcases k2.own g hx with q | q
    · exact (h.far g hg).2 q
    · obtain ⟨cur, hc⟩ := row_blockI h.row hg
      have := lt_of_heap hc
      omega
  · rw [List.append_assoc] at k4
    exact k4
theorem LaidS.grown (h0 : LaidS B A bs ts tv mv dv w ps (j + 1) j lv bs1 ts1 tv1 mv1 zs us wr) {W w7 : World} (hu : Up wr W) {p x : Ty} {i : Nat} (hp : ps[j]? = some p) (hx : (ts ++ ts1)[i]? = some x) (hn : x.nodes ≤ p.nodes) (hxv : ∀ P, p.varsOk P → x.varsOk P) {lv' : Value}
    (hown : w7.ownsRow 0 IntT 1 lv' (j + 1) (zs.map numV ++ [.int .i64 i])) (hgrow : (W.alloc (.cells #[.int .i64 i] IntT)).grownBy w7 lv.ownBlock) (hblk : lv'.ownBlock = lv.ownBlock ∨ ∃ g', lv'.ownBlock = some g' ∧ W.heap.size + 1 ≤ g') :
    LaidS B A bs ts tv mv dv w ps (j + 1) (j + 1) lv' bs1 ts1 tv1 mv1 (zs ++ [i]) (us ++ [x]) w7 := by
  have h := h0.up hu
  have hlw : w.heap.size ≤ W.heap.size := h.lay.memo.size
  have hap : Apart W w7 := fun y o hy ho => grown_get hgrow (alloc_keep hy) (fun e => by
    obtain ⟨cur, hc⟩ := row_blockI h.row e
    rw [hc] at hy
    cases hy
    exact ho _ _ rfl)
  refine ⟨h.base, h.are.apart hap, ⟨?_, h.lay.own⟩, h.few, by simp [h.len], ?_, ?_, fun P hP u hu' => ?_, ?_, fun g hg => ?_⟩
  · have m1 := h.lay.memo.mono (T := fun x => arS A tv mv x ∨ w.heap.size ≤ x) fun _ e => .inl e
    have m2 : Memo (fun x => arS A tv mv x ∨ w.heap.size ≤ x) B (W.alloc (.cells #[.int .i64 i] IntT)) w7 := Memo.grown hgrow fun r e => by
      obtain ⟨cur, hc⟩ := row_blockI h.row e
      have hf := (h.far r e).1
      exact ⟨.inr hf, Nat.le_trans h.base hf, cur, IntT, (0, 0), alloc_keep hc, by decide⟩
    exact ((m1.up (show Up W (W.alloc (.cells #[.int .i64 i] IntT)) from uq)).trans m2).less fun _ e => e
  · rw [List.map_append, List.map_append, h.ids, List.map_cons, List.map_nil, hx]
    rfl
  · have := h.size
    rw [sumN_next hp]
    unfold sumN at *
    rw [List.map_append, List.sum_append]
    simp only [List.map_cons, List.map_nil, List.sum_cons, List.sum_nil]
    omega
  · rw [List.take_add_one, hp, Option.toList_some] at hP
    rcases List.mem_append.1 hu' with q | q
    · exact h.vars P (fun y hy => hP y (List.mem_append_left _ hy)) u q
    · rw [List.mem_singleton.1 q]
      exact hxv P (hP p (by simp))
  · rw [List.map_append]
    exact hown
  · rcases hblk with q | ⟨g', q, q2⟩
    · exact h.far g (by rw [← q]; exact hg)
    · rw [q] at hg
      cases hg
      exact ⟨by omega, h.are.open_ g (by omega)⟩
theorem LaidS.stop (h : LaidS B A bs ts tv mv dv w ps c j lv bs1 ts1 tv1 mv1 zs us wr) {t : Ty} (hn : sumN ps ≤ t.nodes) {w2 : World} (hu : Up wr w2) : LaidR B A bs ts tv mv dv w t (.returned (.tuple #[.int .i64 0, .bool false])) w2 :=
  ⟨0, false, bs1, ts1, tv1, mv1, rfl, h.are.up hu, (h.up hu).lay, by have := h.few; have := sumN_take ps c; omega, fun e => by cases e⟩
theorem LaidS.done (h : LaidS B A bs ts tv mv dv w ps c j lv bs1 ts1 tv1 mv1 zs us wr) {t : Ty} (hn : 1 + sumN ps = t.nodes) (h60 : t.nodes ≤ 60) {W W2 w' : World} (hu : Up wr W) {u : Ty} (hm : Memo none1 B W W2) {e : Ending} (k : KeepR B A (bs ++ bs1) (ts ++ ts1) tv1 mv1 dv W2 u e w') (hv : u.Valid) (hun : u.nodes ≤ t.nodes) (huv : ∀ P, t.varsOk P → u.varsOk P) :
    ∃ i : Nat, e = .returned (.tuple #[.int .i64 i, .int .i64 0]) ∧ LaidR B A bs ts tv mv dv w t (.returned (.tuple #[.int .i64 i, .bool true])) w' := by
  obtain ⟨i, bs', ts', tv', mv', x, rfl, k1, k2, k3, k4, _, k6, k5⟩ := k.done hv (by omega)
  refine ⟨i, rfl, i, true, bs1 ++ bs', ts1 ++ ts', tv', mv', rfl, ?_, ((h.up hu).lay.trans (LayM.of_memo hm)).trans k2, ?_, fun _ => ⟨x, ?_, by omega, fun P hP => by rw [← Ty.varsOk_canon, k6, Ty.varsOk_canon]; exact huv P hP⟩⟩
  · rw [List.append_assoc, List.append_assoc] at k1
    exact k1
  · have := h.few
    have := sumN_take ps c
    rw [List.length_append]
    omega
  · rw [← List.append_assoc]
    exact k4
end

theorem LaidR.from_ {B A : Nat} {bs : List Nat} {ts : List Ty} {tv mv dv : Value} {w W : World} {t : Ty} {e : Ending} {w' : World} (h : LaidR B A bs ts tv mv dv W t e w') (hu : Up w W) : LaidR B A bs ts tv mv dv w t e w' := by
  obtain ⟨i, ok, bs', ts', tv', mv', h1, h2, h3, h4, h5⟩ := h
  exact ⟨i, ok, bs', ts', tv', mv', h1, h2, (LayM.of_memo (Memo.of_up _ _ hu)).trans h3, h4, h5⟩
/-- a type that came in is none of an arena's own blocks -/
theorem Are.not_own {w : World} {B A : Nat} {bs : List Nat} {ts : List Ty} {tv mv dv : Value} (h : Are w B A bs ts tv mv dv) {q : Nat} {cs : Array Value} {f : Nat × Nat} (hq : w.heap[q]? = some (.cells cs RefT f)) : ¬ arS A tv mv q := by
  rintro (e | e | e)
  · subst e
    exact cells_ne hq h.head (by decide) rfl
  · obtain ⟨cur, hc⟩ := row_blockI h.row e
    exact cells_ne hq hc (by decide) rfl
  · rcases h.ids with ⟨h9, _⟩ | ⟨g, es, clk, h9, _, hm, _⟩
    · rw [h9] at e; cases e
    · rw [h9] at e
      cases e
      rw [hm] at hq
      cases hq
theorem ids_mem {l : List Ty} : ∀ {zs : List Nat} {us : List Ty}, zs.map (fun z => l[z]?) = us.map some → ∀ t ∈ us, t ∈ l
  | [], [], _ => fun t h => by cases h
  | [], _ :: _, h => by simp at h
  | _ :: _, [], h => by simp at h
  | z :: zs, u :: us, h => by
    simp only [List.map_cons, List.cons.injEq] at h
    intro t ht
    rcases List.mem_cons.1 ht with rfl | ht
    · exact List.mem_of_getElem? h.1
    · exact ids_mem h.2 t ht
theorem sumN_mem {l : List Ty} {t : Ty} (h : t ∈ l) : t.nodes ≤ sumN l := sum_mem (List.mem_map_of_mem (f := Ty.nodes) h)
theorem sumN_length (l : List Ty) : l.length ≤ sumN l := by
  induction l with
  | nil => exact Nat.le_refl _
  | cons x r ih =>
    have := x.nodes_pos
    unfold sumN at *
    simp only [List.length_cons, List.map_cons, List.sum_cons]
    omega
theorem fit_of {w : World} {B A : Nat} {bs : List Nat} {ts : List Ty} {tv mv dv : Value} (h : Are w B A bs ts tv mv dv) {zs : List Nat} {us : List Ty} (hi : zs.map (fun z => ts[z]?) = us.map some) (hn : sumN us ≤ 1000) : Fit us :=
  ⟨fun t ht => (h.good t (ids_mem hi t ht)).1, fun t ht => (h.good t (ids_mem hi t ht)).2.2, by unfold sumN at hn; omega, Nat.le_trans (sumN_length us) hn⟩

theorem ids_row {w : World} {a : Option Addr} {n cap : Nat} {zs : List Nat} (h : w.ownsRow 0 IntT 1 (.slice a n cap) n (zs.map numV)) (hl : zs.length = n) : IdsAt w a zs := fun j z hj => by
  have hjl := (List.getElem?_eq_some_iff.1 hj).1
  obtain ⟨g, cap', cur, hv, hg, _, hc⟩ := row_cells_gen h (by omega)
  injection hv with h1 _ _
  have q := hc j (numV z) (by rw [List.getElem?_map, hj]; rfl)
  exact ⟨g, 0, h1, lt_of_heap hg, (cell_of hg _).trans q⟩

end Go.Proofs.YtbghpkoimbmijaaGreatDoor

/- Walk: a type laid in an arena, part by part. -/
namespace Go.Proofs.YtbghpkoimbmijaaGreatDoor
open Go.RowKit
set_option linter.unusedSimpArgs false
set_option linter.unusedVariables false

/-- laid, of a tree -/
def LaidAny (t : Ty) : Prop := ∀ (us : List Value) (w : World) (B A : Nat) (bs : List Nat) (ts : List Ty) (tv mv dv : Value) (m : Int), TIs B w us t → Are w B A bs ts tv mv dv → GlobB B w → w.cell? ⟨0, 0, none⟩ = some (.int .i64 m) → 0 < B → bs.length + 100 * t.nodes ≤ 400000 → t.nodes ≤ 60 →
  Calls Tryz.prog 8 #[.pointer (some ⟨A, 0, none⟩), .agg us.toArray] w (LaidR B A bs ts tv mv dv w t)

set_option maxRecDepth 100000 in
set_option maxHeartbeats 6400000 in
theorem laid_any : ∀ (c : Nat) (t : Ty), t.nodes ≤ c → LaidAny t := by
  intro c
  induction c with
  | zero => intro t h; have := t.nodes_pos; omega
  | succ c ih =>
    intro t hc us w B A bs ts tv mv dv m h hA hG hM hMB hf h60
    have hBw := hA.lt
    have a4 := lt_of_heap hA.head
    cases h with
    | @mk k n nm pa cap nv kv ps ns ms us hn1 hn2 hnm hnv hln hsm hmv hlm hl hpl hpc hcc hq =>
      have hsum : Hid (1 + sumN ps = (Ty.mk k n nm ps ns ms).nodes) := (Ty.nodes_mk _ _ _ _ _ _).symm
      obtain ⟨N, hN⟩ : ∃ N, Hid ((Ty.mk k n nm ps ns ms).nodes = N) := ⟨_, rfl⟩
      obtain ⟨T, hT⟩ : ∃ T, Hid (Ty.mk k n nm ps ns ms = T) := ⟨_, rfl⟩
      rw [hN.out] at hc hf h60 hsum
      rw [hT.out]
      rw [hT.out] at hN
      have HP := Lib.hid (fun (j : Nat) (hj : j < ps.length) => parts_at hl hcc hq hj)
      have IH := Lib.hid ih
      have H0 := Lib.hid (And.intro hA (And.intro hG (And.intro hM (And.intro hMB (And.intro hf (And.intro h60 (And.intro hBw hc)))))))
      have HNV := Lib.hid (And.intro hnv (And.intro hln (And.intro hsm (And.intro hmv (And.intro hlm (And.intro hnm (And.intro hn1 hn2)))))))
      obtain ⟨na, ncap, rfl, _, _⟩ := hnv.form
      obtain ⟨ma, mcap, rfl, _, _⟩ := hmv.form
      obtain ⟨nl, hnl⟩ : ∃ nl, Hid ((ns.map Value.string).length = nl) := ⟨_, rfl⟩
      obtain ⟨ml, hml⟩ : ∃ ml, Hid ((ms.map Value.bool).length = ml) := ⟨_, rfl⟩
      rw [hnl.out, hml.out]
      have hpl60 : ps.length ≤ 60 := by have := sumN_length ps; have := hsum.out; omega
      clear ih hA hG hM hMB hf h60 hBw hc hl hcc hq hnv hln hsm hmv hlm hnm hn1 hn2
      go_enter Tryz.func8, Tryz.ntmps8
      go_wp2_with fail
      refine range_named fun A2 W2 hA2 hW2 => ?_
      have hu0 : Hid (Up w W2) := by subst hW2; exact uq
      obtain ⟨q, hq⟩ : ∃ q, Hid (w.heap.size = q) := ⟨_, rfl⟩
      have HQ : Hid (W2.heap[q]? = some (.cells #[.int .i64 k, .int .i64 n, .string nm, .slice pa ps.length cap, .slice na nl ncap, .slice ma ml mcap] RefT (0, 0))) := by subst hW2; rw [← hq.out]; exact alloc_at _ _ _ rfl
      rw [hq.out] at hA2
      clear hW2
      subst hA2
      have hB2 : Hid (B ≤ W2.heap.size) := Nat.le_trans H0.out.2.2.2.2.2.2.1 hu0.out.size
      have hA2 := Lib.hid (H0.out.1.up hu0.out)
      have hnq := Lib.hid (hA2.out.not_own HQ.out)
      go_loopw [6, 7] (fun lv i wr => ∃ j : Nat, j ≤ ps.length ∧ i = .int .i64 j ∧ ∃ bs1 ts1 tv1 mv1 zs us, LaidS B A bs ts tv mv dv W2 ps j j lv bs1 ts1 tv1 mv1 zs us wr) (fun _ i _ => ps.length - (intOf i).toNat)
      case atStart =>
        refine ⟨0, Nat.zero_le _, rfl, [], [], tv, mv, [], [], hB2.out, ?_, LayM.refl _ _ _ _ _, Nat.zero_le _, rfl, rfl, Nat.zero_le _, (fun P hP u hu => by cases hu), (show W2.ownsRow 0 IntT 1 (.slice none 0 0) 0 [] from ⟨rfl, .inl ⟨rfl, rfl⟩⟩), fun g hg => by simp [Value.ownBlock] at hg⟩
        rw [List.append_nil, List.append_nil]
        exact hA2.out
      case round =>
        obtain ⟨j, hj, rfl, bs1, ts1, tv1, mv1, zs, us, hS⟩ := hrel
        have hbel : Below B w wr := Below.trans (hu0.out.below H0.out.2.2.2.2.2.2.1) (hS.lay.memo.below hB2.out)
        have hBr : B ≤ wr.heap.size := Nat.le_trans H0.out.2.2.2.2.2.2.1 hbel.size
        have HQr := Lib.hid (hS.lay.memo.cells HQ.out (by decide) hnq.out)
        obtain ⟨la, lcap, rfl⟩ := ownsRow_form hS.row
        have hAr := lt_of_heap hS.are.head
        have x0 := cell_of HQr.out 0; have x1 := cell_of HQr.out 1; have x2 := cell_of HQr.out 2; have x3 := cell_of HQr.out 3; have x4 := cell_of HQr.out 4; have x5 := cell_of HQr.out 5; have xl := lt_of_heap HQr.out; simp only [List.getElem?_toArray, List.getElem?_cons_zero, List.getElem?_cons_succ] at x0 x1 x2 x3 x4 x5
        by_cases hlt : j < ps.length
        · have hji : (j : Int) < ps.length := by omega
          obtain ⟨p, b, off, u0, u1, u2, u3, u4, u5, hp, rfl, hb, c0, c1, c2, c3, c4, c5, ht⟩ := HP.out j hlt
          have hbl : b < wr.heap.size := by omega
          have c0 := (Below.cell (p := ⟨b, _, none⟩) hbel hb).trans c0
          have c1 := (Below.cell (p := ⟨b, _, none⟩) hbel hb).trans c1
          have c2 := (Below.cell (p := ⟨b, _, none⟩) hbel hb).trans c2
          have c3 := (Below.cell (p := ⟨b, _, none⟩) hbel hb).trans c3
          have c4 := (Below.cell (p := ⟨b, _, none⟩) hbel hb).trans c4
          have c5 := (Below.cell (p := ⟨b, _, none⟩) hbel hb).trans c5
          have HT := Lib.hid (fun W (hW : Up wr W) => IH.out p (by have := sumN_mem (List.mem_of_getElem? hp); have := hsum.out; have := H0.out; omega) [u0, u1, u2, u3, u4, u5] W B A (bs ++ bs1) (ts ++ ts1) tv1 mv1 dv m (ht.low (Below.trans hbel (hW.below hBr))) (hS.are.up hW) (((H0.out.2.1.memo (Memo.of_up none1 B hu0.out)).memo hS.lay.memo).memo (Memo.of_up none1 B hW)) ((hW.cells _ _ (by have := H0.out.2.2.2.1; omega)).trans ((Below.cell (p := ⟨0, 0, none⟩) hbel H0.out.2.2.2.1).trans H0.out.2.2.1)) H0.out.2.2.2.1 (by
            have h1 := hS.few
            have h2 := sumN_next hp
            have h3 := sumN_take ps (j + 1)
            have h4 := hsum.out
            have h5 := H0.out.2.2.2.2.1
            rw [List.length_append]
            omega) (by have := sumN_mem (List.mem_of_getElem? hp); have := hsum.out; have := H0.out.2.2.2.2.2.1; omega))
          have HS := Lib.hid (And.intro hS hp)
          obtain ⟨i0, hi, hz0, hz1, hz2⟩ := info_parts int_info
          clear hS hp ht hlt hbel
          go_wp2_with (first
            | (go_at_call 8; refine (HT.out _ (show Up wr _ from uq)).mono ?_; intro e w3 hR; obtain ⟨i3, ok, bs2, ts2, tv2, mv2, rfl, hS2, hx⟩ := HS.out.1.called (show Up wr _ from uq) HS.out.2 hR; have HS2 := Lib.hid (And.intro hS2 hx); clear hR hS2 hx; (rcases ok with _ | _))
            | (at_builtin; go_must (refine wpList_append_new rfl _ _ 36 rfl IntT i0 (.int .i64 0) 1 8 Tryz.underlying36 hi hz0 hz1 hz2 rfl (by decide) (.slice la j lcap) j (zs.map numV) rfl (ownsRow_up HS2.out.1.row uq) _ 1 1 rfl (by first | rfl | (simp; done) | omega) rfl (by intro u hu; have hu2 : u = .int .i64 i3 := (by simpa using hu); rw [hu2]; rfl) (by unfold maxLen; omega) (by omega) ?_; intro sa' cap' w7 hown' hgrow hblk; (try simp only [World.size_alloc] at hblk); have HY := Lib.hid (And.intro hown' (And.intro hgrow hblk)); clear hown' hgrow hblk)))
          · refine bodyPost_ret (v := .tuple #[.int .i64 0, .bool false]) (by simp [results, Tryz.results8, go_sem]) rfl ?_
            exact (HS2.out.1.stop (by have := hsum.out; have := hN.out; omega) (show Up w3 _ from uq)).from_ hu0.out
          · obtain ⟨x, hx1, hx2, hx3⟩ := HS2.out.2 (by first | rfl | trivial)
            exact ⟨⟨j + 1, by omega, by simp, bs2, ts2, tv2, mv2, zs ++ [i3], us ++ [x], HS2.out.1.grown (show Up w3 _ from uq) HS.out.2 hx1 hx2 hx3 HY.out.1 HY.out.2.1 HY.out.2.2⟩, by simp [intOf]; omega⟩
        · obtain rfl : j = ps.length := by omega
          have hsz : Hid (sumN us ≤ sumN ps) := by have := hS.size; rw [List.take_length] at this; exact this
          have hfit := Lib.hid (fit_of hS.are hS.ids (by have := hsz.out; have := hsum.out; have := H0.out.2.2.2.2.2.1; omega))
          have hbs : Hid ((bs ++ bs1).length ≤ 500000) := by
            unfold Hid
            have h1 := hS.few
            have h3 := sumN_take ps ps.length
            have h4 := hsum.out
            have h5 := H0.out.2.2.2.2.1
            rw [List.length_append]
            omega
          have hG1 := Lib.hid (fun W (hW : Up wr W) => ((H0.out.2.1.memo (Memo.of_up none1 B hu0.out)).memo hS.lay.memo).memo (Memo.of_up none1 B hW))
          have hid := Lib.hid (ids_row hS.row hS.len)
          have hvars : Hid (∀ P, T.varsOk P → ∀ u ∈ us, u.varsOk P) := fun P hP => hS.vars P (by rw [List.take_length]; rw [← hT.out] at hP; exact (Ty.varsOk_mk.1 hP).2)
          have HS := Lib.hid hS
          have HB := Lib.hid (And.intro hbel hBr)
          clear hS hlt hbel hBr
          by_cases hk : k = 16
          · have HU : Hid (∀ W, Up wr W → Calls Tryz.prog 14 #[.pointer (some ⟨A, 0, none⟩), .slice la ps.length lcap] W (UniR B A (bs ++ bs1) (ts ++ ts1) tv1 mv1 dv W (unionC (us.map Ty.canon)))) := fun W hW => by
              have q := Union_in B A (bs ++ bs1) (ts ++ ts1) tv1 mv1 dv zs us la lcap W (HS.out.are.up hW) (hid.out.up hW) HS.out.ids hfit.out (hG1.out W hW) hbs.out
              rw [HS.out.len] at q
              exact q
            subst hk
            go_wp2_with (first | (go_at_call 14; refine (HU.out _ (show Up wr _ from uq)).mono ?_; rintro e w5 ⟨u, w4, hv, hcn, hm4, hK⟩; obtain ⟨i5, rfl, hR⟩ := HS.out.done (hsum.out.trans hN.out.symm) (by have := hN.out; have := H0.out.2.2.2.2.2.1; omega) (show Up wr _ from uq) hm4 hK hv (by rw [← Ty.nodes_canon, hcn]; have h1 := unionC_nodes (us.map Ty.canon); rw [List.map_map, show (Ty.nodes ∘ Ty.canon) = Ty.nodes from funext Ty.nodes_canon] at h1; have h2 := hsz.out; have := hsum.out; have := hN.out; unfold sumN at *; omega) (fun P hP => by rw [← Ty.varsOk_canon, hcn]; exact unionC_vars fun z hz => (by obtain ⟨z', hz', rfl⟩ := List.mem_map.1 hz; rw [Ty.varsOk_canon]; exact hvars.out P hP z' hz')); have HR := Lib.hid (hR.from_ hu0.out); clear hv hcn hm4 hK hR))
            refine bodyPost_ret (v := .tuple #[.int .i64 i5, .bool true]) (by simp [results, Tryz.results8, go_sem]) rfl ?_
            exact HR.out
          · have HF : Hid (∀ W, Up wr W → Calls Tryz.prog 9 #[.pointer (some ⟨A, 0, none⟩), typV k n nm (.slice la ps.length lcap) (.slice na nl ncap) (.slice ma ml mcap)] W fun e w' => (e = .returned (.tuple #[.int .i64 0, .int .i64 1]) ∧ Up W w') ∨ ∃ i : Nat, e = .returned (.tuple #[.int .i64 i, .int .i64 0]) ∧ LaidR B A bs ts tv mv dv w T (.returned (.tuple #[.int .i64 i, .bool true])) w') := fun W hW => by
              have hbw : Below B w W := Below.trans HB.out.1 (hW.below HB.out.2)
              have q := Find_any (fun x => x < B) B A (bs ++ bs1) (ts ++ ts1) tv1 mv1 dv zs us la lcap k n nm _ _ ns ms m W ⟨HS.out.are.up hW, hid.out.up hW, HS.out.ids, hfit.out, hG1.out W hW, hbs.out, HNV.out.1.below hbw, HNV.out.2.2.2.1.below hbw, HNV.out.2.1, HNV.out.2.2.2.2.1, HNV.out.2.2.1, HNV.out.2.2.2.2.2.1, (Below.cell (p := ⟨0, 0, none⟩) hbw H0.out.2.2.2.1).trans H0.out.2.2.1⟩ HNV.out.2.2.2.2.2.2.1 HNV.out.2.2.2.2.2.2.2
              rw [HS.out.len, hnl.out, hml.out] at q
              refine q.mono ?_
              rintro e w5 (⟨rfl, hu5⟩ | ⟨hv, w4, hm4, hK⟩)
              · exact .inl ⟨rfl, hu5⟩
              · obtain ⟨i5, rfl, hR⟩ := HS.out.done (hsum.out.trans hN.out.symm) (by have := hN.out; have := H0.out.2.2.2.2.2.1; omega) hW hm4 hK hv (by rw [Ty.nodes_mk]; have h2 := hsz.out; have := hsum.out; have := hN.out; unfold sumN at *; omega) (fun P hP => Ty.varsOk_mk.2 ⟨by rw [← hT.out] at hP; exact (Ty.varsOk_mk.1 hP).1, hvars.out P hP⟩)
                exact .inr ⟨i5, rfl, hR.from_ hu0.out⟩
            go_wp2_with (first | (go_at_call 9; refine (HF.out _ (show Up wr _ from uq)).mono ?_; (rintro e w5 (⟨rfl, hu5⟩ | ⟨i5, rfl, hR⟩))))
            · refine bodyPost_ret (v := .tuple #[.int .i64 0, .bool false]) (by simp [results, Tryz.results8, go_sem]) rfl ?_
              exact (HS.out.stop (by have := hsum.out; have := hN.out; omega) (show Up wr _ from uq)).from_ hu0.out
            · refine bodyPost_ret (v := .tuple #[.int .i64 i5, .bool true]) (by simp [results, Tryz.results8, go_sem]) rfl ?_
              exact hR

end Go.Proofs.YtbghpkoimbmijaaGreatDoor

/- Walks: the union of false, true and never; known. -/
namespace Go.Proofs.YtbghpkoimbmijaaGreatDoor
open Go.RowKit
set_option linter.unusedSimpArgs false

def boolS : ByteArray := ⟨#[102, 97, 108, 115, 101, 32, 124, 32, 116, 114, 117, 101]⟩

theorem Few.size {w : World} {B A : Nat} {bs : List Nat} {g : Nat} {tv : Value} (h : Few w B A bs g tv 10) (i : Nat) (hi : i < 10) : ∃ b, bs[i]? = some b ∧ Leaf w b ((i : Int) + 1) (wordS ((i : Int) + 1)) := by
  have hl := h.len
  exact ⟨_, List.getElem?_eq_getElem (by omega), h.leaf i _ (List.getElem?_eq_getElem (by omega))⟩

theorem leaf_ne {w : World} {b c : Nat} {k l : Int} {s t : ByteArray} (h : Leaf w b k s) (h' : Leaf w c l t) (hk : k ≠ l) : b ≠ c := fun e => by
  subst e
  unfold Leaf at h h'
  rw [h] at h'
  injection h' with h'
  injection h' with h' _ _
  injection h' with h'
  injection h' with h' _
  injection h' with _ h'
  exact hk h'

theorem leaf_item {w : World} {b : Nat} {k : Int} (h : Leaf w b k (wordS k)) : Item w b k (wordS k) := ⟨_, h, rfl, rfl, word_ne _⟩

theorem bool_new : boolS ∉ wordsL 10 := by
  intro hm
  have hm := List.mem_map_of_mem (f := fun s : ByteArray => s.data.toList) hm
  exact absurd hm (by decide +kernel)

theorem bool_join : joinS [partS 10 (wordS 10), partS 9 (wordS 9)] = boolS := by decide +kernel

/-- what stands when the union was taken -/
structure Bools (w : World) (B A : Nat) (bs : List Nat) (g : Nat) : Prop where
  ar : ∃ tv' c, Ar w B A (bs ++ [c]) (wordsL 10 ++ [boolS]) tv' (.map (some g))
  len : bs.length = 10

set_option maxRecDepth 100000 in
set_option maxHeartbeats 3200000 in
theorem Union_known (B A g : Nat) (bs : List Nat) (tv : Value) (q cap : Nat) (w : World) (h : Few w B A bs g tv 10) (hq : q < w.heap.size) (h0 : w.cell? ⟨q, 0, none⟩ = some (.int .i64 9)) (h1 : w.cell? ⟨q, 1, none⟩ = some (.int .i64 8)) (h2 : w.cell? ⟨q, 2, none⟩ = some (.int .i64 2)) :
    Calls Tryz.prog 14 #[.pointer (some ⟨A, 0, none⟩), .slice (some ⟨q, 0, none⟩) 3 cap] w fun e w' => e = .returned (.tuple #[.int .i64 10, .int .i64 0]) ∧ Bools w' B A bs g ∧ Below B w w' := by
  obtain ⟨b9, e9, l9⟩ := h.size 9 (by omega)
  obtain ⟨b8, e8, l8⟩ := h.size 8 (by omega)
  obtain ⟨b2, e2, l2⟩ := h.size 2 (by omega)
  have n98 := leaf_ne l9 l8 (by decide)
  have n92 := leaf_ne l9 l2 (by decide)
  have n82 := leaf_ne l8 l2 (by decide)
  obtain ⟨kd, hkd⟩ : ∃ kd : Nat → Int, Hid (kd = fun b => if b = b9 then 10 else if b = b8 then 9 else 3) := ⟨_, rfl⟩
  have k9 : kd b9 = 10 := by rw [hkd.out]; simp
  have k8 : kd b8 = 9 := by rw [hkd.out]; simp [n98.symm]
  have k2 : kd b2 = 3 := by rw [hkd.out]; simp [n92.symm, n82.symm]
  have HK := Lib.hid (And.intro k9 (And.intro k8 k2))
  have HL := Lib.hid (And.intro (show Leaf w b9 10 (wordS 10) from l9) (And.intro (show Leaf w b8 9 (wordS 9) from l8) (show Leaf w b2 3 (wordS 3) from l2)))
  have HF := Lib.hid h
  have hBw : B ≤ w.heap.size := Nat.le_trans h.ar.base (Nat.le_of_lt (lt_of_heap h.ar.head))
  have hz : Hid (∀ (j z : Nat), [9, 8, 2][j]? = some z → ∃ b off, (some (⟨q, 0, none⟩ : Addr)) = some ⟨b, off, none⟩ ∧ b < w.heap.size ∧ w.cell? ⟨b, off + j, none⟩ = some (.int .i64 z)) := fun j z hz => by
    match j, hz with
    | 0, hz => simp at hz; subst hz; exact ⟨q, 0, rfl, hq, h0⟩
    | 1, hz => simp at hz; subst hz; exact ⟨q, 0, rfl, hq, h1⟩
    | 2, hz => simp at hz; subst hz; exact ⟨q, 0, rfl, hq, h2⟩
    | j + 3, hz => simp at hz
  have hxs : Hid ([9, 8, 2].map (fun z => ptrV (bs.getD z 0)) = [b9, b8, b2].map ptrV) := by
    unfold Hid
    simp only [List.map_cons, List.map_nil, List.getD_eq_getElem?_getD, e9, e8, e2, Option.getD_some]
  have hblen := h.len
  have hin : ∀ x ∈ bs, x < w.heap.size := fun x hx => by
    obtain ⟨i, hi⟩ := List.getElem?_of_mem hx
    exact lt_of_heap (h.leaf i x hi)
  have HB := Lib.hid (And.intro hBw (And.intro hblen hin))
  clear h h0 h1 h2 l9 l8 l2 k9 k8 k2 e9 e8 e2 hBw hblen hin
  -- the union, of whatever list
  have hun : Hid (∀ (W : World) (v : Value), Up w W → W.ownsRow 0 TpT 1 v 3 ([9, 8, 2].map fun z => ptrV (bs.getD z 0)) → ∃ a c, v = .slice a 3 c ∧ Calls Tryz.prog 33 #[v] W fun e w' => ∃ c g2 cs2 fz, e = .returned (.pointer (some ⟨c, 0, none⟩)) ∧ W.heap.size ≤ c ∧ W.heap.size ≤ g2 ∧ w'.heap[c]? = some (.cells #[.int .i64 16, .int .i64 0, .string ⟨#[]⟩, .slice (some ⟨g2, 0, none⟩) 2 2, .slice none 0 0, .slice none 0 0, .int .i64 (3 : Nat), .string ⟨#[]⟩] TyT (0, 0)) ∧
      w'.heap[g2]? = some (.cells cs2 TpT fz) ∧ cs2[0]? = some (ptrV b9) ∧ cs2[1]? = some (ptrV b8) ∧ Up W w') := fun W v hW hv => by
    rw [hxs.out] at hv
    obtain ⟨gr, rcap, cur, rfl, hgr, hrc, hcur⟩ := row_cells_gen hv (by decide)
    refine ⟨_, _, rfl, ?_⟩
    have L9 := hW.get HL.out.1
    have L8 := hW.get HL.out.2.1
    have L2 := hW.get HL.out.2.2
    have hall : ∀ x ∈ [b9, b8, b2], Leaf W x (kd x) (wordS (kd x)) ∧ (kd x = 10 ∨ kd x = 9 ∨ kd x = 3) := fun x hx => by
      rcases List.mem_cons.1 hx with rfl | hx
      · rw [HK.out.1]; exact ⟨L9, .inl rfl⟩
      rcases List.mem_cons.1 hx with rfl | hx
      · rw [HK.out.2.1]; exact ⟨L8, .inr (.inl rfl)⟩
      rcases List.mem_cons.1 hx with rfl | hx
      · rw [HK.out.2.2]; exact ⟨L2, .inr (.inr rfl)⟩
      · cases hx
    refine union_two kd (fun b => wordS (kd b)) (fun _ => 1) b9 b8 [b9, b8, b2] gr 0 rcap cur W hgr (fun j x hx => hcur j (ptrV x) (by rw [List.getElem?_map, hx]; rfl)) (by simp) (fun x hx => ?_) (fun x hx => ?_) ?_ ?_ ?_ (fun x hx => ?_)
    · obtain ⟨h1, h2⟩ := hall x hx
      refine ⟨leaf_item h1, ?_, ?_⟩ <;> rcases h2 with h2 | h2 | h2 <;> rw [h2] <;> decide
    · obtain ⟨h1, h2⟩ := hall x hx
      refine ⟨?_, ?_, ?_⟩ <;> rcases h2 with h2 | h2 | h2 <;> rw [h2] <;> decide
    · simp [HK.out.1, HK.out.2.1, HK.out.2.2, goesK]
    · rw [HK.out.1, HK.out.2.1]; decide +kernel
    · rw [HK.out.1, HK.out.2.1]; decide +kernel
    · obtain ⟨h1, h2⟩ := hall x hx
      refine ⟨cell_of h1 6, by decide, ?_⟩
      rcases h2 with h2 | h2 | h2 <;> rw [h2] <;> decide +kernel
  -- what is kept
  have hkp : Hid (∀ (W : World) (c g2 : Nat) (cs2 : Array Value) (fz : Nat × Nat), Up w W → w.heap.size ≤ c → W.heap[c]? = some (.cells #[.int .i64 16, .int .i64 0, .string ⟨#[]⟩, .slice (some ⟨g2, 0, none⟩) 2 2, .slice none 0 0, .slice none 0 0, .int .i64 (3 : Nat), .string ⟨#[]⟩] TyT (0, 0)) →
      W.heap[g2]? = some (.cells cs2 TpT fz) → cs2[0]? = some (ptrV b9) → cs2[1]? = some (ptrV b8) → Calls Tryz.prog 25 #[.pointer (some ⟨A, 0, none⟩), .pointer (some ⟨c, 0, none⟩)] W fun e w' => e = .returned (.tuple #[.int .i64 10, .int .i64 0]) ∧ Bools w' B A bs g ∧ Below B W w') := fun W c g2 cs2 fz hW hc hcc hg2 hc0 hc1 => by
    have L9 := hW.get HL.out.1
    have L8 := hW.get HL.out.2.1
    have i9 : Item W b9 10 (wordS 10) := leaf_item L9
    have i8 : Item W b8 9 (wordS 9) := leaf_item L8
    have hgc : g2 ≠ c := fun e => by
      rw [e, hcc] at hg2
      injection hg2 with hg2
      injection hg2 with _ hg2 _
      exact absurd hg2 (by decide)
    have hT : TwoAt W g2 0 b9 b8 10 9 (wordS 10) (wordS 9) := ⟨i9, i8, (cell_of hg2 0).trans hc0, (cell_of hg2 1).trans hc1, lt_of_heap hg2, by decide +kernel, by decide +kernel⟩
    have hps : Parts W (.slice (some ⟨g2, 0, none⟩) 2 2) [(b9, 1), (b8, 1)] := parts_two hT ⟨cell_of L9 6, by decide, lt_of_heap L9⟩ ⟨cell_of L8 6, by decide, lt_of_heap L8⟩
    have hbj : joinS ([b9, b8].map fun z => partS (kd z) (wordS (kd z))) = boolS := by
      rw [← bool_join]
      simp only [List.map_cons, List.map_nil, HK.out.1, HK.out.2.1]
    have htx := text_new c boolS _ W hcc rfl (fun X hX => by
      have hg2' := hX.get hg2
      have := spelled_union kd (fun b => wordS (kd b)) [b9, b8] c g2 0 2 cs2 fz _ X (hX.get hcc) rfl rfl hg2' (fun j x hx => by
        match j, hx with
        | 0, hx => simp at hx; subst hx; exact hc0
        | 1, hx => simp at hx; subst hx; exact hc1
        | j + 2, hx => simp at hx) (by simp) (by simp) (fun x hx => by
        rcases List.mem_cons.1 hx with rfl | hx
        · rw [HK.out.1]; exact ⟨i9.up hX, by decide +kernel⟩
        rcases List.mem_cons.1 hx with rfl | hx
        · rw [HK.out.2.1]; exact ⟨i8.up hX, by decide +kernel⟩
        · cases hx) (by
        simp only [List.map_cons, List.map_nil, HK.out.1, HK.out.2.1]
        decide +kernel)
      rw [hbj] at this
      exact this)
    refine (keep_small A c 3 _ (fun n w' => n = 10 ∧ Bools w' B A bs g ∧ Below B W w') W hcc rfl (by decide) ?_).mono ?_
    · refine (lay_new B A c g bs (wordsL 10) tv boolS _ (.slice (some ⟨g2, 0, none⟩) 2 2) [(b9, 1), (b8, 1)] _ W (HF.out.ar.up hW) hcc (Nat.le_trans HB.out.1 hc) (fun hm => by have := HB.out.2.2 c hm; omega) htx (by rintro cs rfl; exact ⟨rfl, rfl⟩) (by decide +kernel) bool_new hps (fun x hx => ?_) (fun g' off cap he => ?_) (by rw [HB.out.2.1]; decide)).mono ?_
      · rcases List.mem_cons.1 hx with rfl | hx
        · exact ⟨9, wordS 10, i9.said, (fun e => by have := lt_of_heap HL.out.1; have e : b9 = c := e; omega), word_ne _, by decide +kernel⟩
        rcases List.mem_cons.1 hx with rfl | hx
        · exact ⟨8, wordS 9, i8.said, (fun e => by have := lt_of_heap HL.out.2.1; have e : b8 = c := e; omega), word_ne _, by decide +kernel⟩
        · cases hx
      · cases he; exact hgc
      · rintro e w' ⟨rfl, ⟨tv', hA⟩, _, hk⟩
        exact ⟨bs.length, rfl, HB.out.2.1, ⟨⟨tv', c, hA⟩, HB.out.2.1⟩, hk.low⟩
    · rintro e w' ⟨n, rfl, rfl, h1, h2⟩
      exact ⟨rfl, h1, h2⟩
  go_enter Tryz.func14, Tryz.ntmps14
  go_wp2_with (first | (go_at_call 23; refine (all_any A tv (.map (some g)) bs [9, 8, 2] _ cap _ (Up.get (w := w) uq HF.out.ar.head) (ownsRow_up HF.out.ar.row uq) hz.out (by rw [HB.out.2.1]; decide) (by decide)).mono ?_; rintro e w2 ⟨v, rfl, hv, hvb, hu2⟩; obtain ⟨va, vc, hve, hcall⟩ := hun.out _ v hu2 hv; subst hve; have HCA := Lib.hid hcall; clear hv hvb hcall) | (go_at_call 33; refine HCA.out.mono ?_; rintro e w3 ⟨c, g2, cs2, fz, rfl, hc1, hc2, hc3, hc4, hc5, hc6, hu3⟩; have HC3 := Lib.hid (And.intro hc1 (And.intro hc3 (And.intro hc4 (And.intro hc5 hc6)))); clear hc1 hc2 hc3 hc4 hc5 hc6) | (go_at_call 25; refine (hkp.out _ c g2 cs2 fz uq (Nat.le_trans hu2.size HC3.out.1) HC3.out.2.1 HC3.out.2.2.1 HC3.out.2.2.2.1 HC3.out.2.2.2.2).mono ?_; rintro e w4 ⟨rfl, hb4, hl4⟩))
  refine bodyPost_ret (v := .tuple #[.int .i64 10, .int .i64 0]) (by simp [results, Tryz.results14, go_sem]) rfl ?_
  have hu : Up w w3 := uq
  exact ⟨rfl, hb4, Below.trans (Below.mono hu HB.out.1) hl4⟩

end Go.Proofs.YtbghpkoimbmijaaGreatDoor

/- Walk: known. -/
namespace Go.Proofs.YtbghpkoimbmijaaGreatDoor
open Go.RowKit
set_option linter.unusedSimpArgs false

set_option maxRecDepth 100000 in
set_option maxHeartbeats 3200000 in
theorem known_any (w : World) : Calls Tryz.prog 6 #[] w fun e w' => e = .returned (.bool true) ∧ Up w w' := by
  have t10 : (wordsL 10 ++ [boolS])[10]? = some boolS := by decide +kernel
  have t6 : (wordsL 10 ++ [boolS])[6]? = some (wordS 7) := by decide +kernel
  have T10 := Lib.hid t10
  have T6 := Lib.hid t6
  have hb1 : (boolS.toList == [102, 97, 108, 115, 101, 32, 124, 32, 116, 114, 117, 101]) = true := by decide +kernel
  have hb2 : ((wordS 7).toList == [110, 117, 109, 98, 101, 114]) = true := by decide +kernel
  clear t10 t6
  go_enter Tryz.func6, Tryz.ntmps6
  go_wp2_with fail
  go_at_call 7
  refine (New_any _).mono ?_
  rintro e w2 ⟨A, bs, g, tv, rfl, hf, hu2⟩
  have HF := Lib.hid hf
  clear hf
  go_wp2_with fail
  refine (Union_known w.heap.size A g bs tv w2.heap.size _ _ (HF.out.up uq) (by simp) (by simp [go_sem]) (by simp [go_sem]) (by simp [go_sem])).mono ?_
  rintro e w3 ⟨rfl, ⟨⟨tv', c, hA⟩, hlen⟩, hlow⟩
  have hl11 : (bs ++ [c]).length = 11 := by simp [hlen]
  have hT10 : ∀ W, Up w3 W → Calls Tryz.prog 19 #[.pointer (some ⟨A, 0, none⟩), .int .i64 10] W fun e w' => e = .returned (.string boolS) ∧ Up W w' := fun W hW => Text_any w.heap.size A (bs ++ [c]) (wordsL 10 ++ [boolS]) tv' (.map (some g)) 10 boolS _ (hA.up hW) T10.out
  have hT6 : ∀ W, Up w3 W → Calls Tryz.prog 19 #[.pointer (some ⟨A, 0, none⟩), .int .i64 6] W fun e w' => e = .returned (.string (wordS 7)) ∧ Up W w' := fun W hW => Text_any w.heap.size A (bs ++ [c]) (wordsL 10 ++ [boolS]) tv' (.map (some g)) 6 (wordS 7) _ (hA.up hW) T6.out
  have hL : ∀ W, Up w3 W → Calls Tryz.prog 18 #[.pointer (some ⟨A, 0, none⟩)] W fun e w' => e = .returned (.int .i64 11) ∧ Up W w' := fun W hW => by
    have q := Len_any w.heap.size A (bs ++ [c]) (wordsL 10 ++ [boolS]) tv' (.map (some g)) _ (hA.up hW)
    rw [hl11] at q
    exact q
  have H10 := Lib.hid hT10
  have H6 := Lib.hid hT6
  have HL := Lib.hid hL
  have HW : Hid (Up w w3) := Below.trans (Up.alloc hu2 _) hlow
  clear hT10 hT6 hL hA hlen hl11 hlow
  go_wp2_with fail
  refine (H10.out _ uq).mono ?_
  rintro e w4 ⟨rfl, hu4⟩
  go_wp2_with fail
  refine (HL.out _ uq).mono ?_
  rintro e w5 ⟨rfl, hu5⟩
  go_wp2_with fail
  refine (H6.out _ uq).mono ?_
  rintro e w6 ⟨rfl, hu6⟩
  go_wp2_with fail
  go_ret
  exact ⟨rfl, Up.trans HW.out uq⟩

end Go.Proofs.YtbghpkoimbmijaaGreatDoor

/- An arena with the ten, in general words. -/
namespace Go.Proofs.YtbghpkoimbmijaaGreatDoor
open Go.RowKit
set_option linter.unusedSimpArgs false

def tenT : List Ty := (List.range 10).map fun i : Nat => basicT ((i : Int) + 1)
theorem basic_text (k : Int) (h1 : 1 ≤ k) (h2 : k ≤ 10) : (basicT k).text = wordS k := by
  unfold basicT
  rw [Ty.text_mk]
  unfold textK
  rw [if_neg (by omega), if_neg (by omega), if_neg (by omega), if_neg (by omega), if_neg (by omega), if_neg (by omega), if_neg (by omega), if_neg (by omega), if_neg (by omega), if_neg (by omega), if_neg (by omega), if_neg (by omega), if_neg (by omega)]
theorem tenT_text : tenT.map Ty.text = wordsL 10 := by
  unfold tenT wordsL
  rw [List.map_map]
  refine List.map_congr_left fun i hi => ?_
  have := List.mem_range.1 hi
  exact basic_text _ (by omega) (by omega)
theorem tenT_get {i : Nat} {t : Ty} (h : tenT[i]? = some t) : i < 10 ∧ t = basicT ((i : Int) + 1) := by
  unfold tenT at h
  rw [List.getElem?_map] at h
  cases hr : (List.range 10)[i]? with
  | none => rw [hr] at h; cases h
  | some j =>
    rw [hr] at h
    have h2 := List.getElem?_eq_some_iff.1 hr
    obtain ⟨h3, h4⟩ := h2
    rw [List.getElem_range] at h4
    simp only [List.length_range] at h3
    subst h4
    simp only [Option.map_some, Option.some.injEq] at h
    exact ⟨h3, h.symm⟩
theorem leaf_tyS {N : Nat → Prop} {B : Nat} {w : World} {b : Nat} {k : Int} (h1 : 1 ≤ k) (h2 : k ≤ 10) (h : Leaf w b k (wordS k)) (hB : B ≤ b) : TyAt N B w b (basicT k) :=
  TyAt.mk (wordS k) (.slice none 0 0) (.slice none 0 0) (.slice none 0 0) [] hB h (.inr (basic_text k h1 h2).symm) (RowOf.nil _ _ _) (RowOf.nil _ _ _) (RowOf.nil _ _ _) rfl (fun j q p h1 _ => by simp at h1)
theorem Few.are {w : World} {B A : Nat} {bs : List Nat} {g : Nat} {tv : Value} (h : Few w B A bs g tv 10) : Are w B A bs tenT tv (.map (some g)) (.map none) where
  base := h.ar.base
  head := h.ar.head
  row := h.ar.row
  rowB := h.ar.rowB
  ids := by rw [tenT_text]; rcases h.ar.ids with ⟨h9, _⟩ | q
            · cases h9
            · exact .inr q
  len := by rw [h.len]; rfl
  nodup := by rw [tenT_text]; exact h.ar.nodup
  ty i b t h1 h2 := by
    obtain ⟨h3, rfl⟩ := tenT_get h2
    have hs := h.ar.said i b (wordS ((i : Int) + 1)) h1 (by rw [← tenT_text, List.getElem?_map, h2]; simp [basic_text ((i : Int) + 1) (by omega) (by omega)])
    exact leaf_tyS (by omega) (by omega) (h.leaf i b h1) hs.1
  good t ht := by
    obtain ⟨i, hi⟩ := List.getElem?_of_mem ht
    obtain ⟨h3, rfl⟩ := tenT_get hi
    exact ⟨.basic (by omega) (by omega), by unfold basicT; rw [Ty.nodes_mk]; simp, basicT_names _ _⟩
  closed t ht p hp := by
    obtain ⟨i, hi⟩ := List.getElem?_of_mem ht
    obtain ⟨h3, rfl⟩ := tenT_get hi
    cases hp

end Go.Proofs.YtbghpkoimbmijaaGreatDoor
