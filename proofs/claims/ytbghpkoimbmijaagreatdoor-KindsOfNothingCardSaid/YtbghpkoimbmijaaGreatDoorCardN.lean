/- KindsOfNothing: for every number and every step the law answers true; its tied card. -/
import Derived.Test.YtbghpkoimbmijaaGreatDoorNC
import Derived.Test.YtbghpkoimbmijaaGreatDoorOpen
namespace Go.Proofs.YtbghpkoimbmijaaGreatDoor
open Go.ChangeShapes Go.WideShapes Go.ChangeAt Go.RowKit
set_option linter.unusedVariables false
set_option maxRecDepth 100000

theorem cellsTy : Tryz.prog.cellsOf 38 = 6 := by kernel_rfl
theorem cellsSl : Tryz.prog.cellsOf 36 = 1 := by kernel_rfl
theorem cellsSs : Tryz.prog.cellsOf 23 = 1 := by kernel_rfl
theorem cellsSb : Tryz.prog.cellsOf 24 = 1 := by kernel_rfl
theorem cellsSp : Tryz.prog.cellsOf 42 = 1 := by kernel_rfl
theorem cellsPi : Tryz.prog.cellsOf 80 = 3 := by kernel_rfl
theorem cellsStep : Tryz.prog.cellsOf 44 = 12 := by kernel_rfl

section
variable {H : Type} {enc : TypeId × Value → H}
theorem open_ints_len {W : World} {sp : Nat → Bool} {fuel : Nat} {cs : List Value} {x : DataW H × List MemPlace} (h : DataW.trod enc Tryz.prog W 0 sp true fuel 36 cs = some x) (hsz : ∀ n ∈ DataW.weights Tryz.prog 36 x.1, n ≤ reachBytes) :
    ∃ a l c, cs = [.slice a l c] ∧ l ≤ 140737488351232 := by
  obtain ⟨a, l, c, rfl, h1, h2, h3⟩ := open_row (by_ := 8) Tryz.underlying36 cellsI (by decide) (by kernel_rfl) h hsz
  exact ⟨a, l, c, rfl, by omega⟩
theorem open_bools_len {W : World} {sp : Nat → Bool} {fuel : Nat} {cs : List Value} {x : DataW H × List MemPlace} (h : DataW.trod enc Tryz.prog W 0 sp true fuel 24 cs = some x) (hsz : ∀ n ∈ DataW.weights Tryz.prog 24 x.1, n ≤ reachBytes) :
    ∃ a l c, cs = [.slice a l c] ∧ l ≤ 140737488351232 := by
  obtain ⟨a, l, c, rfl, h1, h2, h3⟩ := open_row (by_ := 1) Tryz.underlying24 cellsB (by decide) (by kernel_rfl) h hsz
  exact ⟨a, l, c, rfl, by omega⟩
theorem open_pieces {W : World} {sp : Nat → Bool} {fuel : Nat} {cs : List Value} {x : DataW H × List MemPlace} (h : DataW.trod enc Tryz.prog W 0 sp true fuel 42 cs = some x) (hsz : ∀ n ∈ DataW.weights Tryz.prog 42 x.1, n ≤ reachBytes) :
    ∃ a l c, cs = [.slice a l c] ∧ l ≤ 140737488351232 ∧ ∀ i, i < l → ∃ b off s, a = some ⟨b, off, none⟩ ∧ b < W.heap.size ∧ W.cell? ⟨b, off + i * 3, none⟩ = some (.string s) ∧ s.size ≤ 140737488351232 := by
  obtain ⟨a, l, c, rfl, h1, h2, h3⟩ := open_row (by_ := 32) Tryz.underlying42 cellsPi (by decide) (by kernel_rfl) h hsz
  refine ⟨a, l, c, rfl, by omega, fun i hi => ?_⟩
  obtain ⟨b, off, us, y, m, q1, q2, q3, q4, _, q5, q6⟩ := h3 i hi
  obtain ⟨xs, n, rfl, hx, _, hxl, hf⟩ := DataW.trod_struct Tryz.underlying80 q5
  match us, q3, xs, hxl with
  | [u0, u1, u2], _, [x0, x1, x2], _ =>
    have f0 : DataW.trod enc Tryz.prog W 0 sp true n 9 ((([u0, u1, u2] : List Value).drop 0).take (Tryz.prog.cellsOf 9)) = some x0 := hf 0 _ rfl
    rw [cellsS] at f0
    simp only [List.drop, List.take] at f0
    obtain ⟨s, e0, rfl, _⟩ := DataW.trod_string Tryz.underlying9 f0
    simp only [List.cons.injEq, and_true] at e0
    subst e0
    have q7 := q6 s.data.toList.length (by
      rw [hx]
      simp only [DataW.weights, Tryz.underlying80, List.map_cons, List.map_nil]
      exact DataW.weights_mem_each (j := 0) (t := 9) (d := .lit (.string s.data.toList)) rfl rfl _ (by simp [DataW.weights]))
    have q8 := q4 0 (by decide)
    exact ⟨b, off, s, q1, q2, by simpa using q8, by unfold reachBytes at q7; simpa using q7⟩

/-- a step that came in -/
theorem open_step {W : World} {sp : Nat → Bool} {n : Nat} {cs : Array Value} {y : DataW H × List MemPlace} (hs : cs.size = 12) (h : DataW.trod enc Tryz.prog W 0 sp true n 44 cs.toList = some y) (hsz : ∀ n ∈ DataW.weights Tryz.prog 44 y.1, n ≤ reachBytes) :
    ∃ x : StepV, cs = x.arr ∧ x.Ok W := by
  obtain ⟨xs, m, rfl, hx, _, hxl, hf⟩ := DataW.trod_struct Tryz.underlying44 h
  obtain ⟨cs⟩ := cs
  match cs, hs, xs, hxl with
  | [c0, c1, c2, c3, c4, c5, c6, c7, c8, c9, c10, c11], _, [x0, x1, x2, x3, x4, x5, x6], _ =>
    have hw : ∀ (j : Nat) (t : TypeId) (d : DataW H), ([3, 38, 3, 36, 3, 36, 42] : List TypeId)[j]? = some t → ([x0, x1, x2, x3, x4, x5, x6].map (·.1))[j]? = some d → ∀ n ∈ DataW.weights Tryz.prog t d, n ≤ reachBytes := fun j t d ht hd n hn => hsz n (by
      rw [hx]
      simp only [DataW.weights, Tryz.underlying44]
      exact DataW.weights_mem_each (j := j) (t := t) (d := d) ht hd n hn)
    have f0 : DataW.trod enc Tryz.prog W 0 sp true m 3 ((([c0, c1, c2, c3, c4, c5, c6, c7, c8, c9, c10, c11] : List Value).drop 0).take (Tryz.prog.cellsOf 3)) = some x0 := hf 0 _ rfl
    rw [cellsI] at f0
    have f1 : DataW.trod enc Tryz.prog W 0 sp true m 38 ((([c0, c1, c2, c3, c4, c5, c6, c7, c8, c9, c10, c11] : List Value).drop 1).take (Tryz.prog.cellsOf 38)) = some x1 := hf 1 _ rfl
    rw [cellsTy] at f1
    have f2 : DataW.trod enc Tryz.prog W 0 sp true m 3 ((([c0, c1, c2, c3, c4, c5, c6, c7, c8, c9, c10, c11] : List Value).drop 7).take (Tryz.prog.cellsOf 3)) = some x2 := hf 2 _ rfl
    rw [cellsI] at f2
    have f3 : DataW.trod enc Tryz.prog W 0 sp true m 36 ((([c0, c1, c2, c3, c4, c5, c6, c7, c8, c9, c10, c11] : List Value).drop 8).take (Tryz.prog.cellsOf 36)) = some x3 := hf 3 _ rfl
    rw [cellsSl] at f3
    have f4 : DataW.trod enc Tryz.prog W 0 sp true m 3 ((([c0, c1, c2, c3, c4, c5, c6, c7, c8, c9, c10, c11] : List Value).drop 9).take (Tryz.prog.cellsOf 3)) = some x4 := hf 4 _ rfl
    rw [cellsI] at f4
    have f5 : DataW.trod enc Tryz.prog W 0 sp true m 36 ((([c0, c1, c2, c3, c4, c5, c6, c7, c8, c9, c10, c11] : List Value).drop 10).take (Tryz.prog.cellsOf 36)) = some x5 := hf 5 _ rfl
    rw [cellsSl] at f5
    have f6 : DataW.trod enc Tryz.prog W 0 sp true m 42 ((([c0, c1, c2, c3, c4, c5, c6, c7, c8, c9, c10, c11] : List Value).drop 11).take (Tryz.prog.cellsOf 42)) = some x6 := hf 6 _ rfl
    rw [cellsSp] at f6
    simp only [List.drop, List.take] at f0 f1 f2 f3 f4 f5 f6
    obtain ⟨K, e0, _, _⟩ := DataW.trod_int Tryz.underlying3 f0
    obtain ⟨id, e2, _, _⟩ := DataW.trod_int Tryz.underlying3 f2
    obtain ⟨node, e4, _, _⟩ := DataW.trod_int Tryz.underlying3 f4
    obtain ⟨ia, il, ic, e3, hil⟩ := open_ints_len f3 (hw 3 _ _ rfl rfl)
    obtain ⟨va, vl, vc, e5, hvl⟩ := open_ints_len f5 (hw 5 _ _ rfl rfl)
    obtain ⟨la, ll, lc, e6, hll, hpc⟩ := open_pieces f6 (hw 6 _ _ rfl rfl)
    have hw1 := hw 1 _ _ rfl rfl
    obtain ⟨ys, m1, rfl, hy, _, hyl, hg⟩ := DataW.trod_struct Tryz.underlying38 f1
    rw [hy] at hw1
    match ys, hyl with
    | [y0, y1, y2, y3, y4, y5], _ =>
      have hv : ∀ (j : Nat) (t : TypeId) (d : DataW H), ([3, 3, 9, 36, 23, 24] : List TypeId)[j]? = some t → ([y0, y1, y2, y3, y4, y5].map (·.1))[j]? = some d → ∀ n ∈ DataW.weights Tryz.prog t d, n ≤ reachBytes := fun j t d ht hd n hn => hw1 n (by
        simp only [DataW.weights, Tryz.underlying38]
        exact DataW.weights_mem_each (j := j) (t := t) (d := d) ht hd n hn)
      have g0 : DataW.trod enc Tryz.prog W 0 sp true m1 3 ((([c1, c2, c3, c4, c5, c6] : List Value).drop 0).take (Tryz.prog.cellsOf 3)) = some y0 := hg 0 _ rfl
      rw [cellsI] at g0
      have g1 : DataW.trod enc Tryz.prog W 0 sp true m1 3 ((([c1, c2, c3, c4, c5, c6] : List Value).drop 1).take (Tryz.prog.cellsOf 3)) = some y1 := hg 1 _ rfl
      rw [cellsI] at g1
      have g2 : DataW.trod enc Tryz.prog W 0 sp true m1 9 ((([c1, c2, c3, c4, c5, c6] : List Value).drop 2).take (Tryz.prog.cellsOf 9)) = some y2 := hg 2 _ rfl
      rw [cellsS] at g2
      have g3 : DataW.trod enc Tryz.prog W 0 sp true m1 36 ((([c1, c2, c3, c4, c5, c6] : List Value).drop 3).take (Tryz.prog.cellsOf 36)) = some y3 := hg 3 _ rfl
      rw [cellsSl] at g3
      have g4 : DataW.trod enc Tryz.prog W 0 sp true m1 23 ((([c1, c2, c3, c4, c5, c6] : List Value).drop 4).take (Tryz.prog.cellsOf 23)) = some y4 := hg 4 _ rfl
      rw [cellsSs] at g4
      have g5 : DataW.trod enc Tryz.prog W 0 sp true m1 24 ((([c1, c2, c3, c4, c5, c6] : List Value).drop 5).take (Tryz.prog.cellsOf 24)) = some y5 := hg 5 _ rfl
      rw [cellsSb] at g5
      simp only [List.drop, List.take] at g0 g1 g2 g3 g4 g5
      obtain ⟨tk, k0, _, _⟩ := DataW.trod_int Tryz.underlying3 g0
      obtain ⟨tn, k1, _, _⟩ := DataW.trod_int Tryz.underlying3 g1
      obtain ⟨ts, k2, hts, _⟩ := DataW.trod_string Tryz.underlying9 g2
      obtain ⟨pa, pl, pc, k3, hpl⟩ := open_ints_len g3 (hv 3 _ _ rfl rfl)
      obtain ⟨na, nl, nc, k4, _, hnl, hnm⟩ := open_strs g4 (hv 4 _ _ rfl rfl)
      obtain ⟨ma, ml, mc, k5, hml⟩ := open_bools_len g5 (hv 5 _ _ rfl rfl)
      have hs2 := hv 2 _ _ rfl rfl ts.data.toList.length (by rw [hts]; simp [DataW.weights])
      simp only [List.cons.injEq, and_true] at e0 e2 e3 e4 e5 e6 k0 k1 k2 k3 k4 k5
      subst e0 e2 e3 e4 e5 e6 k0 k1 k2 k3 k4 k5
      exact ⟨⟨K, tk, tn, ts, pa, pl, pc, na, nl, nc, ma, ml, mc, id, ia, il, ic, node, va, vl, vc, la, ll, lc⟩, rfl, by unfold reachBytes at hs2; simpa using hs2, hpl, hnl, hml, hil, hvl, hll, hnm, hpc⟩
end

theorem nothing_contract (H : Type) (enc : TypeId × Value → H) (W : World) (base : Nat) (args : Array Value) (ds gs : List (DataW H)) (before : List MemPlace)
    (hval : ∀ (j : Nat) t v, Tryz.f4.params[j]? = some t → args[j]? = some v → Value.okWide Tryz.prog W .any base t v)
    (hW : DataW.Whole enc Tryz.prog Tryz.f4.params.toList Rows.kindsOfNothingSpec.vars false W args.toList ds gs before)
    (hsz : (DataW.weightsEach Tryz.prog (Tryz.f4.params.toList ++ Rows.kindsOfNothingSpec.plain.varTypes Tryz.prog) (ds ++ gs)).all (· ≤ reachBytes) = true) :
    Calls Tryz.prog 4 args W fun e W' => ∃ v, e = .returned v ∧ Rows.kindsOfNothingSpec.post enc Tryz.prog Tryz.f4 false true false false W args v W' := by
  have hW' := hW
  obtain ⟨p, q, hA0, hV, rfl, hfz, hnd⟩ := hW
  have hA : DataW.TrodAll enc Tryz.prog W 0 (fun _ => true) true Tryz.f4.params.toList args.toList ds p := hA0
  rw [Tryz.params4] at hA hval hsz
  obtain ⟨v0, vs0, d0, ds0, p0, q0, hargs, rfl, rfl, h0, r0⟩ := trodAll_cons hA
  obtain ⟨v1, vs1, d1, ds1, p1, q1, rfl, rfl, rfl, h1, r1⟩ := trodAll_cons r0
  obtain ⟨rfl, rfl, rfl⟩ := trodAll_nil r1
  obtain rfl : args = #[v0, v1] := by cases args; simp_all
  obtain ⟨rfl, rfl⟩ := trodVars_none hV
  have k0 := h0
  have lt0 : ∀ x ∈ p0, x.block < W.heap.size := by obtain ⟨m, hm⟩ := k0; exact DataW.trod_lt m _ _ _ hm
  have k1 := h1
  have lt1 : ∀ x ∈ p1, x.block < W.heap.size := by obtain ⟨m, hm⟩ := k1; exact DataW.trod_lt m _ _ _ hm
  obtain ⟨id, rfl, rfl, rfl, _⟩ := open_int Tryz.underlying3 (hval 0 3 v0 rfl rfl) h0
  obtain ⟨cs, rfl, hcs⟩ := okWide_struct Tryz.underlying44 (hval 1 44 v1 rfl rfl)
  rw [cellsStep] at hcs
  obtain ⟨m, hm⟩ := h1
  have hsz1 : ∀ n ∈ DataW.weights Tryz.prog 44 d1, n ≤ reachBytes := fun n hn => by
    have hw := List.all_eq_true.1 hsz
    have := hw n (DataW.weights_mem_each (j := 1) rfl rfl n hn)
    simpa using this
  obtain ⟨x, rfl, hx⟩ := open_step hcs hm hsz1
  clear hA0 hm
  refine (nothing_any id x W hx).mono fun e W' ⟨he, bel⟩ => ?_
  subst he
  exact ⟨_, rfl, _, _, _, [], _, [], hW', trodAll_mk1 (shut_bool Tryz.underlying4 _), (trodAll_cons_mk (Below.trod laid_out (by kernel_rfl) (of_decide_eq_true (by kernel_rfl)) k0 bel lt0) (trodAll_cons_mk (Below.trod laid_out (by kernel_rfl) (of_decide_eq_true (by kernel_rfl)) k1 bel lt1) trodAll_mk0)), rfl, Below.frame bel _, fun h => by cases h⟩

abbrev stepArg : Value := .agg #[.int .i64 0, .int .i64 0, .int .i64 0, .string ⟨#[]⟩, .slice none 0 0, .slice none 0 0, .slice none 0 0, .int .i64 0, .slice none 0 0, .int .i64 0, .slice none 0 0, .slice none 0 0]
theorem nothing_laid (os : Os) : laidMet Tryz.prog Rows.kindsOfNothingRow.laid ((laidWorld os).forCall (fun _ _ => 0) ⟨#[], #[.int .i64 0, stepArg], []⟩).memory :=
  laidMet_of_run' 8 (by kernel_rfl) (by kernel_rfl)
theorem nothing_reads (os : Os) {H : Type} (enc : TypeId × Value → H) : ∃ ds places, DataW.whole enc Tryz.prog ((laidWorld os).forCall (fun _ _ => 0) ⟨#[], #[.int .i64 0, stepArg], []⟩).memory Tryz.f4.params.toList Rows.kindsOfNothingSpec.vars false #[Value.int .i64 0, stepArg].toList 8 = some (ds, [], places) :=
  ⟨[.lit (.int .i64 0), .agg [.lit (.int .i64 0), .agg [.lit (.int .i64 0), .lit (.int .i64 0), .lit (.string []), .nil, .nil, .nil], .lit (.int .i64 0), .nil, .lit (.int .i64 0), .nil, .nil]], [], by kernel_rfl⟩

theorem nothing_lifted (os : Os) (started : os.Started) (H : Type) (enc : TypeId × Value → H) (F : Stop.Interp) :
    ReturnsInHanded {} Tryz.checked os 4 .any ((OpenSpec.ofChange Rows.kindsOfNothingSpec).preRow enc Tryz.prog Tryz.f4 Rows.kindsOfNothingRow.domain false Rows.kindsOfNothingRow.laid) (((OpenSpec.ofChange Rows.kindsOfNothingSpec).at F).post enc Tryz.prog Tryz.f4 false true false false) := by
  obtain ⟨ds, places, hx⟩ := nothing_reads os enc
  refine returnsInHanded_of_row (C := Tryz.checked) (s := OpenSpec.ofChange Rows.kindsOfNothingSpec) own_knob started (by kernel_rfl) Tryz.func4
    (witness_row_at (enc := enc) (C := Tryz.checked) false (laidWorld os) #[.int .i64 0, stepArg] rfl (by kernel_rfl) (by kernel_rfl) (by kernel_rfl)
      (OpenSpec.preRow_of_cond 8 hx (by kernel_rfl) (fun k hk => by cases hk) (by kernel_rfl) (nothing_laid os))) ?_
  intro W base args ds gs before hval hW _ _ hsz hL _ _
  exact nothing_contract H enc W base args ds gs before hval hW hsz

theorem nothing_said : Rows.KindsOfNothingSaid :=
  OpenClaim.holds_of_cond 4 Tryz.f4 rfl rfl rfl rfl rfl rfl rfl ⟨rfl, rfl, rfl, rfl, rfl⟩ rfl rfl rfl rfl rfl (by kernel_rfl) Tryz.func4 (by kernel_rfl)
    (of_decide_eq_true (by kernel_rfl)) (by unfold Func.isWrapper; first | (rw [if_pos (by decide +kernel)]; kernel_rfl) | (rw [if_neg (by decide +kernel)]; exact ⟨rfl, rfl⟩))
    (fun os started H enc _ F => by rw [OpenClaim.pre_eq_preRow]; exact nothing_lifted os started H enc F)

theorem nothing_plain (f : FuncId) (fn : Func) (hf : Tryz.pinned.checked.prog.funcNamed "shuck/shucklaw8.KindsOfNothing" = some f) (hfn : Tryz.pinned.checked.prog.funcs[f]? = some fn) :
    false = Tryz.pinned.checked.prog.looks [] ∧ ∀ (j : Nat) t, fn.params[j]? = some t → Tryz.pinned.checked.prog.wantsStandIn t = false := by
  obtain rfl : f = 4 := Option.some.inj ((show Tryz.prog.funcNamed "shuck/shucklaw8.KindsOfNothing" = some 4 by kernel_rfl).symm.trans hf) |>.symm
  obtain rfl : fn = Tryz.f4 := (Option.some.inj (Tryz.func4.symm.trans hfn)).symm
  refine ⟨by kernel_rfl, fun j t ht => ?_⟩
  rw [Tryz.params4] at ht
  have hm := Array.mem_of_getElem? ht
  simp at hm
  rcases hm with rfl | rfl
  · exact (show Tryz.prog.wantsStandIn 3 = false by kernel_rfl)
  · exact (show Tryz.prog.wantsStandIn 44 = false by kernel_rfl)

/-- THE CARD -/
theorem nothing_card : Rows.KindsOfNothingCardSaid :=
  Claim7.holds_tied_plain_at .later [] _ _ _ _ nothing_said (fun _ h => by cases h) (by kernel_rfl) (fun _ h => by cases h) kindsOfNothing_row_tie rfl ⟨rfl, rfl⟩ (by kernel_rfl) rfl nothing_plain (by kernel_rfl)

end Go.Proofs.YtbghpkoimbmijaaGreatDoor
