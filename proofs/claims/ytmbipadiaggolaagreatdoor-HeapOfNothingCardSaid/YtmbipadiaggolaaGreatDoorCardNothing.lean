/- HeapOfNothing: for every step the law answers true, where strconv's tables hold what their initialisers lay; its tied card. -/
import Derived.Test.YtmbipadiaggolaaGreatDoorNothing
import Derived.Test.YtmbipadiaggolaaGreatDoorLaid
import Derived.LaidSub
import Derived.SizedLaws
namespace Go.Proofs.YtmbipadiaggolaaGreatDoor
open Go.ChangeShapes Go.WideShapes Go.ChangeAt Go.RowKit
set_option linter.unusedVariables false
set_option maxRecDepth 100000

theorem cellsI : Tryz.prog.cellsOf 3 = 1 := by kernel_rfl
theorem cellsS : Tryz.prog.cellsOf 9 = 1 := by kernel_rfl
theorem cellsV : Tryz.prog.cellsOf 34 = 3 := by kernel_rfl
theorem cellsStep : Tryz.prog.cellsOf 36 = 13 := by kernel_rfl

/-- the table, of the row's own condition -/
theorem tab_of {W : World} (h : laidMetH Tryz.prog Rows.heapOfNothingRow.laid W) : Tab W := by
  have h1 := (laidMetH_iff.1 h).1
  have h2 := h1.filter (fun x => x.1 == "internal/strconv.uint64pow10")
  exact Lib.tabIs_of_head (g := 0) (rest := []) (by kernel_rfl) (by kernel_rfl) Tryz.underlying159 Tryz.underlying153 (by kernel_rfl) (by kernel_rfl) (show laidMet Tryz.prog [("internal/strconv.uint64pow10", Lib.tabData .u64 Lib.pow10Tab)] W from h2)

section
variable {H : Type} {enc : TypeId × Value → H}
/-- a value among the cells of a step -/
theorem open_val {W : World} {sp : Nat → Bool} {n : Nat} {c0 c1 c2 : Value} {y : DataW H × List MemPlace} (h : DataW.trod enc Tryz.prog W 0 sp true n 34 [c0, c1, c2] = some y) :
    ∃ v : Val, c0 = .int .i64 v.k ∧ c1 = .int .i64 v.n ∧ c2 = .string v.s ∧ y.1 = .agg [.lit (.int .i64 v.k), .lit (.int .i64 v.n), .lit (.string v.s.data.toList)] := by
  obtain ⟨xs, m, rfl, hx, _, hxl, hf⟩ := DataW.trod_struct Tryz.underlying34 h
  match xs, hxl with
  | [x0, x1, x2], _ =>
    have f0 : DataW.trod enc Tryz.prog W 0 sp true m 3 ((([c0, c1, c2] : List Value).drop 0).take (Tryz.prog.cellsOf 3)) = some x0 := hf 0 _ rfl
    rw [cellsI] at f0
    have f1 : DataW.trod enc Tryz.prog W 0 sp true m 3 ((([c0, c1, c2] : List Value).drop 1).take (Tryz.prog.cellsOf 3)) = some x1 := hf 1 _ rfl
    rw [cellsI] at f1
    have f2 : DataW.trod enc Tryz.prog W 0 sp true m 9 ((([c0, c1, c2] : List Value).drop 2).take (Tryz.prog.cellsOf 9)) = some x2 := hf 2 _ rfl
    rw [cellsS] at f2
    simp only [List.drop, List.take] at f0 f1 f2
    obtain ⟨k, e0, rfl, _⟩ := DataW.trod_int Tryz.underlying3 f0
    obtain ⟨n, e1, rfl, _⟩ := DataW.trod_int Tryz.underlying3 f1
    obtain ⟨s, e2, rfl, _⟩ := DataW.trod_string Tryz.underlying9 f2
    simp only [List.cons.injEq, and_true] at e0 e1 e2
    exact ⟨⟨k, n, s⟩, e0, e1, e2, by rw [hx]; rfl⟩

/-- a step that came in -/
theorem open_step {W : World} {sp : Nat → Bool} {n : Nat} {cs : Array Value} {y : DataW H × List MemPlace} (hs : cs.size = 13) (h : DataW.trod enc Tryz.prog W 0 sp true n 36 cs.toList = some y) :
    ∃ (K N M : Int) (v x z : Val) (key : ByteArray), cs = stepCells K N M v x z key ∧
      y.1 = .agg [.lit (.int .i64 K), .lit (.int .i64 N), .lit (.int .i64 M), .agg [.lit (.int .i64 v.k), .lit (.int .i64 v.n), .lit (.string v.s.data.toList)], .agg [.lit (.int .i64 x.k), .lit (.int .i64 x.n), .lit (.string x.s.data.toList)], .agg [.lit (.int .i64 z.k), .lit (.int .i64 z.n), .lit (.string z.s.data.toList)], .lit (.string key.data.toList)] := by
  obtain ⟨xs, m, rfl, hx, _, hxl, hf⟩ := DataW.trod_struct Tryz.underlying36 h
  obtain ⟨cs⟩ := cs
  match cs, hs, xs, hxl with
  | [c0, c1, c2, c3, c4, c5, c6, c7, c8, c9, c10, c11, c12], _, [x0, x1, x2, x3, x4, x5, x6], _ =>
    have f0 : DataW.trod enc Tryz.prog W 0 sp true m 3 ((([c0, c1, c2, c3, c4, c5, c6, c7, c8, c9, c10, c11, c12] : List Value).drop 0).take (Tryz.prog.cellsOf 3)) = some x0 := hf 0 _ rfl
    rw [cellsI] at f0
    have f1 : DataW.trod enc Tryz.prog W 0 sp true m 3 ((([c0, c1, c2, c3, c4, c5, c6, c7, c8, c9, c10, c11, c12] : List Value).drop 1).take (Tryz.prog.cellsOf 3)) = some x1 := hf 1 _ rfl
    rw [cellsI] at f1
    have f2 : DataW.trod enc Tryz.prog W 0 sp true m 3 ((([c0, c1, c2, c3, c4, c5, c6, c7, c8, c9, c10, c11, c12] : List Value).drop 2).take (Tryz.prog.cellsOf 3)) = some x2 := hf 2 _ rfl
    rw [cellsI] at f2
    have f3 : DataW.trod enc Tryz.prog W 0 sp true m 34 ((([c0, c1, c2, c3, c4, c5, c6, c7, c8, c9, c10, c11, c12] : List Value).drop 3).take (Tryz.prog.cellsOf 34)) = some x3 := hf 3 _ rfl
    rw [cellsV] at f3
    have f4 : DataW.trod enc Tryz.prog W 0 sp true m 34 ((([c0, c1, c2, c3, c4, c5, c6, c7, c8, c9, c10, c11, c12] : List Value).drop 6).take (Tryz.prog.cellsOf 34)) = some x4 := hf 4 _ rfl
    rw [cellsV] at f4
    have f5 : DataW.trod enc Tryz.prog W 0 sp true m 34 ((([c0, c1, c2, c3, c4, c5, c6, c7, c8, c9, c10, c11, c12] : List Value).drop 9).take (Tryz.prog.cellsOf 34)) = some x5 := hf 5 _ rfl
    rw [cellsV] at f5
    have f6 : DataW.trod enc Tryz.prog W 0 sp true m 9 ((([c0, c1, c2, c3, c4, c5, c6, c7, c8, c9, c10, c11, c12] : List Value).drop 12).take (Tryz.prog.cellsOf 9)) = some x6 := hf 6 _ rfl
    rw [cellsS] at f6
    simp only [List.drop, List.take] at f0 f1 f2 f3 f4 f5 f6
    obtain ⟨K, e0, rfl, _⟩ := DataW.trod_int Tryz.underlying3 f0
    obtain ⟨N, e1, rfl, _⟩ := DataW.trod_int Tryz.underlying3 f1
    obtain ⟨M, e2, rfl, _⟩ := DataW.trod_int Tryz.underlying3 f2
    obtain ⟨v, a0, a1, a2, a3⟩ := open_val f3
    obtain ⟨x, b0, b1, b2, b3⟩ := open_val f4
    obtain ⟨z, d0, d1, d2, d3⟩ := open_val f5
    obtain ⟨key, e6, rfl, _⟩ := DataW.trod_string Tryz.underlying9 f6
    simp only [List.cons.injEq, and_true] at e0 e1 e2 e6
    subst e0 e1 e2 e6 a0 a1 a2 b0 b1 b2 d0 d1 d2
    exact ⟨K, N, M, v, x, z, key, rfl, by rw [hx]; simp only [List.map_cons, List.map_nil, a3, b3, d3]⟩
end

/-- each text of a step is within reach -/
theorem step_sized {H : Type} {ts : List TypeId} {ds : List (DataW H)} {a b c v0 v1 x0 x1 z0 z1 : DataW H} {vs xs zs key : List UInt8}
    (h : (DataW.weightsEach Tryz.prog (36 :: ts) (.agg [a, b, c, .agg [v0, v1, .lit (.string vs)], .agg [x0, x1, .lit (.string xs)], .agg [z0, z1, .lit (.string zs)], .lit (.string key)] :: ds)).all (· ≤ reachBytes) = true) :
    key.length ≤ 140737488351232 ∧ vs.length ≤ 140737488351232 ∧ xs.length ≤ 140737488351232 ∧ zs.length ≤ 140737488351232 := by
  have hw := List.all_eq_true.1 h
  have hs : ∀ n ∈ DataW.weights Tryz.prog 36 (.agg [a, b, c, .agg [v0, v1, .lit (.string vs)], .agg [x0, x1, .lit (.string xs)], .agg [z0, z1, .lit (.string zs)], .lit (.string key)] : DataW H), n ≤ reachBytes := fun n hn => by
    have := hw n (DataW.weights_mem_each (j := 0) rfl rfl n hn)
    simpa using this
  simp only [DataW.weights, Tryz.underlying36, Tryz.underlying34, DataW.weightsEach, List.map_cons, List.map_nil, List.mem_append, List.mem_cons, List.not_mem_nil, or_false, reachBytes] at hs
  refine ⟨hs _ ?_, hs _ ?_, hs _ ?_, hs _ ?_⟩
  all_goals simp

theorem nothing_contract (H : Type) (enc : TypeId × Value → H) (W : World) (base : Nat) (args : Array Value) (ds gs : List (DataW H)) (before : List MemPlace)
    (hval : ∀ (j : Nat) t v, Tryz.f4.params[j]? = some t → args[j]? = some v → Value.okWide Tryz.prog W .any base t v)
    (hW : DataW.Whole enc Tryz.prog Tryz.f4.params.toList Rows.heapOfNothingSpec.vars false W args.toList ds gs before)
    (hsz : (DataW.weightsEach Tryz.prog (Tryz.f4.params.toList ++ Rows.heapOfNothingSpec.plain.varTypes Tryz.prog) (ds ++ gs)).all (· ≤ reachBytes) = true) (htab : Tab W) :
    Calls Tryz.prog 4 args W fun e W' => ∃ v, e = .returned v ∧ Rows.heapOfNothingSpec.post enc Tryz.prog Tryz.f4 false true false false W args v W' := by
  have hW' := hW
  obtain ⟨p, q, hA0, hV, rfl, hfz, hnd⟩ := hW
  have hA : DataW.TrodAll enc Tryz.prog W 0 (fun _ => true) true Tryz.f4.params.toList args.toList ds p := hA0
  rw [Tryz.params4] at hA hval hsz
  obtain ⟨v0, vs0, d0, ds0, p0, q0, hargs, rfl, rfl, h0, r0⟩ := trodAll_cons hA
  obtain ⟨rfl, rfl, rfl⟩ := trodAll_nil r0
  obtain rfl : args = #[v0] := by cases args; simp_all
  obtain ⟨rfl, rfl⟩ := trodVars_none hV
  have k0 := h0
  have lt0 : ∀ x ∈ p0, x.block < W.heap.size := by obtain ⟨m, hm⟩ := k0; exact DataW.trod_lt m _ _ _ hm
  obtain ⟨cs, rfl, hcs⟩ := okWide_struct Tryz.underlying36 (hval 0 36 v0 rfl rfl)
  rw [cellsStep] at hcs
  obtain ⟨m, hm⟩ := h0
  obtain ⟨K, N, M, v, x, z, key, rfl, hd⟩ := open_step hcs hm
  dsimp only at hd
  subst hd
  obtain ⟨s1, s2, s3, s4⟩ := step_sized hsz
  clear hA0 hm
  refine (nothing_any K N M v x z key W htab (by simpa using s1) (by simpa using s2) (by simpa using s3) (by simpa using s4)).mono fun e W' ⟨he, bel⟩ => ?_
  subst he
  exact ⟨_, rfl, _, _, _, [], _, [], hW', trodAll_mk1 (shut_bool Tryz.underlying4 _), (trodAll_cons_mk (Below.trod laid_out (by kernel_rfl) (of_decide_eq_true (by kernel_rfl)) k0 bel lt0) trodAll_mk0), rfl, Below.frame bel _, fun h => by cases h⟩

abbrev stepArg : Value := .agg (stepCells 0 0 0 ⟨0, 0, ⟨#[]⟩⟩ ⟨0, 0, ⟨#[]⟩⟩ ⟨0, 0, ⟨#[]⟩⟩ ⟨#[]⟩)
theorem nothing_laid (os : Os) : laidMet Tryz.prog Rows.heapOfNothingRow.laid ((laidWorld os).forCall (fun _ _ => 0) ⟨#[], #[stepArg], []⟩).memory :=
  laidMet_of_run' 8 (by kernel_rfl) (by kernel_rfl)
theorem nothing_reads (os : Os) {H : Type} (enc : TypeId × Value → H) : ∃ ds places, DataW.whole enc Tryz.prog ((laidWorld os).forCall (fun _ _ => 0) ⟨#[], #[stepArg], []⟩).memory Tryz.f4.params.toList Rows.heapOfNothingSpec.vars false #[stepArg].toList 8 = some (ds, [], places) :=
  ⟨[.agg [.lit (.int .i64 0), .lit (.int .i64 0), .lit (.int .i64 0), .agg [.lit (.int .i64 0), .lit (.int .i64 0), .lit (.string [])], .agg [.lit (.int .i64 0), .lit (.int .i64 0), .lit (.string [])], .agg [.lit (.int .i64 0), .lit (.int .i64 0), .lit (.string [])], .lit (.string [])]], [], by kernel_rfl⟩

theorem nothing_lifted (os : Os) (started : os.Started) (H : Type) (enc : TypeId × Value → H) (F : Stop.Interp) :
    ReturnsInHanded {} Tryz.checked os 4 .any ((OpenSpec.ofChange Rows.heapOfNothingSpec).preRow enc Tryz.prog Tryz.f4 Rows.heapOfNothingRow.domain false Rows.heapOfNothingRow.laid) (((OpenSpec.ofChange Rows.heapOfNothingSpec).at F).post enc Tryz.prog Tryz.f4 false true false false) := by
  obtain ⟨ds, places, hx⟩ := nothing_reads os enc
  refine returnsInHanded_of_row (C := Tryz.checked) (s := OpenSpec.ofChange Rows.heapOfNothingSpec) own_knob started (by kernel_rfl) Tryz.func4
    (witness_row_at (enc := enc) (C := Tryz.checked) false (laidWorld os) #[stepArg] rfl (by kernel_rfl) (by kernel_rfl) (by kernel_rfl)
      (OpenSpec.preRow_of_cond 8 hx (by kernel_rfl) (fun k hk => by cases hk) (by kernel_rfl) (nothing_laid os))) ?_
  intro W base args ds gs before hval hW _ _ hsz hL _ _
  exact nothing_contract H enc W base args ds gs before hval hW hsz (tab_of hL)

theorem nothing_said : Rows.HeapOfNothingSaid :=
  OpenClaim.holds_of_cond 4 Tryz.f4 rfl rfl rfl rfl rfl rfl rfl ⟨rfl, rfl, rfl, rfl, rfl⟩ rfl rfl rfl rfl rfl (by kernel_rfl) Tryz.func4 (by kernel_rfl)
    (of_decide_eq_true (by kernel_rfl)) (by unfold Func.isWrapper; first | (rw [if_pos (by decide +kernel)]; kernel_rfl) | (rw [if_neg (by decide +kernel)]; exact ⟨rfl, rfl⟩))
    (fun os started H enc _ F => by rw [OpenClaim.pre_eq_preRow]; exact nothing_lifted os started H enc F)

theorem nothing_plain (f : FuncId) (fn : Func) (hf : Tryz.pinned.checked.prog.funcNamed "shuck/shucklaw15.HeapOfNothing" = some f) (hfn : Tryz.pinned.checked.prog.funcs[f]? = some fn) :
    true = Tryz.pinned.checked.prog.looks [] ∧ ∀ (j : Nat) t, fn.params[j]? = some t → Tryz.pinned.checked.prog.wantsStandIn t = false := by
  obtain rfl : f = 4 := Option.some.inj ((show Tryz.prog.funcNamed "shuck/shucklaw15.HeapOfNothing" = some 4 by kernel_rfl).symm.trans hf) |>.symm
  obtain rfl : fn = Tryz.f4 := (Option.some.inj (Tryz.func4.symm.trans hfn)).symm
  refine ⟨by kernel_rfl, fun j t ht => ?_⟩
  rw [Tryz.params4] at ht
  have hm := Array.mem_of_getElem? ht
  simp at hm
  subst hm
  exact (show Tryz.prog.wantsStandIn 36 = false by kernel_rfl)

/-- THE CARD -/
theorem nothing_card : Rows.HeapOfNothingCardSaid :=
  Claim7.holds_tied_plain_at .later [] _ _ _ _ nothing_said (fun _ h => by cases h) (by kernel_rfl) (fun _ h => by cases h) heapOfNothing_row_tie rfl ⟨rfl, rfl⟩ (by kernel_rfl) rfl nothing_plain (by kernel_rfl)

end Go.Proofs.YtmbipadiaggolaaGreatDoor
