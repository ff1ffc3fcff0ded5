/- NarrowOfNothing: for every number, test and answer the law answers true: a nil Arena refuses, tests that are none are refused, numbers that are none are none; its tied card. -/
import Derived.Clock
import Derived.Test.YtiaepldmgighbaaGreatDoorM72
import Derived.Test.YtiaepldmgighbaaGreatDoorM06
import Derived.Test.YtiaepldmgighbaaGreatDoorM07
namespace Go.Proofs.YtiaepldmgighbaaGreatDoor
open Go.ChangeShapes Go.WideShapes Go.ChangeAt Go.RowKit
set_option linter.unusedVariables false
set_option maxRecDepth 100000
theorem tab_of {W : World} (h : laidMetH Tryz.prog Rows.narrowOfNothingRow.laid W) : Tab W := by
 have h1 := (laidMetH_iff.1 h).1
 have h2 := h1.filter (fun x => x.1 == "internal/strconv.uint64pow10")
 exact Lib.tabIs_of_head (g := 1) (rest := []) (by kernel_rfl) (by kernel_rfl) Tryz.underlying278 Tryz.underlying268 (by kernel_rfl) (by kernel_rfl) (show laidMet Tryz.prog [("internal/strconv.uint64pow10", Lib.tabData .u64 Lib.pow10Tab)] W from h2)
def bruTab : List Int := [0, 1, 56, 2, 57, 49, 28, 3, 61, 58, 42, 50, 38, 29, 17, 4, 62, 47, 59, 36, 45, 43, 51, 22, 53, 39, 33, 30, 24, 18, 12, 5, 63, 55, 48, 27, 60, 41, 37, 16, 46, 35, 44, 21, 52, 32, 23, 11, 54, 26, 40, 15, 34, 20, 31, 10, 25, 14, 19, 9, 13, 8, 7, 6]
theorem bru_of {W : World} (h : laidMetH Tryz.prog Rows.narrowOfNothingRow.laid W) : Bru W := by
 have h1 := (laidMetH_iff.1 h).1
 have h2 := h1.filter (fun x => x.1 == "math/bits.deBruijn64tab")
 have h3 : Lib.TabIs Tryz.prog W "math/bits.deBruijn64tab" .u8 bruTab := Lib.tabIs_of_head (g := 3) (rest := []) (by kernel_rfl) (by kernel_rfl) Tryz.underlying285 Tryz.underlying5 (by kernel_rfl) (by kernel_rfl) (show laidMet Tryz.prog [("math/bits.deBruijn64tab", Lib.tabData .u8 bruTab)] W from h2)
 exact h3.cell (g := 3) (by kernel_rfl) 15 (by decide)
theorem plain_of {cs : Array Value} {T : TypeId} {f : Nat × Nat} (h1 : T ≠ TyT) (h2 : T ≠ TpT) : Plain (.cells cs T f) := fun cs' f' =>
 ⟨fun e => by injection e with _ e _; exact h1 e, fun e => by injection e with _ e _; exact h2 e⟩
theorem glob_of {W : World} (h : laidMetH Tryz.prog Rows.narrowOfNothingRow.laid W) (hs : W.ShapedOpen Tryz.prog) : GlobB W.heap.size W := by
 have ht := tab_of h
 have hb := bru_of h
 obtain ⟨cs0, h0, _, _⟩ := hs.1 1 (List.replicate 20 (Value.int .u64 0)).toArray 278 (of_decide_eq_true (by kernel_rfl)) (by kernel_rfl)
 obtain ⟨cs3, h3, _, _⟩ := hs.1 3 (List.replicate 64 (Value.int .u8 0)).toArray 285 (of_decide_eq_true (by kernel_rfl)) (by kernel_rfl)
 intro w1 k1 w2 k2
 have p0 : w2.heap[(1 : Nat)]? = W.heap[(1 : Nat)]? := (k2 _ _ (k1 _ _ (lt_of_heap h0) h0) (plain_of (by decide) (by decide))).trans h0.symm
 have p3 : w2.heap[(3 : Nat)]? = W.heap[(3 : Nat)]? := (k2 _ _ (k1 _ _ (lt_of_heap h3) h3) (plain_of (by decide) (by decide))).trans h3.symm
 refine ⟨?_, ?_⟩
 · unfold Tab Lib.TabIs World.var? at ht ⊢
   rw [show Tryz.prog.globalNamed "internal/strconv.uint64pow10" = some 1 by kernel_rfl] at ht ⊢
   simp only [Option.bind_some] at ht ⊢
   rw [p0]
   exact ht
 · unfold Bru World.cell? at hb ⊢
   simp only at hb ⊢
   rw [p3]
   exact hb
theorem max_of {W : World} (hs : W.ShapedOpen Tryz.prog) : ∃ m, W.cell? ⟨0, 0, none⟩ = some (.int .i64 m) := by
 obtain ⟨cs, hh, hz, hr⟩ := hs.1 0 #[.int .i64 0] 3 (of_decide_eq_true (by kernel_rfl)) (by kernel_rfl)
 obtain ⟨ts, hts, _, hall⟩ := hr (by kernel_rfl)
 rw [show Tryz.prog.cellTypes Tryz.prog.depth 3 = some [3] by kernel_rfl] at hts
 cases hts
 have h1 : 0 < cs.size := by rw [hz]; decide
 obtain ⟨u, hu', hok⟩ := hall 0 cs[0] (by simp [h1])
 have : u = 3 := by simpa using hu'.symm
 subst this
 have hcell : W.cell? ⟨0, 0, none⟩ = some cs[0] := by simp [World.cell?, hh, h1]
 rw [hcell]
 unfold Cell.ok at hok
 rw [Tryz.underlying3] at hok
 cases hv : cs[0] with
 | int k n =>
   rw [hv] at hok
   simp only at hok
   rw [hok.1]
   exact ⟨_, rfl⟩
 | _ => rw [hv] at hok; simp at hok
section
variable {H : Type} {enc : TypeId × Value → H}
theorem cellsTes : Tryz.prog.cellsOf 57 = 3 := by kernel_rfl
theorem cellsInt1 : Tryz.prog.cellsOf 3 = 1 := by kernel_rfl
theorem cellsStr1 : Tryz.prog.cellsOf 9 = 1 := by kernel_rfl
theorem open_test {W : World} {sp : Nat → Bool} (fuel : Nat) (cs : List Value) (x : DataW H × List MemPlace) (h : DataW.trod enc Tryz.prog W 0 sp true fuel 57 cs = some x) : ∃ (K : Int) (s : ByteArray) (T : Int), cs = [.int .i64 K, .string s, .int .i64 T] := by
 obtain ⟨xs, m, rfl, hx, hcl, hxl, hf⟩ := DataW.trod_struct Tryz.underlying57 h
 rw [cellsTes] at hcl
 match cs, hcl, xs, hxl with
 | [c0, c1, c2], _, [x0, x1, x2], _ =>
   have f0 : DataW.trod enc Tryz.prog W 0 sp true m 3 ((([c0, c1, c2] : List Value).drop 0).take (Tryz.prog.cellsOf 3)) = some x0 := hf 0 _ rfl
   rw [cellsInt1] at f0
   have f1 : DataW.trod enc Tryz.prog W 0 sp true m 9 ((([c0, c1, c2] : List Value).drop 1).take (Tryz.prog.cellsOf 9)) = some x1 := hf 1 _ rfl
   rw [cellsStr1] at f1
   have f2 : DataW.trod enc Tryz.prog W 0 sp true m 3 ((([c0, c1, c2] : List Value).drop 2).take (Tryz.prog.cellsOf 3)) = some x2 := hf 2 _ rfl
   rw [cellsInt1] at f2
   simp only [List.drop, List.take] at f0 f1 f2
   obtain ⟨K, e0, _, _⟩ := DataW.trod_int Tryz.underlying3 f0
   obtain ⟨s, e1, _, _⟩ := DataW.trod_string Tryz.underlying9 f1
   obtain ⟨T, e2, _, _⟩ := DataW.trod_int Tryz.underlying3 f2
   simp only [List.cons.injEq, and_true] at e0 e1 e2
   subst e0 e1 e2
   exact ⟨K, s, T, rfl⟩
end
theorem nnothing_contract (H : Type) (enc : TypeId × Value → H) (W : World) (base : Nat) (args : Array Value) (ds gs : List (DataW H)) (before : List MemPlace)
   (hval : ∀ (j : Nat) t v, Tryz.f14.params[j]? = some t → args[j]? = some v → Value.okWide Tryz.prog W .any base t v)
   (hW : DataW.Whole enc Tryz.prog Tryz.f14.params.toList Rows.narrowOfNothingSpec.vars false W args.toList ds gs before)
   (hL : laidMetH Tryz.prog Rows.narrowOfNothingRow.laid W) (hS : W.ShapedOpen Tryz.prog) (hsz : (DataW.weightsEach Tryz.prog (Tryz.f14.params.toList ++ Rows.narrowOfNothingSpec.plain.varTypes Tryz.prog) (ds ++ gs)).all (· ≤ reachBytes) = true) :
   Calls Tryz.prog 14 args W fun e W' => ∃ v, e = .returned v ∧ Rows.narrowOfNothingSpec.post enc Tryz.prog Tryz.f14 false true false false W args v W' := by
 have hW' := hW
 obtain ⟨p, q, hA0, hV, rfl, hfz, hnd⟩ := hW
 have hA : DataW.TrodAll enc Tryz.prog W 0 (fun _ => true) true Tryz.f14.params.toList args.toList ds p := hA0
 rw [Tryz.params14] at hA hval hsz
 obtain ⟨v0, vs0, d0, ds0, p0, q0, hargs, rfl, rfl, h0, r0⟩ := trodAll_cons hA
 obtain ⟨v1, vs1, d1, ds1, p1, q1, rfl, rfl, rfl, h1, r1⟩ := trodAll_cons r0
 obtain ⟨v2, vs2, d2, ds2, p2, q2, rfl, rfl, rfl, h2, r2⟩ := trodAll_cons r1
 obtain ⟨rfl, rfl, rfl⟩ := trodAll_nil r2
 obtain rfl : args = #[v0, v1, v2] := by cases args; simp_all
 obtain ⟨rfl, rfl⟩ := trodVars_none hV
 have k0 := h0
 have lt0 : ∀ x ∈ p0, x.block < W.heap.size := by obtain ⟨m, hm⟩ := k0; exact DataW.trod_lt m _ _ _ hm
 have k1 := h1
 have lt1 : ∀ x ∈ p1, x.block < W.heap.size := by obtain ⟨m, hm⟩ := k1; exact DataW.trod_lt m _ _ _ hm
 obtain ⟨id, rfl, rfl, rfl, _⟩ := open_int Tryz.underlying3 (hval 0 3 v0 rfl rfl) h0
 obtain ⟨cs, rfl, _⟩ := okWide_struct Tryz.underlying57 (hval 1 57 v1 rfl rfl)
 obtain ⟨yes, rfl, rfl, rfl⟩ := open_bool Tryz.underlying4 (hval 2 4 v2 rfl rfl) h2
 obtain ⟨m1, hm1⟩ := h1
 obtain ⟨K, s, T, hcs⟩ := open_test m1 cs.toList _ hm1
 obtain rfl : cs = #[.int .i64 K, .string s, .int .i64 T] := by apply Array.toList_inj.1; simpa using hcs
 clear hA0 hm1
 refine (narrow_nothing id K T s yes W (glob_of hL hS)).mono fun e W' ⟨he, bel⟩ => ?_
 subst he
 exact ⟨_, rfl, _, _, _, [], _, [], hW', trodAll_mk1 (shut_bool Tryz.underlying4 _), (trodAll_cons_mk (Below.trod laid_out (by kernel_rfl) (of_decide_eq_true (by kernel_rfl)) k0 bel lt0) (trodAll_cons_mk (Below.trod laid_out (by kernel_rfl) (of_decide_eq_true (by kernel_rfl)) k1 bel lt1) (trodAll_cons_mk (shut_bool Tryz.underlying4 _) trodAll_mk0))), rfl, Below.frame bel _, fun h => by cases h⟩
abbrev testArg : Value := .agg #[.int .i64 0, .string ⟨#[]⟩, .int .i64 0]
theorem nnothing_laid (os : Os) : laidMet Tryz.prog Rows.narrowOfNothingRow.laid ((laidWorld os).forCall (fun _ _ => 0) ⟨#[], #[.int .i64 0, testArg, Value.bool false], []⟩).memory :=
 laidMet_of_run' 8 (by kernel_rfl) (by kernel_rfl)
theorem nnothing_reads (os : Os) {H : Type} (enc : TypeId × Value → H) : ∃ ds places, DataW.whole enc Tryz.prog ((laidWorld os).forCall (fun _ _ => 0) ⟨#[], #[.int .i64 0, testArg, Value.bool false], []⟩).memory Tryz.f14.params.toList Rows.narrowOfNothingSpec.vars false #[Value.int .i64 0, testArg, Value.bool false].toList 8 = some (ds, [], places) :=
 ⟨[.lit (.int .i64 0), .agg [.lit (.int .i64 0), .lit (.string []), .lit (.int .i64 0)], .lit (.bool false)], [], by kernel_rfl⟩
theorem nnothing_lifted (os : Os) (started : os.Started) (H : Type) (enc : TypeId × Value → H) (F : Stop.Interp) :
   ReturnsInHanded {} Tryz.checked os 14 .any ((OpenSpec.ofChange Rows.narrowOfNothingSpec).preRow enc Tryz.prog Tryz.f14 Rows.narrowOfNothingRow.domain false Rows.narrowOfNothingRow.laid) (((OpenSpec.ofChange Rows.narrowOfNothingSpec).at F).post enc Tryz.prog Tryz.f14 false true false false) := by
 obtain ⟨ds, places, hx⟩ := nnothing_reads os enc
 refine returnsInHanded_of_row (C := Tryz.checked) (s := OpenSpec.ofChange Rows.narrowOfNothingSpec) own_knob started (by kernel_rfl) Tryz.func14
   (witness_row_at (enc := enc) (C := Tryz.checked) false (laidWorld os) #[.int .i64 0, testArg, Value.bool false] rfl (by kernel_rfl) (by kernel_rfl) (by kernel_rfl)
     (OpenSpec.preRow_of_cond 8 hx (by kernel_rfl) (fun k hk => by cases hk) (by kernel_rfl) (nnothing_laid os))) ?_
 intro W base args ds gs before hval hW _ _ hsz hL hS _
 exact nnothing_contract H enc W base args ds gs before hval hW hL hS hsz
theorem nnothing_said : Rows.NarrowOfNothingSaid :=
 OpenClaim.holds_of_cond 14 Tryz.f14 rfl rfl rfl rfl rfl rfl rfl ⟨rfl, rfl, rfl, rfl, rfl⟩ rfl rfl rfl rfl rfl (by kernel_rfl) Tryz.func14 (by kernel_rfl)
   (of_decide_eq_true (by kernel_rfl)) (by unfold Func.isWrapper; first | (rw [if_pos (by decide +kernel)]; kernel_rfl) | (rw [if_neg (by decide +kernel)]; exact ⟨rfl, rfl⟩))
   (fun os started H enc _ F => by rw [OpenClaim.pre_eq_preRow]; exact nnothing_lifted os started H enc F)
theorem nnothing_plain (f : FuncId) (fn : Func) (hf : Tryz.pinned.checked.prog.funcNamed "shuck/shucklaw10.NarrowOfNothing" = some f) (hfn : Tryz.pinned.checked.prog.funcs[f]? = some fn) :
   false = Tryz.pinned.checked.prog.looks [] ∧ ∀ (j : Nat) t, fn.params[j]? = some t → Tryz.pinned.checked.prog.wantsStandIn t = false := by
 obtain rfl : f = 14 := Option.some.inj ((show Tryz.prog.funcNamed "shuck/shucklaw10.NarrowOfNothing" = some 14 by kernel_rfl).symm.trans hf) |>.symm
 obtain rfl : fn = Tryz.f14 := (Option.some.inj (Tryz.func14.symm.trans hfn)).symm
 refine ⟨by kernel_rfl, fun j t ht => ?_⟩
 rw [Tryz.params14] at ht
 have hm := Array.mem_of_getElem? ht
 simp at hm
 rcases hm with rfl | rfl | rfl
 · exact (show Tryz.prog.wantsStandIn 3 = false by kernel_rfl)
 · exact (show Tryz.prog.wantsStandIn 57 = false by kernel_rfl)
 · exact (show Tryz.prog.wantsStandIn 4 = false by kernel_rfl)
theorem nnothing_card : Rows.NarrowOfNothingCardSaid :=
 Claim7.holds_tied_plain_at .later [] _ _ _ _ nnothing_said (fun _ h => by cases h) (by kernel_rfl) (fun _ h => by cases h) narrowOfNothing_row_tie rfl ⟨rfl, rfl⟩ (by kernel_rfl) rfl nnothing_plain (by kernel_rfl)
end Go.Proofs.YtiaepldmgighbaaGreatDoor
