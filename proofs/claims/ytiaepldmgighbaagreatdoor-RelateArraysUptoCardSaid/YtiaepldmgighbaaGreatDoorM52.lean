/- RelateArrays: for every two types (of bulk at most 1048576 together) the law answers true: arrays are taken for one another just as their elements are; its tied card, of the second form. -/
import Derived.Clock
import Derived.Test.YtiaepldmgighbaaGreatDoorM48
import Derived.Test.YtiaepldmgighbaaGreatDoorM47
namespace Go.Proofs.YtiaepldmgighbaaGreatDoor
open Go.RowKit
set_option linter.unusedSimpArgs false
set_option linter.unusedVariables false
set_option maxRecDepth 100000 in
set_option maxHeartbeats 12800000 in
theorem arrays_any (xs ys : List Value) (x y : Ty) (m : Int) (w : World) (hx : TIs w.heap.size w xs x) (hy : TIs w.heap.size w ys y) (hxn : x.nodes ≤ 2000000) (hyn : y.nodes ≤ 2000000)
   (hg : GlobB w.heap.size w) (hm : w.cell? ⟨0, 0, none⟩ = some (.int .i64 m)) :
   Calls Tryz.prog 6 #[.agg xs.toArray, .agg ys.toArray] w fun e w' => e = .returned (.bool true) ∧ Up w w' := by
 obtain ⟨x0, x1, x2, x3, x4, x5, rfl⟩ := hx.six
 obtain ⟨y0, y1, y2, y3, y4, y5, rfl⟩ := hy.six
 have HX := Lib.hid (And.intro hx hxn)
 have HY := Lib.hid (And.intro hy hyn)
 have HG := Lib.hid (And.intro hg hm)
 have hLX := Lib.hid (fun W (hW : Up w W) => large_any w.heap.size x _ W (HX.out.1.low (hW.below (Nat.le_refl _))) hW.size HX.out.2)
 have hLY := Lib.hid (fun W (hW : Up w W) => large_any w.heap.size y _ W (HY.out.1.low (hW.below (Nat.le_refl _))) hW.size HY.out.2)
 clear hx hy hxn hyn hg hm
 go_enter Tryz.func6, Tryz.ntmps6
 go_upto_region 1 with (fail)
 refine range_named fun A0 W0 hA0 hW0 => ?_
 have hu0 : Hid (Up w W0) := by subst hW0; exact uq
 obtain ⟨qx, hqx⟩ : ∃ q, Hid (w.heap.size = q) := ⟨_, rfl⟩
 obtain ⟨qy, hqy⟩ : ∃ q, Hid (w.heap.size + 1 = q) := ⟨_, rfl⟩
 have HQX : Hid (W0.heap[qx]? = some (.cells #[x0, x1, x2, x3, x4, x5] RefT (0, 0))) := by subst hW0; rw [← hqx.out, alloc_old _ _ _ (by simp only [World.size_alloc]; omega)]; exact alloc_at _ _ _ rfl
 have HQY : Hid (W0.heap[qy]? = some (.cells #[y0, y1, y2, y3, y4, y5] RefT (0, 0))) := by subst hW0; rw [← hqy.out]; exact alloc_at _ _ _ (by simp only [World.size_alloc])
 rw [hqy.out, hqx.out] at hA0
 clear hW0
 subst hA0
 have s := HQX.out; have q0 := cell_of s 0; have p0 := ice_of s 0; have q1 := cell_of s 1; have p1 := ice_of s 1; have q2 := cell_of s 2; have p2 := ice_of s 2; have q3 := cell_of s 3; have p3 := ice_of s 3; have q4 := cell_of s 4; have p4 := ice_of s 4; have q5 := cell_of s 5; have p5 := ice_of s 5; have q9 := lt_of_heap s; (try simp only [World.size_alloc, List.getElem?_toArray, List.getElem?_cons_zero, List.getElem?_cons_succ] at q0 q1 q2 q3 q4 q5 p0 p1 p2 p3 p4 p5 q9); clear s
 go_wp2_with fail
 refine (hLX.out W0 hu0.out).mono ?_
 rintro e w1 ⟨b1, rfl, hb1, hu1⟩
 have HB1 := Lib.hid hb1
 clear hb1
 cases b1
 rotate_left
 · go_wp2_with (first | (go_at_call 20; refine (known_any _).mono ?_; rintro e wk ⟨rfl, huk⟩))
   go_ret
   exact ⟨rfl, hu0.out.trans (show Up W0 _ from uq)⟩
 have s := Up.get (w := W0) (w' := w1) uq HQY.out; have q0 := cell_of s 0; have p0 := ice_of s 0; have q1 := cell_of s 1; have p1 := ice_of s 1; have q2 := cell_of s 2; have p2 := ice_of s 2; have q3 := cell_of s 3; have p3 := ice_of s 3; have q4 := cell_of s 4; have p4 := ice_of s 4; have q5 := cell_of s 5; have p5 := ice_of s 5; have q9 := lt_of_heap s; (try simp only [World.size_alloc, List.getElem?_toArray, List.getElem?_cons_zero, List.getElem?_cons_succ] at q0 q1 q2 q3 q4 q5 p0 p1 p2 p3 p4 p5 q9); clear s
 go_wp2_with fail
 refine (hLY.out _ (hu0.out.trans (show Up W0 _ from uq))).mono ?_
 rintro e w3 ⟨b2, rfl, hb2, hu2⟩
 have HB2 := Lib.hid hb2
 clear hb2
 cases b2
 rotate_left
 · go_wp2_with (first | (go_at_call 20; refine (known_any _).mono ?_; rintro e wk ⟨rfl, huk⟩))
   go_ret
   exact ⟨rfl, hu0.out.trans (show Up W0 _ from uq)⟩
 have HW3 : Hid (Up W0 w3) := Up.trans hu1 hu2
 have HU3 : Hid (Up w w3) := hu0.out.trans HW3.out
 clear hu1 hu2
 go_wp2_with fail
 refine (New_any w3).mono ?_
 rintro e w4 ⟨A, bs, g, tv, rfl, hf, hu4⟩
 have hS4 : Sta w3 w4 A bs tenT tv (.map (some g)) := Sta.new hf hu4 ((HG.out.1.memo (Memo.of_up none1 _ HU3.out)).mono HU3.out.size)
 have hTX : Hid (TIs w3.heap.size w3 [x0, x1, x2, x3, x4, x5] x) := (HX.out.1.low (HU3.out.below (Nat.le_refl _))).mono HU3.out.size
 have hTY : Hid (TIs w3.heap.size w3 [y0, y1, y2, y3, y4, y5] y) := (HY.out.1.low (HU3.out.below (Nat.le_refl _))).mono HU3.out.size
 have hM3 : Hid (w3.cell? ⟨0, 0, none⟩ = some (.int .i64 m)) := (HU3.out.cells _ _ (cell_lt5 HG.out.2)).trans HG.out.2
 have hl4 : Hid (bs.length = 10) := hf.len
 have HS4 := Lib.hid hS4
 have s := (HW3.out.trans hS4.up).get HQX.out; have q0 := cell_of s 0; have p0 := ice_of s 0; have q1 := cell_of s 1; have p1 := ice_of s 1; have q2 := cell_of s 2; have p2 := ice_of s 2; have q3 := cell_of s 3; have p3 := ice_of s 3; have q4 := cell_of s 4; have p4 := ice_of s 4; have q5 := cell_of s 5; have p5 := ice_of s 5; have q9 := lt_of_heap s; (try simp only [World.size_alloc, List.getElem?_toArray, List.getElem?_cons_zero, List.getElem?_cons_succ] at q0 q1 q2 q3 q4 q5 p0 p1 p2 p3 p4 p5 q9); clear s
 clear hS4 hf
 go_wp2_with fail
 refine (laid_sta (HS4.out.later uq) hTX.out hM3.out (HB1.out (by first | rfl | trivial)) (by have := hl4.out; omega)).mono ?_
 rintro e w5 ⟨p, ok5, bs5, ts5, tv5, mv5, rfl, hS5, hl5, hx5⟩
 have HS5 := Lib.hid (And.intro hS5 (And.intro hl5 hx5))
 have s := (HW3.out.trans hS5.up).get HQY.out; have q0 := cell_of s 0; have p0 := ice_of s 0; have q1 := cell_of s 1; have p1 := ice_of s 1; have q2 := cell_of s 2; have p2 := ice_of s 2; have q3 := cell_of s 3; have p3 := ice_of s 3; have q4 := cell_of s 4; have p4 := ice_of s 4; have q5 := cell_of s 5; have p5 := ice_of s 5; have q9 := lt_of_heap s; (try simp only [World.size_alloc, List.getElem?_toArray, List.getElem?_cons_zero, List.getElem?_cons_succ] at q0 q1 q2 q3 q4 q5 p0 p1 p2 p3 p4 p5 q9); clear s
 clear hS5 hl5 hx5
 go_wp2_with fail
 refine (laid_sta (HS5.out.1.later uq) hTY.out hM3.out (HB2.out (by first | rfl | trivial)) (by have := hl4.out; have := HS5.out.2.1; rw [List.length_append]; omega)).mono ?_
 rintro e w6 ⟨q, ok6, bs6, ts6, tv6, mv6, rfl, hS6, hl6, hx6⟩
 have HS6 := Lib.hid (And.intro hS6 (And.intro hl6 hx6))
 have HU6 : Hid (Up w w6) := Up.trans HU3.out hS6.up
 clear hS6 hl6 hx6 hu4
 cases ok5
 · go_wp2_with (first | (go_at_call 20; refine (known_any _).mono ?_; rintro e wk ⟨rfl, huk⟩))
   go_ret
   exact ⟨rfl, Up.trans HU6.out uq⟩
 cases ok6
 · go_wp2_with (first | (go_at_call 20; refine (known_any _).mono ?_; rintro e wk ⟨rfl, huk⟩))
   go_ret
   exact ⟨rfl, Up.trans HU6.out uq⟩
 obtain ⟨P, hP1, hP2, _⟩ := HS5.out.2.2 (by first | rfl | trivial)
 obtain ⟨Q, hQ1, hQ2, _⟩ := HS6.out.2.2 (by first | rfl | trivial)
 obtain ⟨BS, hBS⟩ : ∃ BS, bs ++ bs5 ++ bs6 = BS := ⟨_, rfl⟩
 obtain ⟨TS, hTS⟩ : ∃ TS, tenT ++ ts5 ++ ts6 = TS := ⟨_, rfl⟩
 have hP3 : TS[p]? = some P := by rw [← hTS]; exact more hP1
 have hQ3 : TS[q]? = some Q := by rw [← hTS]; exact hQ1
 have hS6 := HS6.out.1
 rw [hBS, hTS] at hS6
 have hbl : BS.length ≤ 12010 := by
   rw [← hBS]
   have := hl4.out
   have := HS5.out.2.1
   have := HS6.out.2.1
   simp only [List.length_append]
   omega
 have HT := Lib.hid (And.intro hS6 (And.intro hbl (And.intro hP3 (And.intro hQ3 (And.intro hP2 hQ2)))))
 clear hS6 hbl hP3 hQ3 hP2 hQ2 hP1 hQ1 hBS hTS HS4 HS5 HS6 hTX hTY hLX hLY HX HY
 go_wp2_with fail
 refine (find_arr_sta (HT.out.1.later (show Up w6 _ from uq)) (by have := HT.out.2.1; omega) HT.out.2.2.1 (n := 61) (by have := HT.out; omega) (by decide) (ids_lit w6 [p] (0, 0)) hM3.out).mono ?_
 rintro e w7 ⟨i7, bs7, ts7, tv7, mv7, X7, rfl, hS7, hl7, hx7, hv7, hc7, hn7⟩
 have H7 := Lib.hid (And.intro hS7 (And.intro hl7 (And.intro hx7 hc7)))
 clear hS7 hl7 hx7 hv7 hc7 hn7
 go_wp2_with fail
 refine (find_arr_sta (H7.out.1.later (show Up w7 _ from uq)) (by have := HT.out.2.1; have := H7.out.2.1; rw [List.length_append]; omega) (more HT.out.2.2.2.1) (n := 61) (by have := HT.out; omega) (by decide) (ids_lit w7 [q] (0, 0)) hM3.out).mono ?_
 rintro e w8 ⟨i8, bs8, ts8, tv8, mv8, X8, rfl, hS8, hl8, hx8, hv8, hc8, hn8⟩
 have H8 := Lib.hid (And.intro hS8 (And.intro hl8 (And.intro hx8 hc8)))
 clear hS8 hl8 hx8 hv8 hc8 hn8
 have hbl8 : Hid ((BS ++ bs7 ++ bs8).length ≤ 1000000) := by have := HT.out.2.1; have := H7.out.2.1; have := H8.out.2.1; unfold Hid; simp only [List.length_append]; omega
 go_wp2_with fail
 refine (asked_sta H8.out.1 hbl8.out (more (more HT.out.2.2.1)) (more (more HT.out.2.2.2.1))).mono ?_
 rintro e w9 ⟨one, ok1, rfl, hS9, hq9⟩
 have H9 := Lib.hid (And.intro hS9 hq9)
 clear hS9 hq9
 go_wp2_with fail
 refine (asked_sta H9.out.1 hbl8.out (more H7.out.2.2.1) H8.out.2.2.1).mono ?_
 rintro e wA ⟨two, ok2, rfl, hSA, hqA⟩
 have hfin : ok1 = true → ok2 = true → one = two := fun h1 h2 => by
   have q1 := H9.out.2 h1
   have q2 := hqA h2
   rw [H7.out.2.2.2, H8.out.2.2.2, sub_arrays] at q2
   cases one <;> cases two <;> simp_all
 have HUA : Hid (Up w wA) := Up.trans HU3.out hSA.up
 clear hSA hqA
 cases ok1
 · go_wp2_with (first | (go_at_call 20; refine (known_any _).mono ?_; rintro e wk ⟨rfl, huk⟩))
   all_goals go_ret
   all_goals exact ⟨rfl, Up.trans HUA.out uq⟩
 cases ok2
 · go_wp2_with (first | (go_at_call 20; refine (known_any _).mono ?_; rintro e wk ⟨rfl, huk⟩))
   all_goals go_ret
   all_goals exact ⟨rfl, Up.trans HUA.out uq⟩
 obtain rfl : one = two := hfin rfl rfl
 clear hfin
 cases one
 all_goals go_wp2_with (first | (go_at_call 20; refine (known_any _).mono ?_; rintro e wk ⟨rfl, huk⟩))
 all_goals go_ret
 all_goals exact ⟨rfl, Up.trans HUA.out uq⟩
open Go.ChangeAt Go.ChangeShapes Go.WideShapes
set_option maxRecDepth 100000
theorem tab_of {W : World} (h : laidMetH Tryz.prog Rows.relateArraysUptoRow.laid W) : Tab W := by
 have h1 := (laidMetH_iff.1 h).1
 have h2 := h1.filter (fun x => x.1 == "internal/strconv.uint64pow10")
 exact Lib.tabIs_of_head (g := 1) (rest := []) (by kernel_rfl) (by kernel_rfl) Tryz.underlying278 Tryz.underlying268 (by kernel_rfl) (by kernel_rfl) (show laidMet Tryz.prog [("internal/strconv.uint64pow10", Lib.tabData .u64 Lib.pow10Tab)] W from h2)
def bruTab : List Int := [0, 1, 56, 2, 57, 49, 28, 3, 61, 58, 42, 50, 38, 29, 17, 4, 62, 47, 59, 36, 45, 43, 51, 22, 53, 39, 33, 30, 24, 18, 12, 5, 63, 55, 48, 27, 60, 41, 37, 16, 46, 35, 44, 21, 52, 32, 23, 11, 54, 26, 40, 15, 34, 20, 31, 10, 25, 14, 19, 9, 13, 8, 7, 6]
theorem bru_of {W : World} (h : laidMetH Tryz.prog Rows.relateArraysUptoRow.laid W) : Bru W := by
 have h1 := (laidMetH_iff.1 h).1
 have h2 := h1.filter (fun x => x.1 == "math/bits.deBruijn64tab")
 have h3 : Lib.TabIs Tryz.prog W "math/bits.deBruijn64tab" .u8 bruTab := Lib.tabIs_of_head (g := 3) (rest := []) (by kernel_rfl) (by kernel_rfl) Tryz.underlying285 Tryz.underlying5 (by kernel_rfl) (by kernel_rfl) (show laidMet Tryz.prog [("math/bits.deBruijn64tab", Lib.tabData .u8 bruTab)] W from h2)
 exact h3.cell (g := 3) (by kernel_rfl) 15 (by decide)
theorem plain_of {cs : Array Value} {T : TypeId} {f : Nat × Nat} (h1 : T ≠ TyT) (h2 : T ≠ TpT) : Plain (.cells cs T f) := fun cs' f' =>
 ⟨fun e => by injection e with _ e _; exact h1 e, fun e => by injection e with _ e _; exact h2 e⟩
theorem glob_of {W : World} (h : laidMetH Tryz.prog Rows.relateArraysUptoRow.laid W) (hs : W.ShapedOpen Tryz.prog) : GlobB W.heap.size W := by
 have ht := tab_of h
 have hb := bru_of h
 obtain ⟨cs0, h0, _, _⟩ := hs.1 1 (List.replicate 20 (Value.int .u64 0)).toArray 278 (of_decide_eq_true (by kernel_rfl)) (by kernel_rfl)
 obtain ⟨cs3, h3, _, _⟩ := hs.1 3 (List.replicate 64 (Value.int .u8 0)).toArray 285 (of_decide_eq_true (by kernel_rfl)) (by kernel_rfl)
 intro w1 k1 w2 k2
 have p0 : w2.heap[(1 : Nat)]? = W.heap[(1 : Nat)]? := (k2 _ _ (k1 _ _ (lt_of_heap h0) h0) (plain_of (by decide) (by decide))).trans h0.symm
 have p3 : w2.heap[(3 : Nat)]? = W.heap[(3 : Nat)]? := (k2 _ _ (k1 _ _ (lt_of_heap h3) h3) (plain_of (by decide) (by decide))).trans h3.symm
 refine ⟨?_, ?_⟩
 · unfold Tab Lib.TabIs World.var? at ht ⊢
   rw [show Tryz.prog.globalNamed "internal/strconv.uint64pow10" = some 1 by kernel_rfl] at ht ⊢
   simp only [Option.bind_some] at ht ⊢
   rw [p0]
   exact ht
 · unfold Bru World.cell? at hb ⊢
   simp only at hb ⊢
   rw [p3]
   exact hb
theorem max_of {W : World} (hs : W.ShapedOpen Tryz.prog) : ∃ m, W.cell? ⟨0, 0, none⟩ = some (.int .i64 m) := by
 obtain ⟨cs, hh, hz, hr⟩ := hs.1 0 #[.int .i64 0] 3 (of_decide_eq_true (by kernel_rfl)) (by kernel_rfl)
 obtain ⟨ts, hts, _, hall⟩ := hr (by kernel_rfl)
 rw [show Tryz.prog.cellTypes Tryz.prog.depth 3 = some [3] by kernel_rfl] at hts
 cases hts
 have h1 : 0 < cs.size := by rw [hz]; decide
 obtain ⟨u, hu', hok⟩ := hall 0 cs[0] (by simp [h1])
 have : u = 3 := by simpa using hu'.symm
 subst this
 have hcell : W.cell? ⟨0, 0, none⟩ = some cs[0] := by simp [World.cell?, hh, h1]
 rw [hcell]
 unfold Cell.ok at hok
 rw [Tryz.underlying3] at hok
 cases hv : cs[0] with
 | int k n =>
   rw [hv] at hok
   simp only at hok
   rw [hok.1]
   exact ⟨_, rfl⟩
 | _ => rw [hv] at hok; simp at hok
theorem relateArrays_contract (H : Type) (enc : TypeId × Value → H) (W : World) (base : Nat) (args : Array Value) (ds gs : List (DataW H)) (before : List MemPlace)
   (hval : ∀ (j : Nat) t v, Tryz.f6.params[j]? = some t → args[j]? = some v → Value.okWide Tryz.prog W .any base t v)
   (hW : DataW.Whole enc Tryz.prog Tryz.f6.params.toList Rows.relateArraysSpec.vars false W args.toList ds gs before)
   (hcond : ∀ k, (Rows.OpenSpec.upto Rows.relateArraysSpec).cond = some k → k H (ds ++ gs) = true)
   (hL : laidMetH Tryz.prog Rows.relateArraysUptoRow.laid W) (hS : W.ShapedOpen Tryz.prog) :
   Calls Tryz.prog 6 args W fun e W' => ∃ v, e = .returned v ∧ Rows.relateArraysSpec.post enc Tryz.prog Tryz.f6 false true false false W args v W' := by
 have hW' := hW
 obtain ⟨p, q, hA0, hV, rfl, hfz, hnd⟩ := hW
 have hA : DataW.TrodAll enc Tryz.prog W 0 (fun _ => true) true Tryz.f6.params.toList args.toList ds p := hA0
 rw [Tryz.params6] at hA hval
 obtain ⟨v0, vs0, d0, ds0, p0, q0, hargs, rfl, rfl, h0, r0⟩ := trodAll_cons hA
 obtain ⟨v1, vs1, d1, ds1, p1, q1, rfl, rfl, rfl, h1, r1⟩ := trodAll_cons r0
 obtain ⟨rfl, rfl, rfl⟩ := trodAll_nil r1
 obtain rfl : args = #[v0, v1] := by cases args; simp_all
 obtain ⟨rfl, rfl⟩ := trodVars_none hV
 have k0 := h0
 have lt0 : ∀ x ∈ p0, x.block < W.heap.size := by obtain ⟨m, hm⟩ := k0; exact DataW.trod_lt m _ _ _ hm
 have k1 := h1
 have lt1 : ∀ x ∈ p1, x.block < W.heap.size := by obtain ⟨m, hm⟩ := k1; exact DataW.trod_lt m _ _ _ hm
 have hb : Rows.uptoBulkAll ([d0, d1] ++ []) ≤ 1048576 := of_decide_eq_true (hcond _ rfl)
 simp only [List.append_nil, Rows.uptoBulkAll] at hb
 obtain ⟨c0, rfl, _⟩ := okWide_struct Tryz.underlying33 (hval 0 33 v0 rfl rfl)
 obtain ⟨c1, rfl, _⟩ := okWide_struct Tryz.underlying33 (hval 1 33 v1 rfl rfl)
 obtain ⟨m0, hm0⟩ := h0
 obtain ⟨m1, hm1⟩ := h1
 obtain ⟨x, hx, hxn⟩ := open_T m0 c0.toList _ hm0 (show Rows.uptoBulk d0 ≤ 1048576 by omega)
 obtain ⟨y, hy, hyn⟩ := open_T m1 c1.toList _ hm1 (show Rows.uptoBulk d1 ≤ 1048576 by omega)
 have hxn : x.nodes ≤ Rows.uptoBulk d0 := hxn
 have hyn : y.nodes ≤ Rows.uptoBulk d1 := hyn
 obtain ⟨m, hm⟩ := max_of hS
 have key := arrays_any c0.toList c1.toList x y m W hx hy (by omega) (by omega) (glob_of hL hS) hm
 simp only [Array.toArray_toList] at key
 clear hA0 hm0 hm1
 refine key.mono fun e W' ⟨he, bel⟩ => ?_
 subst he
 exact ⟨_, rfl, _, _, _, [], _, [], hW', trodAll_mk1 (shut_bool Tryz.underlying4 _), (trodAll_cons_mk (Below.trod laid_out (by kernel_rfl) (of_decide_eq_true (by kernel_rfl)) k0 bel lt0) (trodAll_cons_mk (Below.trod laid_out (by kernel_rfl) (of_decide_eq_true (by kernel_rfl)) k1 bel lt1) trodAll_mk0)), rfl, Below.frame bel _, fun h => by cases h⟩
abbrev argT : Value := .agg #[.int .i64 0, .int .i64 0, .string ⟨#[]⟩, .slice none 0 0, .slice none 0 0, .slice none 0 0]
theorem relateArrays_laid (os : Os) : laidMet Tryz.prog Rows.relateArraysUptoRow.laid ((laidWorld os).forCall (fun _ _ => 0) ⟨#[], #[argT, argT], []⟩).memory :=
 laidMet_of_run' 8 (by kernel_rfl) (by kernel_rfl)
theorem relateArrays_reads (os : Os) {H : Type} (enc : TypeId × Value → H) : ∃ places, DataW.whole enc Tryz.prog ((laidWorld os).forCall (fun _ _ => 0) ⟨#[], #[argT, argT], []⟩).memory Tryz.f6.params.toList Rows.relateArraysSpec.vars false #[argT, argT].toList 8 = some ([.agg [.lit (.int .i64 0), .lit (.int .i64 0), .lit (.string []), .nil, .nil, .nil], .agg [.lit (.int .i64 0), .lit (.int .i64 0), .lit (.string []), .nil, .nil, .nil]], [], places) :=
 ⟨[], by kernel_rfl⟩
theorem relateArrays_lifted (os : Os) (started : os.Started) (H : Type) (enc : TypeId × Value → H) (F : Stop.Interp) :
   ReturnsInHanded {} Tryz.checked os 6 .any ((Rows.OpenSpec.upto Rows.relateArraysSpec).preRow enc Tryz.prog Tryz.f6 Rows.relateArraysUptoRow.domain false Rows.relateArraysUptoRow.laid) (((Rows.OpenSpec.upto Rows.relateArraysSpec).at F).post enc Tryz.prog Tryz.f6 false true false false) := by
 obtain ⟨places, hx⟩ := relateArrays_reads os enc
 refine returnsInHanded_of_row (C := Tryz.checked) (s := Rows.OpenSpec.upto Rows.relateArraysSpec) own_knob started (by kernel_rfl) Tryz.func6
   (witness_row_at (enc := enc) (C := Tryz.checked) false (laidWorld os) #[argT, argT] rfl (by kernel_rfl) (by kernel_rfl) (by kernel_rfl)
     (OpenSpec.preRow_of_cond 8 hx (by kernel_rfl) (fun k hk => by cases hk; kernel_rfl) (by kernel_rfl) (relateArrays_laid os))) ?_
 intro W base args ds gs before hval hW _ hcond _ hL hS _
 exact relateArrays_contract H enc W base args ds gs before hval hW hcond hL hS
theorem relateArrays_said : Rows.RelateArraysUptoSaid :=
 OpenClaim.holds_of_cond 6 Tryz.f6 rfl rfl rfl rfl rfl rfl rfl ⟨rfl, rfl, rfl, rfl, rfl⟩ rfl rfl rfl rfl rfl (by kernel_rfl) Tryz.func6 (by kernel_rfl)
   (of_decide_eq_true (by kernel_rfl)) (by unfold Func.isWrapper; first | (rw [if_pos (by decide +kernel)]; kernel_rfl) | (rw [if_neg (by decide +kernel)]; exact ⟨rfl, rfl⟩))
   (fun os started H enc _ F => by rw [OpenClaim.pre_eq_preRow]; exact relateArrays_lifted os started H enc F)
theorem relateArrays_plain (f : FuncId) (fn : Func) (hf : Tryz.pinned.checked.prog.funcNamed "shuck/shucklaw9.RelateArrays" = some f) (hfn : Tryz.pinned.checked.prog.funcs[f]? = some fn) :
   false = Tryz.pinned.checked.prog.looks [] ∧ ∀ (j : Nat) t, fn.params[j]? = some t → Tryz.pinned.checked.prog.wantsStandIn t = false := by
 obtain rfl : f = 6 := Option.some.inj ((show Tryz.prog.funcNamed "shuck/shucklaw9.RelateArrays" = some 6 by kernel_rfl).symm.trans hf) |>.symm
 obtain rfl : fn = Tryz.f6 := (Option.some.inj (Tryz.func6.symm.trans hfn)).symm
 refine ⟨by kernel_rfl, fun j t ht => ?_⟩
 rw [Tryz.params6] at ht
 have hm := Array.mem_of_getElem? ht
 simp at hm
 rcases hm with rfl | rfl
 all_goals exact (show Tryz.prog.wantsStandIn 33 = false by kernel_rfl)
theorem relateArrays_card : Rows.RelateArraysUptoCardSaid :=
 Claim7.holds_tied_plain_at .later [] _ _ _ _ relateArrays_said (fun _ h => by cases h) (by kernel_rfl) (fun _ h => by cases h) relateArraysUpto_row_tie rfl ⟨rfl, rfl⟩ (by kernel_rfl) rfl relateArrays_plain (by kernel_rfl)
end Go.Proofs.YtiaepldmgighbaaGreatDoor
