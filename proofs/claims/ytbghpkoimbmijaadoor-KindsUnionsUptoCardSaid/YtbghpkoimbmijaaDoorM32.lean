import Derived.Clock
import Derived.Test.YtbghpkoimbmijaaDoorM31
/- YtbghpkoimbmijaaDoorM32: lemmas of the proof, in order: LF, LG. -/
/- Walk: KindsUnions. -/
namespace Go.Proofs.YtbghpkoimbmijaaDoor
open Go.RowKit
set_option linter.unusedSimpArgs false
set_option linter.unusedVariables false

set_option maxRecDepth 100000 in
set_option maxHeartbeats 12800000 in
theorem unions_any (xs ys zs : List Value) (x y z : Ty) (m : Int) (w : World) (hx : TIs w.heap.size w xs x) (hy : TIs w.heap.size w ys y) (hz : TIs w.heap.size w zs z) (hxn : x.nodes ≤ 2000000) (hyn : y.nodes ≤ 2000000) (hzn : z.nodes ≤ 2000000)
    (hg : GlobB w.heap.size w) (hm : w.cell? ⟨1, 0, none⟩ = some (.int .i64 m)) :
    Calls Tryd.prog 3 #[.agg xs.toArray, .agg ys.toArray, .agg zs.toArray] w fun e w' => e = .returned (.bool true) ∧ Up w w' := by
  obtain ⟨x0, x1, x2, x3, x4, x5, rfl⟩ := hx.six
  obtain ⟨y0, y1, y2, y3, y4, y5, rfl⟩ := hy.six
  obtain ⟨z0, z1, z2, z3, z4, z5, rfl⟩ := hz.six
  have HX := Lib.hid (And.intro hx hxn)
  have HY := Lib.hid (And.intro hy hyn)
  have HZ := Lib.hid (And.intro hz hzn)
  have HG := Lib.hid (And.intro hg hm)
  have hLX := Lib.hid (fun W (hW : Up w W) => large_any w.heap.size x _ W (HX.out.1.low (hW.below (Nat.le_refl _))) hW.size HX.out.2)
  have hLY := Lib.hid (fun W (hW : Up w W) => large_any w.heap.size y _ W (HY.out.1.low (hW.below (Nat.le_refl _))) hW.size HY.out.2)
  have hLZ := Lib.hid (fun W (hW : Up w W) => large_any w.heap.size z _ W (HZ.out.1.low (hW.below (Nat.le_refl _))) hW.size HZ.out.2)
  clear hx hy hz hxn hyn hzn hg hm
  go_enter Tryd.func3, Tryd.ntmps3
  go_upto_region 1 with (fail)
  refine range_named fun A0 W0 hA0 hW0 => ?_
  have hu0 : Hid (Up w W0) := by subst hW0; exact uq
  obtain ⟨qx, hqx⟩ : ∃ q, Hid (w.heap.size = q) := ⟨_, rfl⟩
  obtain ⟨qy, hqy⟩ : ∃ q, Hid (w.heap.size + 1 = q) := ⟨_, rfl⟩
  obtain ⟨qz, hqz⟩ : ∃ q, Hid (w.heap.size + 1 + 1 = q) := ⟨_, rfl⟩
  have HQX : Hid (W0.heap[qx]? = some (.cells #[x0, x1, x2, x3, x4, x5] RefT (0, 0))) := by subst hW0; rw [← hqx.out, alloc_old _ _ _ (by simp only [World.size_alloc]; omega), alloc_old _ _ _ (by simp only [World.size_alloc]; omega)]; exact alloc_at _ _ _ rfl
  have HQY : Hid (W0.heap[qy]? = some (.cells #[y0, y1, y2, y3, y4, y5] RefT (0, 0))) := by subst hW0; rw [← hqy.out, alloc_old _ _ _ (by simp only [World.size_alloc]; omega)]; exact alloc_at _ _ _ (by simp only [World.size_alloc])
  have HQZ : Hid (W0.heap[qz]? = some (.cells #[z0, z1, z2, z3, z4, z5] RefT (0, 0))) := by subst hW0; rw [← hqz.out]; exact alloc_at _ _ _ (by simp only [World.size_alloc])
  rw [hqz.out, hqy.out, hqx.out] at hA0
  clear hW0
  subst hA0
  have s := HQX.out; have q0 := cell_of s 0; have p0 := ice_of s 0; have q1 := cell_of s 1; have p1 := ice_of s 1; have q2 := cell_of s 2; have p2 := ice_of s 2; have q3 := cell_of s 3; have p3 := ice_of s 3; have q4 := cell_of s 4; have p4 := ice_of s 4; have q5 := cell_of s 5; have p5 := ice_of s 5; have q9 := lt_of_heap s; (try simp only [World.size_alloc, List.getElem?_toArray, List.getElem?_cons_zero, List.getElem?_cons_succ] at q0 q1 q2 q3 q4 q5 p0 p1 p2 p3 p4 p5 q9); clear s
  go_wp2_with fail
  refine (hLX.out W0 hu0.out).mono ?_
  rintro e w1 ⟨b1, rfl, hb1, hu1⟩
  have HB1 := Lib.hid hb1
  clear hb1
  cases b1
  rotate_left
  · go_wp2_with (first | (go_at_call 5; refine (known_any _).mono ?_; rintro e wk ⟨rfl, huk⟩))
    go_ret
    exact ⟨rfl, hu0.out.trans (show Up W0 _ from uq)⟩
  have s := Up.get (w := W0) (w' := w1) uq HQY.out; have q0 := cell_of s 0; have p0 := ice_of s 0; have q1 := cell_of s 1; have p1 := ice_of s 1; have q2 := cell_of s 2; have p2 := ice_of s 2; have q3 := cell_of s 3; have p3 := ice_of s 3; have q4 := cell_of s 4; have p4 := ice_of s 4; have q5 := cell_of s 5; have p5 := ice_of s 5; have q9 := lt_of_heap s; (try simp only [World.size_alloc, List.getElem?_toArray, List.getElem?_cons_zero, List.getElem?_cons_succ] at q0 q1 q2 q3 q4 q5 p0 p1 p2 p3 p4 p5 q9); clear s
  go_wp2_with fail
  refine (hLY.out _ (hu0.out.trans (show Up W0 _ from uq))).mono ?_
  rintro e w2 ⟨b2, rfl, hb2, hu2⟩
  have HB2 := Lib.hid hb2
  clear hb2
  cases b2
  rotate_left
  · go_wp2_with (first | (go_at_call 5; refine (known_any _).mono ?_; rintro e wk ⟨rfl, huk⟩))
    go_ret
    exact ⟨rfl, hu0.out.trans (show Up W0 _ from uq)⟩
  have s := Up.get (w := W0) (w' := w2) uq HQZ.out; have q0 := cell_of s 0; have p0 := ice_of s 0; have q1 := cell_of s 1; have p1 := ice_of s 1; have q2 := cell_of s 2; have p2 := ice_of s 2; have q3 := cell_of s 3; have p3 := ice_of s 3; have q4 := cell_of s 4; have p4 := ice_of s 4; have q5 := cell_of s 5; have p5 := ice_of s 5; have q9 := lt_of_heap s; (try simp only [World.size_alloc, List.getElem?_toArray, List.getElem?_cons_zero, List.getElem?_cons_succ] at q0 q1 q2 q3 q4 q5 p0 p1 p2 p3 p4 p5 q9); clear s
  go_wp2_with fail
  refine (hLZ.out _ (hu0.out.trans (show Up W0 _ from uq))).mono ?_
  rintro e w3 ⟨b3, rfl, hb3, hu3⟩
  have HB3 := Lib.hid hb3
  clear hb3
  cases b3
  rotate_left
  · go_wp2_with (first | (go_at_call 5; refine (known_any _).mono ?_; rintro e wk ⟨rfl, huk⟩))
    go_ret
    exact ⟨rfl, hu0.out.trans (show Up W0 _ from uq)⟩
  have HW3 : Hid (Up W0 w3) := Up.trans (Up.trans hu1 hu2) hu3
  have HU3 : Hid (Up w w3) := hu0.out.trans HW3.out
  clear hu1 hu2 hu3
  go_wp2_with fail
  refine (New_any w3).mono ?_
  rintro e w4 ⟨A, bs, g, tv, rfl, hf, hu4⟩
  have hS4 : Sta w3 w4 A bs tenT tv (.map (some g)) := Sta.new hf hu4 ((HG.out.1.memo (Memo.of_up none1 _ HU3.out)).mono HU3.out.size)
  have hTX : Hid (TIs w3.heap.size w3 [x0, x1, x2, x3, x4, x5] x) := (HX.out.1.low (HU3.out.below (Nat.le_refl _))).mono HU3.out.size
  have hTY : Hid (TIs w3.heap.size w3 [y0, y1, y2, y3, y4, y5] y) := (HY.out.1.low (HU3.out.below (Nat.le_refl _))).mono HU3.out.size
  have hTZ : Hid (TIs w3.heap.size w3 [z0, z1, z2, z3, z4, z5] z) := (HZ.out.1.low (HU3.out.below (Nat.le_refl _))).mono HU3.out.size
  have hM3 : Hid (w3.cell? ⟨1, 0, none⟩ = some (.int .i64 m)) := (HU3.out.cells _ _ (cell_lt5 HG.out.2)).trans HG.out.2
  have hl4 : Hid (bs.length = 10) := hf.len
  have HS4 := Lib.hid hS4
  have s := (HW3.out.trans hS4.up).get HQX.out; have q0 := cell_of s 0; have p0 := ice_of s 0; have q1 := cell_of s 1; have p1 := ice_of s 1; have q2 := cell_of s 2; have p2 := ice_of s 2; have q3 := cell_of s 3; have p3 := ice_of s 3; have q4 := cell_of s 4; have p4 := ice_of s 4; have q5 := cell_of s 5; have p5 := ice_of s 5; have q9 := lt_of_heap s; (try simp only [World.size_alloc, List.getElem?_toArray, List.getElem?_cons_zero, List.getElem?_cons_succ] at q0 q1 q2 q3 q4 q5 p0 p1 p2 p3 p4 p5 q9); clear s
  clear hS4 hf
  go_wp2_with fail
  refine (laid_sta (HS4.out.later uq) hTX.out hM3.out (HB1.out (by first | rfl | trivial)) (by have := hl4.out; omega)).mono ?_
  rintro e w5 ⟨p, ok5, bs5, ts5, tv5, mv5, rfl, hS5, hl5, hx5⟩
  have HS5 := Lib.hid (And.intro hS5 (And.intro hl5 hx5))
  have s := (HW3.out.trans hS5.up).get HQY.out; have q0 := cell_of s 0; have p0 := ice_of s 0; have q1 := cell_of s 1; have p1 := ice_of s 1; have q2 := cell_of s 2; have p2 := ice_of s 2; have q3 := cell_of s 3; have p3 := ice_of s 3; have q4 := cell_of s 4; have p4 := ice_of s 4; have q5 := cell_of s 5; have p5 := ice_of s 5; have q9 := lt_of_heap s; (try simp only [World.size_alloc, List.getElem?_toArray, List.getElem?_cons_zero, List.getElem?_cons_succ] at q0 q1 q2 q3 q4 q5 p0 p1 p2 p3 p4 p5 q9); clear s
  clear hS5 hl5 hx5
  go_wp2_with fail
  refine (laid_sta (HS5.out.1.later uq) hTY.out hM3.out (HB2.out (by first | rfl | trivial)) (by have := hl4.out; have := HS5.out.2.1; rw [List.length_append]; omega)).mono ?_
  rintro e w6 ⟨q, ok6, bs6, ts6, tv6, mv6, rfl, hS6, hl6, hx6⟩
  have HS6 := Lib.hid (And.intro hS6 (And.intro hl6 hx6))
  have s := (HW3.out.trans hS6.up).get HQZ.out; have q0 := cell_of s 0; have p0 := ice_of s 0; have q1 := cell_of s 1; have p1 := ice_of s 1; have q2 := cell_of s 2; have p2 := ice_of s 2; have q3 := cell_of s 3; have p3 := ice_of s 3; have q4 := cell_of s 4; have p4 := ice_of s 4; have q5 := cell_of s 5; have p5 := ice_of s 5; have q9 := lt_of_heap s; (try simp only [World.size_alloc, List.getElem?_toArray, List.getElem?_cons_zero, List.getElem?_cons_succ] at q0 q1 q2 q3 q4 q5 p0 p1 p2 p3 p4 p5 q9); clear s
  clear hS6 hl6 hx6
  go_wp2_with fail
  refine (laid_sta (HS6.out.1.later uq) hTZ.out hM3.out (HB3.out (by first | rfl | trivial)) (by have := hl4.out; have := HS5.out.2.1; have := HS6.out.2.1; rw [List.length_append, List.length_append]; omega)).mono ?_
  rintro e w7 ⟨r, ok7, bs7, ts7, tv7, mv7, rfl, hS7, hl7, hx7⟩
  have HS7 := Lib.hid (And.intro hS7 (And.intro hl7 hx7))
  have HU7 : Hid (Up w w7) := Up.trans HU3.out hS7.up
  clear hS7 hl7 hx7 hu4
  cases ok5
  · go_wp2_with (first | (go_at_call 5; refine (known_any _).mono ?_; rintro e wk ⟨rfl, huk⟩))
    go_ret
    exact ⟨rfl, Up.trans HU7.out uq⟩
  cases ok6
  · go_wp2_with (first | (go_at_call 5; refine (known_any _).mono ?_; rintro e wk ⟨rfl, huk⟩))
    go_ret
    exact ⟨rfl, Up.trans HU7.out uq⟩
  cases ok7
  · go_wp2_with (first | (go_at_call 5; refine (known_any _).mono ?_; rintro e wk ⟨rfl, huk⟩))
    go_ret
    exact ⟨rfl, Up.trans HU7.out uq⟩
  obtain ⟨P, hP1, hP2⟩ := HS5.out.2.2 (by first | rfl | trivial)
  obtain ⟨Q, hQ1, hQ2⟩ := HS6.out.2.2 (by first | rfl | trivial)
  obtain ⟨R, hR1, hR2⟩ := HS7.out.2.2 (by first | rfl | trivial)
  obtain ⟨BS, hBS⟩ : ∃ BS, bs ++ bs5 ++ bs6 ++ bs7 = BS := ⟨_, rfl⟩
  obtain ⟨TS, hTS⟩ : ∃ TS, tenT ++ ts5 ++ ts6 ++ ts7 = TS := ⟨_, rfl⟩
  have hP3 : TS[p]? = some P := by rw [← hTS]; exact more (more hP1)
  have hQ3 : TS[q]? = some Q := by rw [← hTS]; exact more hQ1
  have hR3 : TS[r]? = some R := by rw [← hTS]; exact hR1
  have hS7 := HS7.out.1
  rw [hBS, hTS] at hS7
  have hbl : BS.length ≤ 18010 := by
    rw [← hBS]
    have := hl4.out
    have := HS5.out.2.1
    have := HS6.out.2.1
    have := HS7.out.2.1
    simp only [List.length_append]
    omega
  have hgood : ∀ {i : Nat} {t : Ty}, TS[i]? = some t → t.Valid := fun h => (hS7.are.good _ (List.mem_of_getElem? h)).1
  have hcP := CV.of (hgood hP3)
  have hcQ := CV.of (hgood hQ3)
  have hcR := CV.of (hgood hR3)
  have HT := Lib.hid (And.intro hS7 (And.intro hbl (And.intro hP3 (And.intro hQ3 (And.intro hR3 (And.intro hP2 (And.intro hQ2 (And.intro hR2 (And.intro hcP (And.intro hcQ hcR))))))))))
  clear hS7 hbl hP3 hQ3 hR3 hP2 hQ2 hR2 hcP hcQ hcR hgood hP1 hQ1 hR1 hBS hTS HS4 HS5 HS6 HS7 hTX hTY hTZ hLX hLY hLZ HX HY HZ
  go_wp2_with fail
  refine (union_sta HT.out.1 [p, q, r] [P, Q, R] 181 _ _ (by simp only [List.map_cons, List.map_nil, HT.out.2.2.1, HT.out.2.2.2.1, HT.out.2.2.2.2.1]) (by have := HT.out; simp only [sumN, List.map_cons, List.map_nil, List.sum_cons, List.sum_nil]; omega) (by decide) (by have := HT.out.2.1; omega) rfl _).mono ?_
  rintro e w8 ⟨i8, bs8, ts8, tv8, mv8, X8, rfl, hS8, hl8, hx8, hv8, hc8, hn8⟩
  have H8 := Lib.hid (And.intro hS8 (And.intro hl8 (And.intro hx8 (And.intro hv8 (And.intro hc8 hn8)))))
  clear hS8 hl8 hx8 hv8 hc8 hn8
  go_wp2_with fail
  refine (union_sta H8.out.1 [r, p, q, p] [R, P, Q, P] 241 _ _ (by simp only [List.map_cons, List.map_nil, more HT.out.2.2.1, more HT.out.2.2.2.1, more HT.out.2.2.2.2.1]) (by have := HT.out; simp only [sumN, List.map_cons, List.map_nil, List.sum_cons, List.sum_nil]; omega) (by decide) (by have := HT.out.2.1; have := H8.out.2.1; rw [List.length_append]; omega) rfl _).mono ?_
  rintro e w9 ⟨i9, bs9, ts9, tv9, mv9, X9, rfl, hS9, hl9, hx9, hv9, hc9, hn9⟩
  have H9 := Lib.hid (And.intro hS9 (And.intro hl9 (And.intro hx9 (And.intro hv9 (And.intro hc9 hn9)))))
  clear hS9 hl9 hx9 hv9 hc9 hn9
  go_wp2_with fail
  refine (union_sta H9.out.1 [p, q] [P, Q] 121 _ _ (by simp only [List.map_cons, List.map_nil, more (more HT.out.2.2.1), more (more HT.out.2.2.2.1)]) (by have := HT.out; simp only [sumN, List.map_cons, List.map_nil, List.sum_cons, List.sum_nil]; omega) (by decide) (by have := HT.out.2.1; have := H8.out.2.1; have := H9.out.2.1; simp only [List.length_append]; omega) rfl _).mono ?_
  rintro e wA ⟨iA, bsA, tsA, tvA, mvA, XA, rfl, hSA, hlA, hxA, hvA, hcA, hnA⟩
  have HA := Lib.hid (And.intro hSA (And.intro hlA (And.intro hxA (And.intro hvA (And.intro hcA hnA)))))
  clear hSA hlA hxA hvA hcA hnA
  go_wp2_with fail
  refine (union_sta HA.out.1 [r, iA] [R, XA] 182 _ _ (by simp only [List.map_cons, List.map_nil, more (more (more HT.out.2.2.2.2.1)), HA.out.2.2.1]) (by have := HT.out; have := HA.out; simp only [sumN, List.map_cons, List.map_nil, List.sum_cons, List.sum_nil]; omega) (by decide) (by have := HT.out.2.1; have := H8.out.2.1; have := H9.out.2.1; have := HA.out.2.1; simp only [List.length_append]; omega) rfl _).mono ?_
  rintro e wB ⟨iB, bsB, tsB, tvB, mvB, XB, rfl, hSB, hlB, hxB, hvB, hcB, hnB⟩
  have h89 : Hid (i8 = i9) := hSB.same (more (more (more H8.out.2.2.1))) (more (more H9.out.2.2.1)) (by rw [H8.out.2.2.2.2.1, H9.out.2.2.2.2.1]; exact (union_other HT.out.2.2.2.2.2.2.2.2.1 HT.out.2.2.2.2.2.2.2.2.2.1 HT.out.2.2.2.2.2.2.2.2.2.2).symm)
  have h8B : Hid (i8 = iB) := hSB.same (more (more (more H8.out.2.2.1))) hxB (by rw [H8.out.2.2.2.2.1, hcB]; simp only [List.map_cons, List.map_nil]; rw [HA.out.2.2.2.2.1]; exact (union_both HT.out.2.2.2.2.2.2.2.2.1 HT.out.2.2.2.2.2.2.2.2.2.1 HT.out.2.2.2.2.2.2.2.2.2.2).symm)
  have HUB : Hid (Up w wB) := Up.trans HU3.out hSB.up
  clear hSB hlB hxB hvB hcB hnB
  have e9 : decide ((i8 : Int) = (i9 : Int)) = true := by have := h89.out; simp; omega
  have eB : decide ((i8 : Int) = (iB : Int)) = true := by have := h8B.out; simp; omega
  go_wp2_with (first | (go_at_call 5; refine (known_any _).mono ?_; rintro e wk ⟨rfl, huk⟩))
  all_goals go_ret
  all_goals first
    | exact ⟨rfl, Up.trans HUB.out uq⟩
    | (exfalso; have h1 := h89.out; have h2 := h8B.out; simp_all; done)
    | (exfalso; have h1 := h89.out; have h2 := h8B.out; omega)

end Go.Proofs.YtbghpkoimbmijaaDoor

/- What the tables of the start hold. -/
namespace Go.Proofs.YtbghpkoimbmijaaDoor
open Go.ChangeShapes Go.WideShapes Go.ChangeAt Go.RowKit
set_option linter.unusedVariables false
set_option maxRecDepth 100000

theorem tab_of {W : World} (h : laidMetH Tryd.prog Rows.kindsUnionsUptoRow.laid W) : Tab W := by
  have h1 := (laidMetH_iff.1 h).1
  have h2 := h1.filter (fun x => x.1 == "internal/strconv.uint64pow10")
  exact Lib.tabIs_of_head (g := 0) (rest := []) (by kernel_rfl) (by kernel_rfl) Tryd.underlying133 Tryd.underlying122 (by kernel_rfl) (by kernel_rfl) (show laidMet Tryd.prog [("internal/strconv.uint64pow10", Lib.tabData .u64 Lib.pow10Tab)] W from h2)
def bruTab : List Int := [0, 1, 56, 2, 57, 49, 28, 3, 61, 58, 42, 50, 38, 29, 17, 4, 62, 47, 59, 36, 45, 43, 51, 22, 53, 39, 33, 30, 24, 18, 12, 5, 63, 55, 48, 27, 60, 41, 37, 16, 46, 35, 44, 21, 52, 32, 23, 11, 54, 26, 40, 15, 34, 20, 31, 10, 25, 14, 19, 9, 13, 8, 7, 6]
theorem bru_of {W : World} (h : laidMetH Tryd.prog Rows.kindsUnionsUptoRow.laid W) : Bru W := by
  have h1 := (laidMetH_iff.1 h).1
  have h2 := h1.filter (fun x => x.1 == "math/bits.deBruijn64tab")
  have h3 : Lib.TabIs Tryd.prog W "math/bits.deBruijn64tab" .u8 bruTab := Lib.tabIs_of_head (g := 3) (rest := []) (by kernel_rfl) (by kernel_rfl) Tryd.underlying141 Tryd.underlying5 (by kernel_rfl) (by kernel_rfl) (show laidMet Tryd.prog [("math/bits.deBruijn64tab", Lib.tabData .u8 bruTab)] W from h2)
  exact h3.cell (g := 3) (by kernel_rfl) 15 (by decide)

theorem plain_of {cs : Array Value} {T : TypeId} {f : Nat × Nat} (h1 : T ≠ TyT) (h2 : T ≠ TpT) : Plain (.cells cs T f) := fun cs' f' =>
  ⟨fun e => by injection e with _ e _; exact h1 e, fun e => by injection e with _ e _; exact h2 e⟩
theorem glob_of {W : World} (h : laidMetH Tryd.prog Rows.kindsUnionsUptoRow.laid W) (hs : W.ShapedOpen Tryd.prog) : GlobB W.heap.size W := by
  have ht := tab_of h
  have hb := bru_of h
  obtain ⟨cs0, h0, _, _⟩ := hs.1 0 (List.replicate 20 (Value.int .u64 0)).toArray 133 (of_decide_eq_true (by kernel_rfl)) (by kernel_rfl)
  obtain ⟨cs3, h3, _, _⟩ := hs.1 3 (List.replicate 64 (Value.int .u8 0)).toArray 141 (of_decide_eq_true (by kernel_rfl)) (by kernel_rfl)
  intro w1 k1 w2 k2
  have p0 : w2.heap[(0 : Nat)]? = W.heap[(0 : Nat)]? := (k2 _ _ (k1 _ _ (lt_of_heap h0) h0) (plain_of (by decide) (by decide))).trans h0.symm
  have p3 : w2.heap[(3 : Nat)]? = W.heap[(3 : Nat)]? := (k2 _ _ (k1 _ _ (lt_of_heap h3) h3) (plain_of (by decide) (by decide))).trans h3.symm
  refine ⟨?_, ?_⟩
  · unfold Tab Lib.TabIs World.var? at ht ⊢
    rw [show Tryd.prog.globalNamed "internal/strconv.uint64pow10" = some 0 by kernel_rfl] at ht ⊢
    simp only [Option.bind_some] at ht ⊢
    rw [p0]
    exact ht
  · unfold Bru World.cell? at hb ⊢
    simp only at hb ⊢
    rw [p3]
    exact hb

theorem max_of {W : World} (hs : W.ShapedOpen Tryd.prog) : ∃ m, W.cell? ⟨1, 0, none⟩ = some (.int .i64 m) := by
  obtain ⟨cs, hh, hz, hr⟩ := hs.1 1 #[.int .i64 0] 3 (of_decide_eq_true (by kernel_rfl)) (by kernel_rfl)
  obtain ⟨ts, hts, _, hall⟩ := hr (by kernel_rfl)
  rw [show Tryd.prog.cellTypes Tryd.prog.depth 3 = some [3] by kernel_rfl] at hts
  cases hts
  have h1 : 0 < cs.size := by rw [hz]; decide
  obtain ⟨u, hu', hok⟩ := hall 0 cs[0] (by simp [h1])
  have : u = 3 := by simpa using hu'.symm
  subst this
  have hcell : W.cell? ⟨1, 0, none⟩ = some cs[0] := by simp [World.cell?, hh, h1]
  rw [hcell]
  unfold Cell.ok at hok
  rw [Tryd.underlying3] at hok
  cases hv : cs[0] with
  | int k n =>
    rw [hv] at hok
    simp only at hok
    rw [hok.1]
    exact ⟨_, rfl⟩
  | _ => rw [hv] at hok; simp at hok

end Go.Proofs.YtbghpkoimbmijaaDoor
