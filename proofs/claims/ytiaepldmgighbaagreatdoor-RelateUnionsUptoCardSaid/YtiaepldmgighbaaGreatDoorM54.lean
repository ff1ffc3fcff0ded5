/- RelateUnions: for every three types (of bulk at most 1048576 together) the law answers true: of types without any, enums, void, marks and references a union is taken just if both are, and each is taken for the union; its tied card, of the second form. -/
import Derived.Clock
import Derived.Test.YtiaepldmgighbaaGreatDoorM43
import Derived.Test.YtiaepldmgighbaaGreatDoorM47
import Derived.Test.YtiaepldmgighbaaGreatDoorM50
import Derived.Test.YtiaepldmgighbaaGreatDoorM51
namespace Go.Proofs.YtiaepldmgighbaaGreatDoor
open Go.RowKit
set_option linter.unusedSimpArgs false
set_option linter.unusedVariables false
theorem bool_three {a b c : Bool} (h : a = true ↔ b = true ∧ c = true) : (b = false ∧ a = false) ∨ (b = true ∧ c = false ∧ a = false) ∨ (b = true ∧ c = true ∧ a = true) := by
 cases a <;> cases b <;> cases c <;> simp_all
set_option maxRecDepth 100000 in
set_option maxHeartbeats 12800000 in
theorem relunions_any (xs ys zs : List Value) (x y z : Ty) (m : Int) (w : World) (hx : TIs w.heap.size w xs x) (hy : TIs w.heap.size w ys y) (hz : TIs w.heap.size w zs z) (hxn : x.nodes ≤ 2000000) (hyn : y.nodes ≤ 2000000) (hzn : z.nodes ≤ 2000000)
   (hg : GlobB w.heap.size w) (hm : w.cell? ⟨0, 0, none⟩ = some (.int .i64 m)) :
   Calls Tryz.prog 5 #[.agg xs.toArray, .agg ys.toArray, .agg zs.toArray] w fun e w' => e = .returned (.bool true) ∧ Up w w' := by
 obtain ⟨x0, x1, x2, x3, x4, x5, rfl⟩ := hx.six
 obtain ⟨y0, y1, y2, y3, y4, y5, rfl⟩ := hy.six
 obtain ⟨z0, z1, z2, z3, z4, z5, rfl⟩ := hz.six
 have HX := Lib.hid (And.intro hx hxn)
 have HY := Lib.hid (And.intro hy hyn)
 have HZ := Lib.hid (And.intro hz hzn)
 have HG := Lib.hid (And.intro hg hm)
 have hLX := Lib.hid (fun W (hW : Up w W) => large_any w.heap.size x _ W (HX.out.1.low (hW.below (Nat.le_refl _))) hW.size HX.out.2)
 have hLY := Lib.hid (fun W (hW : Up w W) => large_any w.heap.size y _ W (HY.out.1.low (hW.below (Nat.le_refl _))) hW.size HY.out.2)
 have hLZ := Lib.hid (fun W (hW : Up w W) => large_any w.heap.size z _ W (HZ.out.1.low (hW.below (Nat.le_refl _))) hW.size HZ.out.2)
 have hFX := Lib.hid (fun W (hW : Up w W) => free_law w.heap.size _ x _ W (Nat.le_refl _) (HX.out.1.low (hW.below (Nat.le_refl _))) hW.size)
 have hFY := Lib.hid (fun W (hW : Up w W) => free_law w.heap.size _ y _ W (Nat.le_refl _) (HY.out.1.low (hW.below (Nat.le_refl _))) hW.size)
 have hFZ := Lib.hid (fun W (hW : Up w W) => free_law w.heap.size _ z _ W (Nat.le_refl _) (HZ.out.1.low (hW.below (Nat.le_refl _))) hW.size)
 clear hx hy hz hxn hyn hzn hg hm
 go_enter Tryz.func5, Tryz.ntmps5
 go_upto_region 1 with (fail)
 refine range_named fun A0 W0 hA0 hW0 => ?_
 have hu0 : Hid (Up w W0) := by subst hW0; exact uq
 obtain ⟨qx, hqx⟩ : ∃ q, Hid (w.heap.size = q) := ⟨_, rfl⟩
 obtain ⟨qy, hqy⟩ : ∃ q, Hid (w.heap.size + 1 = q) := ⟨_, rfl⟩
 obtain ⟨qz, hqz⟩ : ∃ q, Hid (w.heap.size + 1 + 1 = q) := ⟨_, rfl⟩
 have HQX : Hid (W0.heap[qx]? = some (.cells #[x0, x1, x2, x3, x4, x5] RefT (0, 0))) := by subst hW0; rw [← hqx.out, alloc_old _ _ _ (by simp only [World.size_alloc]; omega), alloc_old _ _ _ (by simp only [World.size_alloc]; omega)]; exact alloc_at _ _ _ rfl
 have HQY : Hid (W0.heap[qy]? = some (.cells #[y0, y1, y2, y3, y4, y5] RefT (0, 0))) := by subst hW0; rw [← hqy.out, alloc_old _ _ _ (by simp only [World.size_alloc]; omega)]; exact alloc_at _ _ _ (by simp only [World.size_alloc])
 have HQZ : Hid (W0.heap[qz]? = some (.cells #[z0, z1, z2, z3, z4, z5] RefT (0, 0))) := by subst hW0; rw [← hqz.out]; exact alloc_at _ _ _ (by simp only [World.size_alloc])
 rw [hqz.out, hqy.out, hqx.out] at hA0
 clear hW0
 subst hA0
 have s := HQX.out; have q0 := cell_of s 0; have p0 := ice_of s 0; have q1 := cell_of s 1; have p1 := ice_of s 1; have q2 := cell_of s 2; have p2 := ice_of s 2; have q3 := cell_of s 3; have p3 := ice_of s 3; have q4 := cell_of s 4; have p4 := ice_of s 4; have q5 := cell_of s 5; have p5 := ice_of s 5; have q9 := lt_of_heap s; (try simp only [World.size_alloc, List.getElem?_toArray, List.getElem?_cons_zero, List.getElem?_cons_succ] at q0 q1 q2 q3 q4 q5 p0 p1 p2 p3 p4 p5 q9); clear s
 go_wp2_with fail
 refine (hLX.out W0 hu0.out).mono ?_
 rintro e w1 ⟨b1, rfl, hb1, hu1⟩
 have HB1 := Lib.hid hb1
 clear hb1
 cases b1
 rotate_left
 · go_wp2_with (first | (go_at_call 20; refine (known_any _).mono ?_; rintro e wk ⟨rfl, huk⟩))
   go_ret
   exact ⟨rfl, hu0.out.trans (show Up W0 _ from uq)⟩
 have s := Up.get (w := W0) (w' := w1) uq HQY.out; have q0 := cell_of s 0; have p0 := ice_of s 0; have q1 := cell_of s 1; have p1 := ice_of s 1; have q2 := cell_of s 2; have p2 := ice_of s 2; have q3 := cell_of s 3; have p3 := ice_of s 3; have q4 := cell_of s 4; have p4 := ice_of s 4; have q5 := cell_of s 5; have p5 := ice_of s 5; have q9 := lt_of_heap s; (try simp only [World.size_alloc, List.getElem?_toArray, List.getElem?_cons_zero, List.getElem?_cons_succ] at q0 q1 q2 q3 q4 q5 p0 p1 p2 p3 p4 p5 q9); clear s
 go_wp2_with fail
 refine (hLY.out _ (hu0.out.trans (show Up W0 _ from uq))).mono ?_
 rintro e w2 ⟨b2, rfl, hb2, hu2⟩
 have HB2 := Lib.hid hb2
 clear hb2
 cases b2
 rotate_left
 · go_wp2_with (first | (go_at_call 20; refine (known_any _).mono ?_; rintro e wk ⟨rfl, huk⟩))
   go_ret
   exact ⟨rfl, hu0.out.trans (show Up W0 _ from uq)⟩
 have s := Up.get (w := W0) (w' := w2) uq HQZ.out; have q0 := cell_of s 0; have p0 := ice_of s 0; have q1 := cell_of s 1; have p1 := ice_of s 1; have q2 := cell_of s 2; have p2 := ice_of s 2; have q3 := cell_of s 3; have p3 := ice_of s 3; have q4 := cell_of s 4; have p4 := ice_of s 4; have q5 := cell_of s 5; have p5 := ice_of s 5; have q9 := lt_of_heap s; (try simp only [World.size_alloc, List.getElem?_toArray, List.getElem?_cons_zero, List.getElem?_cons_succ] at q0 q1 q2 q3 q4 q5 p0 p1 p2 p3 p4 p5 q9); clear s
 go_wp2_with fail
 refine (hLZ.out _ (hu0.out.trans (show Up W0 _ from uq))).mono ?_
 rintro e w3 ⟨b3, rfl, hb3, hu3⟩
 have HB3 := Lib.hid hb3
 clear hb3
 cases b3
 rotate_left
 · go_wp2_with (first | (go_at_call 20; refine (known_any _).mono ?_; rintro e wk ⟨rfl, huk⟩))
   go_ret
   exact ⟨rfl, hu0.out.trans (show Up W0 _ from uq)⟩
 have HW0 : Hid (Up W0 w3) := Up.trans (Up.trans hu1 hu2) hu3
 clear hu1 hu2 hu3
 have s := Up.get (w := W0) (w' := w3) (HW0.out.trans (show Up w3 _ from uq)) HQX.out; have q0 := cell_of s 0; have p0 := ice_of s 0; have q1 := cell_of s 1; have p1 := ice_of s 1; have q2 := cell_of s 2; have p2 := ice_of s 2; have q3 := cell_of s 3; have p3 := ice_of s 3; have q4 := cell_of s 4; have p4 := ice_of s 4; have q5 := cell_of s 5; have p5 := ice_of s 5; have q9 := lt_of_heap s; (try simp only [World.size_alloc, List.getElem?_toArray, List.getElem?_cons_zero, List.getElem?_cons_succ] at q0 q1 q2 q3 q4 q5 p0 p1 p2 p3 p4 p5 q9); clear s
 go_wp2_with fail
 refine (hFX.out _ (hu0.out.trans (HW0.out.trans (show Up w3 _ from uq)))).mono ?_
 rintro e wf ⟨bf, rfl, hbf, huf⟩
 have HBf := Lib.hid hbf
 clear hbf
 cases bf
 · go_wp2_with (first | (go_at_call 20; refine (known_any _).mono ?_; rintro e wk ⟨rfl, huk⟩))
   all_goals go_ret
   all_goals exact ⟨rfl, hu0.out.trans (HW0.out.trans (show Up w3 _ from uq))⟩
 have s := Up.get (w := W0) (w' := wf) (HW0.out.trans (show Up w3 _ from uq)) HQY.out; have q0 := cell_of s 0; have p0 := ice_of s 0; have q1 := cell_of s 1; have p1 := ice_of s 1; have q2 := cell_of s 2; have p2 := ice_of s 2; have q3 := cell_of s 3; have p3 := ice_of s 3; have q4 := cell_of s 4; have p4 := ice_of s 4; have q5 := cell_of s 5; have p5 := ice_of s 5; have q9 := lt_of_heap s; (try simp only [World.size_alloc, List.getElem?_toArray, List.getElem?_cons_zero, List.getElem?_cons_succ] at q0 q1 q2 q3 q4 q5 p0 p1 p2 p3 p4 p5 q9); clear s
 go_wp2_with fail
 refine (hFY.out _ (hu0.out.trans (HW0.out.trans (show Up w3 _ from uq)))).mono ?_
 rintro e wg ⟨bg, rfl, hbg, hug⟩
 have HBg := Lib.hid hbg
 clear hbg
 cases bg
 · go_wp2_with (first | (go_at_call 20; refine (known_any _).mono ?_; rintro e wk ⟨rfl, huk⟩))
   all_goals go_ret
   all_goals exact ⟨rfl, hu0.out.trans (HW0.out.trans (show Up w3 _ from uq))⟩
 have s := Up.get (w := W0) (w' := wg) (HW0.out.trans (show Up w3 _ from uq)) HQZ.out; have q0 := cell_of s 0; have p0 := ice_of s 0; have q1 := cell_of s 1; have p1 := ice_of s 1; have q2 := cell_of s 2; have p2 := ice_of s 2; have q3 := cell_of s 3; have p3 := ice_of s 3; have q4 := cell_of s 4; have p4 := ice_of s 4; have q5 := cell_of s 5; have p5 := ice_of s 5; have q9 := lt_of_heap s; (try simp only [World.size_alloc, List.getElem?_toArray, List.getElem?_cons_zero, List.getElem?_cons_succ] at q0 q1 q2 q3 q4 q5 p0 p1 p2 p3 p4 p5 q9); clear s
 go_wp2_with fail
 refine (hFZ.out _ (hu0.out.trans (HW0.out.trans (show Up w3 _ from uq)))).mono ?_
 rintro e wh ⟨bh, rfl, hbh, huh⟩
 have HBh := Lib.hid hbh
 clear hbh
 cases bh
 · go_wp2_with (first | (go_at_call 20; refine (known_any _).mono ?_; rintro e wk ⟨rfl, huk⟩))
   all_goals go_ret
   all_goals exact ⟨rfl, hu0.out.trans (HW0.out.trans (show Up w3 _ from uq))⟩
 have HFR : Hid (Free x ∧ Free y ∧ Free z) := ⟨HBf.out (by first | rfl | trivial), HBg.out (by first | rfl | trivial), HBh.out (by first | rfl | trivial)⟩
 have HW3 : Hid (Up W0 wh) := HW0.out.trans (show Up w3 _ from uq)
 have HU3 : Hid (Up w wh) := hu0.out.trans HW3.out
 clear huf hug huh HBf HBg HBh HW0 hFX hFY hFZ
 go_wp2_with fail
 refine (New_any wh).mono ?_
 rintro e w4 ⟨A, bs, g, tv, rfl, hf, hu4⟩
 have hS4 : Sta wh w4 A bs tenT tv (.map (some g)) := Sta.new hf hu4 ((HG.out.1.memo (Memo.of_up none1 _ HU3.out)).mono HU3.out.size)
 have hTX : Hid (TIs wh.heap.size wh [x0, x1, x2, x3, x4, x5] x) := (HX.out.1.low (HU3.out.below (Nat.le_refl _))).mono HU3.out.size
 have hTY : Hid (TIs wh.heap.size wh [y0, y1, y2, y3, y4, y5] y) := (HY.out.1.low (HU3.out.below (Nat.le_refl _))).mono HU3.out.size
 have hTZ : Hid (TIs wh.heap.size wh [z0, z1, z2, z3, z4, z5] z) := (HZ.out.1.low (HU3.out.below (Nat.le_refl _))).mono HU3.out.size
 have hM3 : Hid (wh.cell? ⟨0, 0, none⟩ = some (.int .i64 m)) := (HU3.out.cells _ _ (cell_lt5 HG.out.2)).trans HG.out.2
 have hl4 : Hid (bs.length = 10) := hf.len
 have HS4 := Lib.hid hS4
 have s := (HW3.out.trans hS4.up).get HQX.out; have q0 := cell_of s 0; have p0 := ice_of s 0; have q1 := cell_of s 1; have p1 := ice_of s 1; have q2 := cell_of s 2; have p2 := ice_of s 2; have q3 := cell_of s 3; have p3 := ice_of s 3; have q4 := cell_of s 4; have p4 := ice_of s 4; have q5 := cell_of s 5; have p5 := ice_of s 5; have q9 := lt_of_heap s; (try simp only [World.size_alloc, List.getElem?_toArray, List.getElem?_cons_zero, List.getElem?_cons_succ] at q0 q1 q2 q3 q4 q5 p0 p1 p2 p3 p4 p5 q9); clear s
 clear hS4 hf
 go_wp2_with fail
 refine (laid_sta (HS4.out.later uq) hTX.out hM3.out (HB1.out (by first | rfl | trivial)) (by have := hl4.out; omega)).mono ?_
 rintro e w5 ⟨p, ok5, bs5, ts5, tv5, mv5, rfl, hS5, hl5, hx5⟩
 have HS5 := Lib.hid (And.intro hS5 (And.intro hl5 hx5))
 have s := (HW3.out.trans hS5.up).get HQY.out; have q0 := cell_of s 0; have p0 := ice_of s 0; have q1 := cell_of s 1; have p1 := ice_of s 1; have q2 := cell_of s 2; have p2 := ice_of s 2; have q3 := cell_of s 3; have p3 := ice_of s 3; have q4 := cell_of s 4; have p4 := ice_of s 4; have q5 := cell_of s 5; have p5 := ice_of s 5; have q9 := lt_of_heap s; (try simp only [World.size_alloc, List.getElem?_toArray, List.getElem?_cons_zero, List.getElem?_cons_succ] at q0 q1 q2 q3 q4 q5 p0 p1 p2 p3 p4 p5 q9); clear s
 clear hS5 hl5 hx5
 go_wp2_with fail
 refine (laid_sta (HS5.out.1.later uq) hTY.out hM3.out (HB2.out (by first | rfl | trivial)) (by have := hl4.out; have := HS5.out.2.1; rw [List.length_append]; omega)).mono ?_
 rintro e w6 ⟨q, ok6, bs6, ts6, tv6, mv6, rfl, hS6, hl6, hx6⟩
 have HS6 := Lib.hid (And.intro hS6 (And.intro hl6 hx6))
 have s := (HW3.out.trans hS6.up).get HQZ.out; have q0 := cell_of s 0; have p0 := ice_of s 0; have q1 := cell_of s 1; have p1 := ice_of s 1; have q2 := cell_of s 2; have p2 := ice_of s 2; have q3 := cell_of s 3; have p3 := ice_of s 3; have q4 := cell_of s 4; have p4 := ice_of s 4; have q5 := cell_of s 5; have p5 := ice_of s 5; have q9 := lt_of_heap s; (try simp only [World.size_alloc, List.getElem?_toArray, List.getElem?_cons_zero, List.getElem?_cons_succ] at q0 q1 q2 q3 q4 q5 p0 p1 p2 p3 p4 p5 q9); clear s
 clear hS6 hl6 hx6
 go_wp2_with fail
 refine (laid_sta (HS6.out.1.later uq) hTZ.out hM3.out (HB3.out (by first | rfl | trivial)) (by have := hl4.out; have := HS5.out.2.1; have := HS6.out.2.1; rw [List.length_append, List.length_append]; omega)).mono ?_
 rintro e w7 ⟨r, ok7, bs7, ts7, tv7, mv7, rfl, hS7, hl7, hx7⟩
 have HS7 := Lib.hid (And.intro hS7 (And.intro hl7 hx7))
 have HU7 : Hid (Up w w7) := Up.trans HU3.out hS7.up
 clear hS7 hl7 hx7 hu4
 cases ok5
 · go_wp2_with (first | (go_at_call 20; refine (known_any _).mono ?_; rintro e wk ⟨rfl, huk⟩))
   go_ret
   exact ⟨rfl, Up.trans HU7.out uq⟩
 cases ok6
 · go_wp2_with (first | (go_at_call 20; refine (known_any _).mono ?_; rintro e wk ⟨rfl, huk⟩))
   go_ret
   exact ⟨rfl, Up.trans HU7.out uq⟩
 cases ok7
 · go_wp2_with (first | (go_at_call 20; refine (known_any _).mono ?_; rintro e wk ⟨rfl, huk⟩))
   go_ret
   exact ⟨rfl, Up.trans HU7.out uq⟩
 obtain ⟨P, hP1, hP2, _, hP5⟩ := HS5.out.2.2 (by first | rfl | trivial)
 obtain ⟨Q, hQ1, hQ2, _, hQ5⟩ := HS6.out.2.2 (by first | rfl | trivial)
 obtain ⟨R, hR1, hR2, _, hR5⟩ := HS7.out.2.2 (by first | rfl | trivial)
 obtain ⟨BS, hBS⟩ : ∃ BS, bs ++ bs5 ++ bs6 ++ bs7 = BS := ⟨_, rfl⟩
 obtain ⟨TS, hTS⟩ : ∃ TS, tenT ++ ts5 ++ ts6 ++ ts7 = TS := ⟨_, rfl⟩
 have hP3 : TS[p]? = some P := by rw [← hTS]; exact more (more hP1)
 have hQ3 : TS[q]? = some Q := by rw [← hTS]; exact more hQ1
 have hR3 : TS[r]? = some R := by rw [← hTS]; exact hR1
 have hS7 := HS7.out.1
 rw [hBS, hTS] at hS7
 have hbl : BS.length ≤ 18010 := by
   rw [← hBS]
   have := hl4.out
   have := HS5.out.2.1
   have := HS6.out.2.1
   have := HS7.out.2.1
   simp only [List.length_append]
   omega
 have hFC : ∀ {i : Nat} {T t : Ty}, TS[i]? = some T → T.canon = normC t → Free t → FC T.canon := fun h1 h2 h3 => ⟨CV.of (hS7.are.good _ (List.mem_of_getElem? h1)).1, by rw [h2]; exact h3.norm⟩
 have hcP := hFC hP3 hP5 HFR.out.1
 have hcQ := hFC hQ3 hQ5 HFR.out.2.1
 have hcR := hFC hR3 hR5 HFR.out.2.2
 have hfc : ∀ t ∈ [P.canon, Q.canon], FC t := fun t ht => by
   simp only [List.mem_cons, List.not_mem_nil, or_false] at ht
   rcases ht with rfl | rfl <;> assumption
 have hin : Hid (Sub P.canon (unionC [P.canon, Q.canon])) := sub_union_in hfc (by simp)
 have hiff : Hid (Sub (unionC [P.canon, Q.canon]) R.canon ↔ Sub P.canon R.canon ∧ Sub Q.canon R.canon) := by
   have h := sub_union_iff hfc hcR
   simp only [List.mem_cons, List.not_mem_nil, or_false, forall_eq_or_imp, forall_eq] at h
   exact h
 have HT := Lib.hid (And.intro hS7 (And.intro hbl (And.intro hP3 (And.intro hQ3 (And.intro hR3 (And.intro hP2 hQ2))))))
 clear hS7 hbl hP3 hQ3 hR3 hP1 hQ1 hR1 hP2 hQ2 hR2 hP5 hQ5 hR5 hFC hBS hTS HS4 HS5 HS6 HS7 hTX hTY hTZ hLX hLY hLZ HX HY HZ hcP hcQ hcR hfc HFR
 go_wp2_with fail
 refine (union_sta HT.out.1 [p, q] [P, Q] 121 _ _ (by simp only [List.map_cons, List.map_nil, HT.out.2.2.1, HT.out.2.2.2.1]) (by have := HT.out; simp only [sumN, List.map_cons, List.map_nil, List.sum_cons, List.sum_nil]; omega) (by decide) (by have := HT.out.2.1; omega) rfl _).mono ?_
 rintro e w8 ⟨i8, bs8, ts8, tv8, mv8, X8, rfl, hS8, hl8, hx8, hv8, hc8, hn8⟩
 have H8 := Lib.hid (And.intro hS8 (And.intro hl8 (And.intro hx8 hc8)))
 have HS8 := Lib.hid hS8
 clear hS8 hl8 hx8 hv8 hc8 hn8
 have hb8 : Hid ((BS ++ bs8).length ≤ 1000000) := by have := HT.out.2.1; have := H8.out.2.1; unfold Hid; simp only [List.length_append]; omega
 have HP := Lib.hid (And.intro (more (r := ts8) HT.out.2.2.1) (And.intro (more (r := ts8) HT.out.2.2.2.1) (more (r := ts8) HT.out.2.2.2.2.1)))
 go_wp2_with fail
 refine (assign_sta (HS8.out.later (show Up w8 _ from uq)) hb8.out (H8.out.2.2.1) (HP.out.2.2)).mono ?_
 rintro e w9 ⟨all, f9, rfl, hS9, hq9⟩
 have HS9 := Lib.hid hS9
 have HQ9 := Lib.hid hq9
 clear hS9 hq9
 go_wp2_with fail
 refine (assign_sta (HS9.out.later (show Up w9 _ from uq)) hb8.out (HP.out.1) (HP.out.2.2)).mono ?_
 rintro e wA ⟨one, fA, rfl, hSA, hqA⟩
 have HSA := Lib.hid hSA
 have HQA := Lib.hid hqA
 clear hSA hqA
 go_wp2_with fail
 refine (assign_sta (HSA.out.later (show Up wA _ from uq)) hb8.out (HP.out.2.1) (HP.out.2.2)).mono ?_
 rintro e wB ⟨two, fB, rfl, hSB, hqB⟩
 have HSB := Lib.hid hSB
 have HQB := Lib.hid hqB
 clear hSB hqB
 go_wp2_with fail
 refine (assign_sta (HSB.out.later (show Up wB _ from uq)) hb8.out (HP.out.1) (H8.out.2.2.1)).mono ?_
 rintro e wC ⟨inn, fC, rfl, hSC, hqC⟩
 have HSC := Lib.hid hSC
 have HQC := Lib.hid hqC
 clear hSC hqC
 have HUC : Hid (Up w wC) := Up.trans HU3.out HSC.out.up
 rcases HQ9.out with ⟨rfl, hs9⟩ | ⟨rfl, rfl⟩
 rotate_left
 · go_wp2_with (first | (go_at_call 20; refine (known_any _).mono ?_; rintro e wk ⟨rfl, huk⟩))
   all_goals go_ret
   all_goals exact ⟨rfl, HUC.out.trans (show Up wC _ from uq)⟩
 rcases HQA.out with ⟨rfl, hsA⟩ | ⟨rfl, rfl⟩
 rotate_left
 · go_wp2_with (first | (go_at_call 20; refine (known_any _).mono ?_; rintro e wk ⟨rfl, huk⟩))
   all_goals go_ret
   all_goals exact ⟨rfl, HUC.out.trans (show Up wC _ from uq)⟩
 rcases HQB.out with ⟨rfl, hsB⟩ | ⟨rfl, rfl⟩
 rotate_left
 · go_wp2_with (first | (go_at_call 20; refine (known_any _).mono ?_; rintro e wk ⟨rfl, huk⟩))
   all_goals go_ret
   all_goals exact ⟨rfl, HUC.out.trans (show Up wC _ from uq)⟩
 rcases HQC.out with ⟨rfl, hsC⟩ | ⟨rfl, rfl⟩
 rotate_left
 · go_wp2_with (first | (go_at_call 20; refine (known_any _).mono ?_; rintro e wk ⟨rfl, huk⟩))
   all_goals go_ret
   all_goals exact ⟨rfl, HUC.out.trans (show Up wC _ from uq)⟩
 have hinn : inn = true := hsC.2 (by rw [H8.out.2.2.2]; exact hin.out)
 subst hinn
 have hfin : (all = true ↔ one = true ∧ two = true) := by rw [hs9, hsA, hsB, H8.out.2.2.2]; exact hiff.out
 have hall := bool_three hfin
 clear hfin hs9 hsA hsB hsC HQ9 HQA HQB HQC hin hiff
 rcases hall with ⟨rfl, rfl⟩ | ⟨rfl, rfl, rfl⟩ | ⟨rfl, rfl, rfl⟩
 all_goals go_wp2_with (first | (go_at_call 20; refine (known_any _).mono ?_; rintro e wk ⟨rfl, huk⟩))
 all_goals go_ret
 all_goals exact ⟨rfl, HUC.out.trans (show Up wC _ from uq)⟩
open Go.ChangeAt Go.ChangeShapes Go.WideShapes
set_option maxRecDepth 100000
theorem tab_of {W : World} (h : laidMetH Tryz.prog Rows.relateUnionsUptoRow.laid W) : Tab W := by
 have h1 := (laidMetH_iff.1 h).1
 have h2 := h1.filter (fun x => x.1 == "internal/strconv.uint64pow10")
 exact Lib.tabIs_of_head (g := 1) (rest := []) (by kernel_rfl) (by kernel_rfl) Tryz.underlying278 Tryz.underlying268 (by kernel_rfl) (by kernel_rfl) (show laidMet Tryz.prog [("internal/strconv.uint64pow10", Lib.tabData .u64 Lib.pow10Tab)] W from h2)
def bruTab : List Int := [0, 1, 56, 2, 57, 49, 28, 3, 61, 58, 42, 50, 38, 29, 17, 4, 62, 47, 59, 36, 45, 43, 51, 22, 53, 39, 33, 30, 24, 18, 12, 5, 63, 55, 48, 27, 60, 41, 37, 16, 46, 35, 44, 21, 52, 32, 23, 11, 54, 26, 40, 15, 34, 20, 31, 10, 25, 14, 19, 9, 13, 8, 7, 6]
theorem bru_of {W : World} (h : laidMetH Tryz.prog Rows.relateUnionsUptoRow.laid W) : Bru W := by
 have h1 := (laidMetH_iff.1 h).1
 have h2 := h1.filter (fun x => x.1 == "math/bits.deBruijn64tab")
 have h3 : Lib.TabIs Tryz.prog W "math/bits.deBruijn64tab" .u8 bruTab := Lib.tabIs_of_head (g := 3) (rest := []) (by kernel_rfl) (by kernel_rfl) Tryz.underlying285 Tryz.underlying5 (by kernel_rfl) (by kernel_rfl) (show laidMet Tryz.prog [("math/bits.deBruijn64tab", Lib.tabData .u8 bruTab)] W from h2)
 exact h3.cell (g := 3) (by kernel_rfl) 15 (by decide)
theorem plain_of {cs : Array Value} {T : TypeId} {f : Nat × Nat} (h1 : T ≠ TyT) (h2 : T ≠ TpT) : Plain (.cells cs T f) := fun cs' f' =>
 ⟨fun e => by injection e with _ e _; exact h1 e, fun e => by injection e with _ e _; exact h2 e⟩
theorem glob_of {W : World} (h : laidMetH Tryz.prog Rows.relateUnionsUptoRow.laid W) (hs : W.ShapedOpen Tryz.prog) : GlobB W.heap.size W := by
 have ht := tab_of h
 have hb := bru_of h
 obtain ⟨cs0, h0, _, _⟩ := hs.1 1 (List.replicate 20 (Value.int .u64 0)).toArray 278 (of_decide_eq_true (by kernel_rfl)) (by kernel_rfl)
 obtain ⟨cs3, h3, _, _⟩ := hs.1 3 (List.replicate 64 (Value.int .u8 0)).toArray 285 (of_decide_eq_true (by kernel_rfl)) (by kernel_rfl)
 intro w1 k1 w2 k2
 have p0 : w2.heap[(1 : Nat)]? = W.heap[(1 : Nat)]? := (k2 _ _ (k1 _ _ (lt_of_heap h0) h0) (plain_of (by decide) (by decide))).trans h0.symm
 have p3 : w2.heap[(3 : Nat)]? = W.heap[(3 : Nat)]? := (k2 _ _ (k1 _ _ (lt_of_heap h3) h3) (plain_of (by decide) (by decide))).trans h3.symm
 refine ⟨?_, ?_⟩
 · unfold Tab Lib.TabIs World.var? at ht ⊢
   rw [show Tryz.prog.globalNamed "internal/strconv.uint64pow10" = some 1 by kernel_rfl] at ht ⊢
   simp only [Option.bind_some] at ht ⊢
   rw [p0]
   exact ht
 · unfold Bru World.cell? at hb ⊢
   simp only at hb ⊢
   rw [p3]
   exact hb
theorem max_of {W : World} (hs : W.ShapedOpen Tryz.prog) : ∃ m, W.cell? ⟨0, 0, none⟩ = some (.int .i64 m) := by
 obtain ⟨cs, hh, hz, hr⟩ := hs.1 0 #[.int .i64 0] 3 (of_decide_eq_true (by kernel_rfl)) (by kernel_rfl)
 obtain ⟨ts, hts, _, hall⟩ := hr (by kernel_rfl)
 rw [show Tryz.prog.cellTypes Tryz.prog.depth 3 = some [3] by kernel_rfl] at hts
 cases hts
 have h1 : 0 < cs.size := by rw [hz]; decide
 obtain ⟨u, hu', hok⟩ := hall 0 cs[0] (by simp [h1])
 have : u = 3 := by simpa using hu'.symm
 subst this
 have hcell : W.cell? ⟨0, 0, none⟩ = some cs[0] := by simp [World.cell?, hh, h1]
 rw [hcell]
 unfold Cell.ok at hok
 rw [Tryz.underlying3] at hok
 cases hv : cs[0] with
 | int k n =>
   rw [hv] at hok
   simp only at hok
   rw [hok.1]
   exact ⟨_, rfl⟩
 | _ => rw [hv] at hok; simp at hok
theorem relateUnions_contract (H : Type) (enc : TypeId × Value → H) (W : World) (base : Nat) (args : Array Value) (ds gs : List (DataW H)) (before : List MemPlace)
   (hval : ∀ (j : Nat) t v, Tryz.f5.params[j]? = some t → args[j]? = some v → Value.okWide Tryz.prog W .any base t v)
   (hW : DataW.Whole enc Tryz.prog Tryz.f5.params.toList Rows.relateUnionsSpec.vars false W args.toList ds gs before)
   (hcond : ∀ k, (Rows.OpenSpec.upto Rows.relateUnionsSpec).cond = some k → k H (ds ++ gs) = true)
   (hL : laidMetH Tryz.prog Rows.relateUnionsUptoRow.laid W) (hS : W.ShapedOpen Tryz.prog) :
   Calls Tryz.prog 5 args W fun e W' => ∃ v, e = .returned v ∧ Rows.relateUnionsSpec.post enc Tryz.prog Tryz.f5 false true false false W args v W' := by
 have hW' := hW
 obtain ⟨p, q, hA0, hV, rfl, hfz, hnd⟩ := hW
 have hA : DataW.TrodAll enc Tryz.prog W 0 (fun _ => true) true Tryz.f5.params.toList args.toList ds p := hA0
 rw [Tryz.params5] at hA hval
 obtain ⟨v0, vs0, d0, ds0, p0, q0, hargs, rfl, rfl, h0, r0⟩ := trodAll_cons hA
 obtain ⟨v1, vs1, d1, ds1, p1, q1, rfl, rfl, rfl, h1, r1⟩ := trodAll_cons r0
 obtain ⟨v2, vs2, d2, ds2, p2, q2, rfl, rfl, rfl, h2, r2⟩ := trodAll_cons r1
 obtain ⟨rfl, rfl, rfl⟩ := trodAll_nil r2
 obtain rfl : args = #[v0, v1, v2] := by cases args; simp_all
 obtain ⟨rfl, rfl⟩ := trodVars_none hV
 have k0 := h0
 have lt0 : ∀ x ∈ p0, x.block < W.heap.size := by obtain ⟨m, hm⟩ := k0; exact DataW.trod_lt m _ _ _ hm
 have k1 := h1
 have lt1 : ∀ x ∈ p1, x.block < W.heap.size := by obtain ⟨m, hm⟩ := k1; exact DataW.trod_lt m _ _ _ hm
 have k2 := h2
 have lt2 : ∀ x ∈ p2, x.block < W.heap.size := by obtain ⟨m, hm⟩ := k2; exact DataW.trod_lt m _ _ _ hm
 have hb : Rows.uptoBulkAll ([d0, d1, d2] ++ []) ≤ 1048576 := of_decide_eq_true (hcond _ rfl)
 simp only [List.append_nil, Rows.uptoBulkAll] at hb
 obtain ⟨c0, rfl, _⟩ := okWide_struct Tryz.underlying33 (hval 0 33 v0 rfl rfl)
 obtain ⟨c1, rfl, _⟩ := okWide_struct Tryz.underlying33 (hval 1 33 v1 rfl rfl)
 obtain ⟨c2, rfl, _⟩ := okWide_struct Tryz.underlying33 (hval 2 33 v2 rfl rfl)
 obtain ⟨m0, hm0⟩ := h0
 obtain ⟨m1, hm1⟩ := h1
 obtain ⟨m2, hm2⟩ := h2
 obtain ⟨x, hx, hxn⟩ := open_T m0 c0.toList _ hm0 (show Rows.uptoBulk d0 ≤ 1048576 by omega)
 obtain ⟨y, hy, hyn⟩ := open_T m1 c1.toList _ hm1 (show Rows.uptoBulk d1 ≤ 1048576 by omega)
 obtain ⟨z, hz, hzn⟩ := open_T m2 c2.toList _ hm2 (show Rows.uptoBulk d2 ≤ 1048576 by omega)
 have hxn : x.nodes ≤ Rows.uptoBulk d0 := hxn
 have hyn : y.nodes ≤ Rows.uptoBulk d1 := hyn
 have hzn : z.nodes ≤ Rows.uptoBulk d2 := hzn
 obtain ⟨m, hm⟩ := max_of hS
 have key := relunions_any c0.toList c1.toList c2.toList x y z m W hx hy hz (by omega) (by omega) (by omega) (glob_of hL hS) hm
 simp only [Array.toArray_toList] at key
 clear hA0 hm0 hm1 hm2
 refine key.mono fun e W' ⟨he, bel⟩ => ?_
 subst he
 exact ⟨_, rfl, _, _, _, [], _, [], hW', trodAll_mk1 (shut_bool Tryz.underlying4 _), (trodAll_cons_mk (Below.trod laid_out (by kernel_rfl) (of_decide_eq_true (by kernel_rfl)) k0 bel lt0) (trodAll_cons_mk (Below.trod laid_out (by kernel_rfl) (of_decide_eq_true (by kernel_rfl)) k1 bel lt1) (trodAll_cons_mk (Below.trod laid_out (by kernel_rfl) (of_decide_eq_true (by kernel_rfl)) k2 bel lt2) trodAll_mk0))), rfl, Below.frame bel _, fun h => by cases h⟩
abbrev argT : Value := .agg #[.int .i64 0, .int .i64 0, .string ⟨#[]⟩, .slice none 0 0, .slice none 0 0, .slice none 0 0]
theorem relateUnions_laid (os : Os) : laidMet Tryz.prog Rows.relateUnionsUptoRow.laid ((laidWorld os).forCall (fun _ _ => 0) ⟨#[], #[argT, argT, argT], []⟩).memory :=
 laidMet_of_run' 8 (by kernel_rfl) (by kernel_rfl)
theorem relateUnions_reads (os : Os) {H : Type} (enc : TypeId × Value → H) : ∃ places, DataW.whole enc Tryz.prog ((laidWorld os).forCall (fun _ _ => 0) ⟨#[], #[argT, argT, argT], []⟩).memory Tryz.f5.params.toList Rows.relateUnionsSpec.vars false #[argT, argT, argT].toList 8 = some ([.agg [.lit (.int .i64 0), .lit (.int .i64 0), .lit (.string []), .nil, .nil, .nil], .agg [.lit (.int .i64 0), .lit (.int .i64 0), .lit (.string []), .nil, .nil, .nil], .agg [.lit (.int .i64 0), .lit (.int .i64 0), .lit (.string []), .nil, .nil, .nil]], [], places) :=
 ⟨[], by kernel_rfl⟩
theorem relateUnions_lifted (os : Os) (started : os.Started) (H : Type) (enc : TypeId × Value → H) (F : Stop.Interp) :
   ReturnsInHanded {} Tryz.checked os 5 .any ((Rows.OpenSpec.upto Rows.relateUnionsSpec).preRow enc Tryz.prog Tryz.f5 Rows.relateUnionsUptoRow.domain false Rows.relateUnionsUptoRow.laid) (((Rows.OpenSpec.upto Rows.relateUnionsSpec).at F).post enc Tryz.prog Tryz.f5 false true false false) := by
 obtain ⟨places, hx⟩ := relateUnions_reads os enc
 refine returnsInHanded_of_row (C := Tryz.checked) (s := Rows.OpenSpec.upto Rows.relateUnionsSpec) own_knob started (by kernel_rfl) Tryz.func5
   (witness_row_at (enc := enc) (C := Tryz.checked) false (laidWorld os) #[argT, argT, argT] rfl (by kernel_rfl) (by kernel_rfl) (by kernel_rfl)
     (OpenSpec.preRow_of_cond 8 hx (by kernel_rfl) (fun k hk => by cases hk; kernel_rfl) (by kernel_rfl) (relateUnions_laid os))) ?_
 intro W base args ds gs before hval hW _ hcond _ hL hS _
 exact relateUnions_contract H enc W base args ds gs before hval hW hcond hL hS
theorem relateUnions_said : Rows.RelateUnionsUptoSaid :=
 OpenClaim.holds_of_cond 5 Tryz.f5 rfl rfl rfl rfl rfl rfl rfl ⟨rfl, rfl, rfl, rfl, rfl⟩ rfl rfl rfl rfl rfl (by kernel_rfl) Tryz.func5 (by kernel_rfl)
   (of_decide_eq_true (by kernel_rfl)) (by unfold Func.isWrapper; first | (rw [if_pos (by decide +kernel)]; kernel_rfl) | (rw [if_neg (by decide +kernel)]; exact ⟨rfl, rfl⟩))
   (fun os started H enc _ F => by rw [OpenClaim.pre_eq_preRow]; exact relateUnions_lifted os started H enc F)
theorem relateUnions_plain (f : FuncId) (fn : Func) (hf : Tryz.pinned.checked.prog.funcNamed "shuck/shucklaw9.RelateUnions" = some f) (hfn : Tryz.pinned.checked.prog.funcs[f]? = some fn) :
   false = Tryz.pinned.checked.prog.looks [] ∧ ∀ (j : Nat) t, fn.params[j]? = some t → Tryz.pinned.checked.prog.wantsStandIn t = false := by
 obtain rfl : f = 5 := Option.some.inj ((show Tryz.prog.funcNamed "shuck/shucklaw9.RelateUnions" = some 5 by kernel_rfl).symm.trans hf) |>.symm
 obtain rfl : fn = Tryz.f5 := (Option.some.inj (Tryz.func5.symm.trans hfn)).symm
 refine ⟨by kernel_rfl, fun j t ht => ?_⟩
 rw [Tryz.params5] at ht
 have hm := Array.mem_of_getElem? ht
 simp at hm
 rcases hm with rfl | rfl | rfl
 all_goals exact (show Tryz.prog.wantsStandIn 33 = false by kernel_rfl)
theorem relateUnions_card : Rows.RelateUnionsUptoCardSaid :=
 Claim7.holds_tied_plain_at .later [] _ _ _ _ relateUnions_said (fun _ h => by cases h) (by kernel_rfl) (fun _ h => by cases h) relateUnionsUpto_row_tie rfl ⟨rfl, rfl⟩ (by kernel_rfl) rfl relateUnions_plain (by kernel_rfl)
end Go.Proofs.YtiaepldmgighbaaGreatDoor
