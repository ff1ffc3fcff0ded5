import Derived.Test.YtiaepldmgighbaaGreatDoorM60
import Derived.Test.YtiaepldmgighbaaGreatDoorM47
namespace Go.Proofs.YtiaepldmgighbaaGreatDoor
open Go.RowKit
set_option linter.unusedSimpArgs false
set_option linter.unusedVariables false
theorem bool_five {a s p n v : Bool} (h : a = true ↔ s = true ∨ (p = true ∧ (n = true ∨ v = true))) : a = (s || (p && (n || v))) := by
 cases a <;> cases s <;> cases p <;> cases n <;> cases v <;> simp_all
set_option maxRecDepth 100000 in
set_option maxHeartbeats 12800000 in
theorem funcs_any (xs ys us vs : List Value) (x y u v : Ty) (m : Int) (w : World) (hx : TIs w.heap.size w xs x) (hy : TIs w.heap.size w ys y) (hu : TIs w.heap.size w us u) (hv : TIs w.heap.size w vs v) (hxn : x.nodes ≤ 2000000) (hyn : y.nodes ≤ 2000000) (hun : u.nodes ≤ 2000000) (hvn : v.nodes ≤ 2000000)
   (hg : GlobB w.heap.size w) (hm : w.cell? ⟨0, 0, none⟩ = some (.int .i64 m)) :
   Calls Tryz.prog 8 #[.agg xs.toArray, .agg ys.toArray, .agg us.toArray, .agg vs.toArray] w fun e w' => e = .returned (.bool true) ∧ Up w w' := by
 obtain ⟨x0, x1, x2, x3, x4, x5, rfl⟩ := hx.six
 obtain ⟨y0, y1, y2, y3, y4, y5, rfl⟩ := hy.six
 obtain ⟨u0, u1, u2, u3, u4, u5, rfl⟩ := hu.six
 obtain ⟨v0, v1, v2, v3, v4, v5, rfl⟩ := hv.six
 have HX := Lib.hid (And.intro hx hxn)
 have HY := Lib.hid (And.intro hy hyn)
 have HU := Lib.hid (And.intro hu hun)
 have HV := Lib.hid (And.intro hv hvn)
 have HG := Lib.hid (And.intro hg hm)
 have hLX := Lib.hid (fun W (hW : Up w W) => large_any w.heap.size x _ W (HX.out.1.low (hW.below (Nat.le_refl _))) hW.size HX.out.2)
 have hLY := Lib.hid (fun W (hW : Up w W) => large_any w.heap.size y _ W (HY.out.1.low (hW.below (Nat.le_refl _))) hW.size HY.out.2)
 have hLU := Lib.hid (fun W (hW : Up w W) => large_any w.heap.size u _ W (HU.out.1.low (hW.below (Nat.le_refl _))) hW.size HU.out.2)
 have hLV := Lib.hid (fun W (hW : Up w W) => large_any w.heap.size v _ W (HV.out.1.low (hW.below (Nat.le_refl _))) hW.size HV.out.2)
 clear hx hxn hy hyn hu hun hv hvn hg hm
 go_enter Tryz.func8, Tryz.ntmps8
 go_upto_region 1 with (fail)
 refine range_named fun A0 W0 hA0 hW0 => ?_
 have hu0 : Hid (Up w W0) := by subst hW0; exact uq
 obtain ⟨qx, hqx⟩ : ∃ q, Hid (w.heap.size = q) := ⟨_, rfl⟩
 obtain ⟨qy, hqy⟩ : ∃ q, Hid (w.heap.size + 1 = q) := ⟨_, rfl⟩
 obtain ⟨qu, hqu⟩ : ∃ q, Hid (w.heap.size + 1 + 1 = q) := ⟨_, rfl⟩
 obtain ⟨qv, hqv⟩ : ∃ q, Hid (w.heap.size + 1 + 1 + 1 = q) := ⟨_, rfl⟩
 have HQX : Hid (W0.heap[qx]? = some (.cells #[x0, x1, x2, x3, x4, x5] RefT (0, 0))) := by subst hW0; rw [← hqx.out, alloc_old _ _ _ (by simp only [World.size_alloc]; omega), alloc_old _ _ _ (by simp only [World.size_alloc]; omega), alloc_old _ _ _ (by simp only [World.size_alloc]; omega)]; exact alloc_at _ _ _ rfl
 have HQY : Hid (W0.heap[qy]? = some (.cells #[y0, y1, y2, y3, y4, y5] RefT (0, 0))) := by subst hW0; rw [← hqy.out, alloc_old _ _ _ (by simp only [World.size_alloc]; omega), alloc_old _ _ _ (by simp only [World.size_alloc]; omega)]; exact alloc_at _ _ _ (by simp only [World.size_alloc])
 have HQU : Hid (W0.heap[qu]? = some (.cells #[u0, u1, u2, u3, u4, u5] RefT (0, 0))) := by subst hW0; rw [← hqu.out, alloc_old _ _ _ (by simp only [World.size_alloc]; omega)]; exact alloc_at _ _ _ (by simp only [World.size_alloc])
 have HQV : Hid (W0.heap[qv]? = some (.cells #[v0, v1, v2, v3, v4, v5] RefT (0, 0))) := by subst hW0; rw [← hqv.out]; exact alloc_at _ _ _ (by simp only [World.size_alloc])
 rw [hqv.out, hqu.out, hqy.out, hqx.out] at hA0
 clear hW0
 subst hA0
 have s := HQX.out; have q0 := cell_of s 0; have p0 := ice_of s 0; have q1 := cell_of s 1; have p1 := ice_of s 1; have q2 := cell_of s 2; have p2 := ice_of s 2; have q3 := cell_of s 3; have p3 := ice_of s 3; have q4 := cell_of s 4; have p4 := ice_of s 4; have q5 := cell_of s 5; have p5 := ice_of s 5; have q9 := lt_of_heap s; (try simp only [World.size_alloc, List.getElem?_toArray, List.getElem?_cons_zero, List.getElem?_cons_succ] at q0 q1 q2 q3 q4 q5 p0 p1 p2 p3 p4 p5 q9); clear s
 go_wp2_with fail
 refine (hLX.out W0 hu0.out).mono ?_
 rintro e w1 ⟨b1, rfl, hb1, hu1⟩
 have HB1 := Lib.hid hb1
 clear hb1
 cases b1
 rotate_left
 · go_wp2_with (first | (go_at_call 20; refine (known_any _).mono ?_; rintro e wk ⟨rfl, huk⟩))
   go_ret
   exact ⟨rfl, hu0.out.trans (show Up W0 _ from uq)⟩
 have s := Up.get (w := W0) (w' := w1) uq HQY.out; have q0 := cell_of s 0; have p0 := ice_of s 0; have q1 := cell_of s 1; have p1 := ice_of s 1; have q2 := cell_of s 2; have p2 := ice_of s 2; have q3 := cell_of s 3; have p3 := ice_of s 3; have q4 := cell_of s 4; have p4 := ice_of s 4; have q5 := cell_of s 5; have p5 := ice_of s 5; have q9 := lt_of_heap s; (try simp only [World.size_alloc, List.getElem?_toArray, List.getElem?_cons_zero, List.getElem?_cons_succ] at q0 q1 q2 q3 q4 q5 p0 p1 p2 p3 p4 p5 q9); clear s
 go_wp2_with fail
 refine (hLY.out _ (hu0.out.trans (show Up W0 _ from uq))).mono ?_
 rintro e w2 ⟨b2, rfl, hb2, hu2⟩
 have HB2 := Lib.hid hb2
 clear hb2
 cases b2
 rotate_left
 · go_wp2_with (first | (go_at_call 20; refine (known_any _).mono ?_; rintro e wk ⟨rfl, huk⟩))
   go_ret
   exact ⟨rfl, hu0.out.trans (show Up W0 _ from uq)⟩
 have s := Up.get (w := W0) (w' := w2) uq HQU.out; have q0 := cell_of s 0; have p0 := ice_of s 0; have q1 := cell_of s 1; have p1 := ice_of s 1; have q2 := cell_of s 2; have p2 := ice_of s 2; have q3 := cell_of s 3; have p3 := ice_of s 3; have q4 := cell_of s 4; have p4 := ice_of s 4; have q5 := cell_of s 5; have p5 := ice_of s 5; have q9 := lt_of_heap s; (try simp only [World.size_alloc, List.getElem?_toArray, List.getElem?_cons_zero, List.getElem?_cons_succ] at q0 q1 q2 q3 q4 q5 p0 p1 p2 p3 p4 p5 q9); clear s
 go_wp2_with fail
 refine (hLU.out _ (hu0.out.trans (show Up W0 _ from uq))).mono ?_
 rintro e w3 ⟨b3, rfl, hb3, hu3⟩
 have HB3 := Lib.hid hb3
 clear hb3
 cases b3
 rotate_left
 · go_wp2_with (first | (go_at_call 20; refine (known_any _).mono ?_; rintro e wk ⟨rfl, huk⟩))
   go_ret
   exact ⟨rfl, hu0.out.trans (show Up W0 _ from uq)⟩
 have s := Up.get (w := W0) (w' := w3) uq HQV.out; have q0 := cell_of s 0; have p0 := ice_of s 0; have q1 := cell_of s 1; have p1 := ice_of s 1; have q2 := cell_of s 2; have p2 := ice_of s 2; have q3 := cell_of s 3; have p3 := ice_of s 3; have q4 := cell_of s 4; have p4 := ice_of s 4; have q5 := cell_of s 5; have p5 := ice_of s 5; have q9 := lt_of_heap s; (try simp only [World.size_alloc, List.getElem?_toArray, List.getElem?_cons_zero, List.getElem?_cons_succ] at q0 q1 q2 q3 q4 q5 p0 p1 p2 p3 p4 p5 q9); clear s
 go_wp2_with fail
 refine (hLV.out _ (hu0.out.trans (show Up W0 _ from uq))).mono ?_
 rintro e w4 ⟨b4, rfl, hb4, hu4⟩
 have HB4 := Lib.hid hb4
 clear hb4
 cases b4
 rotate_left
 · go_wp2_with (first | (go_at_call 20; refine (known_any _).mono ?_; rintro e wk ⟨rfl, huk⟩))
   go_ret
   exact ⟨rfl, hu0.out.trans (show Up W0 _ from uq)⟩
 have HWA : Hid (Up W0 w4) := uq
 have HUA : Hid (Up w w4) := hu0.out.trans HWA.out
 clear hu1 hu2 hu3 hu4
 go_wp2_with fail
 refine (New_any w4).mono ?_
 rintro e wN ⟨A, bs, g, tv, rfl, hf, huN⟩
 have hSN : Sta w4 wN A bs tenT tv (.map (some g)) := Sta.new hf huN ((HG.out.1.memo (Memo.of_up none1 _ HUA.out)).mono HUA.out.size)
 have hTX : Hid (TIs w4.heap.size w4 [x0, x1, x2, x3, x4, x5] x) := (HX.out.1.low (HUA.out.below (Nat.le_refl _))).mono HUA.out.size
 have hTY : Hid (TIs w4.heap.size w4 [y0, y1, y2, y3, y4, y5] y) := (HY.out.1.low (HUA.out.below (Nat.le_refl _))).mono HUA.out.size
 have hTU : Hid (TIs w4.heap.size w4 [u0, u1, u2, u3, u4, u5] u) := (HU.out.1.low (HUA.out.below (Nat.le_refl _))).mono HUA.out.size
 have hTV : Hid (TIs w4.heap.size w4 [v0, v1, v2, v3, v4, v5] v) := (HV.out.1.low (HUA.out.below (Nat.le_refl _))).mono HUA.out.size
 have hMA : Hid (w4.cell? ⟨0, 0, none⟩ = some (.int .i64 m)) := (HUA.out.cells _ _ (cell_lt5 HG.out.2)).trans HG.out.2
 have hlN : Hid (bs.length = 10) := hf.len
 have HSN := Lib.hid hSN
 clear hf
 have s := (HWA.out.trans hSN.up).get HQX.out; have q0 := cell_of s 0; have p0 := ice_of s 0; have q1 := cell_of s 1; have p1 := ice_of s 1; have q2 := cell_of s 2; have p2 := ice_of s 2; have q3 := cell_of s 3; have p3 := ice_of s 3; have q4 := cell_of s 4; have p4 := ice_of s 4; have q5 := cell_of s 5; have p5 := ice_of s 5; have q9 := lt_of_heap s; (try simp only [World.size_alloc, List.getElem?_toArray, List.getElem?_cons_zero, List.getElem?_cons_succ] at q0 q1 q2 q3 q4 q5 p0 p1 p2 p3 p4 p5 q9); clear s
 clear hSN
 go_wp2_with fail
 refine (laid_sta (HSN.out.later uq) hTX.out hMA.out (HB1.out (by first | rfl | trivial)) (by have := hlN.out; omega)).mono ?_
 rintro e wa ⟨p, oka, bsa, tsa, tva, mva, rfl, hSa, hla, hxa⟩
 have HSa := Lib.hid (And.intro hSa (And.intro hla hxa))
 have s := (HWA.out.trans hSa.up).get HQY.out; have q0 := cell_of s 0; have p0 := ice_of s 0; have q1 := cell_of s 1; have p1 := ice_of s 1; have q2 := cell_of s 2; have p2 := ice_of s 2; have q3 := cell_of s 3; have p3 := ice_of s 3; have q4 := cell_of s 4; have p4 := ice_of s 4; have q5 := cell_of s 5; have p5 := ice_of s 5; have q9 := lt_of_heap s; (try simp only [World.size_alloc, List.getElem?_toArray, List.getElem?_cons_zero, List.getElem?_cons_succ] at q0 q1 q2 q3 q4 q5 p0 p1 p2 p3 p4 p5 q9); clear s
 clear hSa hla hxa
 go_wp2_with fail
 refine (laid_sta (HSa.out.1.later uq) hTY.out hMA.out (HB2.out (by first | rfl | trivial)) (by have := hlN.out; have := HSa.out.2.1; simp only [List.length_append]; omega)).mono ?_
 rintro e wb ⟨q, okb, bsb, tsb, tvb, mvb, rfl, hSb, hlb, hxb⟩
 have HSb := Lib.hid (And.intro hSb (And.intro hlb hxb))
 have s := (HWA.out.trans hSb.up).get HQU.out; have q0 := cell_of s 0; have p0 := ice_of s 0; have q1 := cell_of s 1; have p1 := ice_of s 1; have q2 := cell_of s 2; have p2 := ice_of s 2; have q3 := cell_of s 3; have p3 := ice_of s 3; have q4 := cell_of s 4; have p4 := ice_of s 4; have q5 := cell_of s 5; have p5 := ice_of s 5; have q9 := lt_of_heap s; (try simp only [World.size_alloc, List.getElem?_toArray, List.getElem?_cons_zero, List.getElem?_cons_succ] at q0 q1 q2 q3 q4 q5 p0 p1 p2 p3 p4 p5 q9); clear s
 clear hSb hlb hxb
 go_wp2_with fail
 refine (laid_sta (HSb.out.1.later uq) hTU.out hMA.out (HB3.out (by first | rfl | trivial)) (by have := hlN.out; have := HSa.out.2.1; have := HSb.out.2.1; simp only [List.length_append]; omega)).mono ?_
 rintro e wc ⟨r, okc, bsc, tsc, tvc, mvc, rfl, hSc, hlc, hxc⟩
 have HSc := Lib.hid (And.intro hSc (And.intro hlc hxc))
 have s := (HWA.out.trans hSc.up).get HQV.out; have q0 := cell_of s 0; have p0 := ice_of s 0; have q1 := cell_of s 1; have p1 := ice_of s 1; have q2 := cell_of s 2; have p2 := ice_of s 2; have q3 := cell_of s 3; have p3 := ice_of s 3; have q4 := cell_of s 4; have p4 := ice_of s 4; have q5 := cell_of s 5; have p5 := ice_of s 5; have q9 := lt_of_heap s; (try simp only [World.size_alloc, List.getElem?_toArray, List.getElem?_cons_zero, List.getElem?_cons_succ] at q0 q1 q2 q3 q4 q5 p0 p1 p2 p3 p4 p5 q9); clear s
 clear hSc hlc hxc
 go_wp2_with fail
 refine (laid_sta (HSc.out.1.later uq) hTV.out hMA.out (HB4.out (by first | rfl | trivial)) (by have := hlN.out; have := HSa.out.2.1; have := HSb.out.2.1; have := HSc.out.2.1; simp only [List.length_append]; omega)).mono ?_
 rintro e wd ⟨s, okd, bsd, tsd, tvd, mvd, rfl, hSd, hld, hxd⟩
 have HSd := Lib.hid (And.intro hSd (And.intro hld hxd))
 have HUB : Hid (Up w wd) := Up.trans HUA.out hSd.up
 clear hSd hld hxd huN
 cases oka
 · go_wp2_with (first | (go_at_call 20; refine (known_any _).mono ?_; rintro e wk ⟨rfl, huk⟩))
   go_ret
   exact ⟨rfl, Up.trans HUB.out uq⟩
 cases okb
 · go_wp2_with (first | (go_at_call 20; refine (known_any _).mono ?_; rintro e wk ⟨rfl, huk⟩))
   go_ret
   exact ⟨rfl, Up.trans HUB.out uq⟩
 cases okc
 · go_wp2_with (first | (go_at_call 20; refine (known_any _).mono ?_; rintro e wk ⟨rfl, huk⟩))
   go_ret
   exact ⟨rfl, Up.trans HUB.out uq⟩
 cases okd
 · go_wp2_with (first | (go_at_call 20; refine (known_any _).mono ?_; rintro e wk ⟨rfl, huk⟩))
   go_ret
   exact ⟨rfl, Up.trans HUB.out uq⟩
 obtain ⟨P, hP1, hP2, _, hP5⟩ := HSa.out.2.2 (by first | rfl | trivial)
 obtain ⟨Q, hQ1, hQ2, _, hQ5⟩ := HSb.out.2.2 (by first | rfl | trivial)
 obtain ⟨R, hR1, hR2, _, hR5⟩ := HSc.out.2.2 (by first | rfl | trivial)
 obtain ⟨S, hS1, hS2, _, hS5⟩ := HSd.out.2.2 (by first | rfl | trivial)
 obtain ⟨BS, hBS⟩ : ∃ BS, bs ++ bsa ++ bsb ++ bsc ++ bsd = BS := ⟨_, rfl⟩
 obtain ⟨TS, hTS⟩ : ∃ TS, tenT ++ tsa ++ tsb ++ tsc ++ tsd = TS := ⟨_, rfl⟩
 have hP3 : TS[p]? = some P := by rw [← hTS]; exact more (more (more hP1))
 have hQ3 : TS[q]? = some Q := by rw [← hTS]; exact more (more hQ1)
 have hR3 : TS[r]? = some R := by rw [← hTS]; exact more hR1
 have hS3 : TS[s]? = some S := by rw [← hTS]; exact hS1
 have h6 : TS[6]? = some (basicT 7) := by rw [← hTS]; rfl
 have hSZ := HSd.out.1
 rw [hBS, hTS] at hSZ
 have hbl : BS.length ≤ 24010 := by
   rw [← hBS]
   have := hlN.out
   have := HSa.out.2.1
   have := HSb.out.2.1
   have := HSc.out.2.1
   have := HSd.out.2.1
   simp only [List.length_append]
   omega
 have HT := Lib.hid (And.intro hSZ (And.intro hbl (And.intro hP3 (And.intro hQ3 (And.intro hR3 (And.intro hS3 (And.intro hP2 (And.intro hQ2 (And.intro hR2 hS2)))))))))
 clear hSZ hbl hP3 hQ3 hR3 hS3 hP2 hQ2 hR2 hS2 hP1 hQ1 hR1 hS1 hP5 hQ5 hR5 hS5 h6 hBS hTS HSN HSa HSb HSc HSd hTX hTY hTU hTV hLX hLY hLU hLV HX HY HU HV
 go_wp2_with fail
 refine (find_fn_sta (HT.out.1.later (show Up wd _ from uq)) (by have := HT.out.2.1; omega) HT.out.2.2.1 HT.out.2.2.2.2.1 (n := 121) (by have := HT.out; omega) (by decide) (g := wd.heap.size + 1) (mc := 0) ((ids_lit wd [p, r] (0, 0)).up ((Up.refl _).alloc _)) (alloc_at _ _ _ (by simp only [World.size_alloc])) hMA.out).mono ?_
 rintro e w7 ⟨i7, bs7, ts7, tv7, mv7, X7, rfl, hS7, hl7, hx7, hv7, hc7, hn7⟩
 have H7 := Lib.hid (And.intro hS7 (And.intro hl7 (And.intro hx7 hc7)))
 clear hS7 hl7 hx7 hv7 hc7 hn7
 go_wp2_with fail
 refine (find_fn_sta (H7.out.1.later (show Up w7 _ from uq)) (by have := HT.out.2.1; have := H7.out.2.1; rw [List.length_append]; omega) (more HT.out.2.2.2.1) (more HT.out.2.2.2.2.2.1) (n := 121) (by have := HT.out; omega) (by decide) (g := w7.heap.size + 1) (mc := 0) ((ids_lit w7 [q, s] (0, 0)).up ((Up.refl _).alloc _)) (alloc_at _ _ _ (by simp only [World.size_alloc])) hMA.out).mono ?_
 rintro e w8 ⟨i8, bs8, ts8, tv8, mv8, X8, rfl, hS8, hl8, hx8, hv8, hc8, hn8⟩
 have hij : Hid (i7 = i8 ↔ fnT P.canon R.canon = fnT Q.canon S.canon) := by
   constructor
   · intro e
     subst e
     have h7 := more (r := ts8) H7.out.2.2.1
     rw [hx8] at h7
     injection h7 with h7
     rw [← H7.out.2.2.2, ← hc8, h7]
   · intro e
     exact hS8.same (more H7.out.2.2.1) hx8 (by rw [H7.out.2.2.2, hc8, e])
 have H8 := Lib.hid (And.intro hS8 (And.intro hl8 (And.intro hx8 hc8)))
 clear hS8 hl8 hx8 hv8 hc8 hn8
 have hbl8 : Hid ((BS ++ bs7 ++ bs8).length ≤ 1000000) := by have := HT.out.2.1; have := H7.out.2.1; have := H8.out.2.1; unfold Hid; simp only [List.length_append]; omega
 go_wp2_with fail
 refine (asked_sta H8.out.1 hbl8.out (more (more HT.out.2.2.2.1)) (more (more HT.out.2.2.1))).mono ?_
 rintro e w9 ⟨param, ok1, rfl, hS9, hq9⟩
 have H9 := Lib.hid (And.intro hS9 hq9)
 clear hS9 hq9
 go_wp2_with fail
 refine (asked_sta H9.out.1 hbl8.out (more (more HT.out.2.2.2.2.1)) (more (more HT.out.2.2.2.2.2.1))).mono ?_
 rintro e wA ⟨ans, ok2, rfl, hSA, hqA⟩
 have HA := Lib.hid (And.intro hSA hqA)
 clear hSA hqA
 go_wp2_with fail
 refine (asked_sta HA.out.1 hbl8.out (more H7.out.2.2.1) H8.out.2.2.1).mono ?_
 rintro e wB ⟨whole, ok3, rfl, hSB, hqB⟩
 have HB := Lib.hid (And.intro hSB hqB)
 have hvS : Hid S.Valid := (HT.out.1.are.good _ (List.mem_of_getElem? HT.out.2.2.2.2.2.1)).1
 clear hSB hqB
 go_wp2_with fail
 refine (text_sta HB.out.1 (more (more HT.out.2.2.2.2.2.1))).mono ?_
 rintro e wC ⟨rfl, huC⟩
 have HUC : Hid (Up w wC) := Up.trans HUA.out huC
 obtain ⟨vb, hvb⟩ : ∃ vb, (S.text.toList == voidS.toList) = vb := ⟨_, rfl⟩
 obtain ⟨same, hsame⟩ : ∃ same, decide ((i7 : Int) = i8) = same := ⟨_, rfl⟩
 have hsame2 : ((i7 : Int) == i8) = same := by rw [← hsame]; rfl
 have hvb2 : (S.text.toList == [118, 111, 105, 100]) = vb := by rw [← hvb, show voidS.toList = [118, 111, 105, 100] by simp [ByteArray.toList_eq]]
 have hfin : ok1 = true → ok2 = true → ok3 = true → whole = (same || (param && (ans || vb))) := fun h1 h2 h3 => by
   have q1 := H9.out.2 h1
   have q2 := HA.out.2 h2
   have q3 := HB.out.2 h3
   have q4 : vb = true ↔ S.canon.kind = 4 := by rw [← hvb]; exact text_void hvS.out
   have q5 : same = true ↔ i7 = i8 := by rw [← hsame, decide_eq_true_iff]; omega
   rw [H7.out.2.2.2, H8.out.2.2.2, sub_funcs, ← q1, ← hij.out, ← q5] at q3
   have q6 : (¬ S.canon.kind = 4 → Sub R.canon S.canon) ↔ (ans = true ∨ vb = true) := by
     rw [q4, q2]
     constructor
     · intro h
       by_cases k : S.canon.kind = 4
       · exact .inr k
       · exact .inl (h k)
     · rintro (h | h)
       · exact fun _ => h
       · exact fun k => absurd h k
   have q3 : whole = true ↔ same = true ∨ (param = true ∧ (ans = true ∨ vb = true)) := q3.trans (or_congr Iff.rfl (and_congr Iff.rfl q6))
   exact bool_five q3
 clear HT H7 H8 H9 HA HB hij hbl8 huC hvS
 cases ok1
 · go_wp2_with (first | (go_at_call 20; refine (known_any _).mono ?_; rintro e wk ⟨rfl, huk⟩))
   all_goals go_ret
   all_goals exact ⟨rfl, Up.trans HUC.out uq⟩
 cases ok2
 · go_wp2_with (first | (go_at_call 20; refine (known_any _).mono ?_; rintro e wk ⟨rfl, huk⟩))
   all_goals go_ret
   all_goals exact ⟨rfl, Up.trans HUC.out uq⟩
 cases ok3
 · go_wp2_with (first | (go_at_call 20; refine (known_any _).mono ?_; rintro e wk ⟨rfl, huk⟩))
   all_goals go_ret
   all_goals exact ⟨rfl, Up.trans HUC.out uq⟩
 obtain rfl := hfin rfl rfl rfl
 clear hfin
 cases same
 all_goals cases param
 all_goals cases ans
 all_goals cases vb
 all_goals go_wp2_with (first | (go_at_call 20; refine (known_any _).mono ?_; rintro e wk ⟨rfl, huk⟩))
 all_goals go_ret
 all_goals exact ⟨by first | rfl | (simp [*]; done), Up.trans HUC.out uq⟩
end Go.Proofs.YtiaepldmgighbaaGreatDoor
