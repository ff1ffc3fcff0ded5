import Derived.Test.YtiaepldmgighbaaGreatDoorM62
import Derived.Test.YtiaepldmgighbaaGreatDoorM47
namespace Go.Proofs.YtiaepldmgighbaaGreatDoor
open Go.RowKit
set_option linter.unusedSimpArgs false
set_option linter.unusedVariables false
theorem rowV_of_lit {w : World} {T : TypeId} {g L : Nat} {us : List Value} {f : Nat × Nat} (h : w.heap[g]? = some (.cells us.toArray T f)) (hl : us.length = L) (hc : L ≤ 2) : RowV (fun _ => True) w (.slice (some ⟨g, 0, none⟩) L L) us := by
 subst hl
 exact rowV_lit h (Nat.le_refl _) (by omega)
theorem lit_ob (W : World) (ns : List ByteArray) (zs : List Nat) (ms : List Bool) (L : Nat) (T1 T3 : TypeId) (h1 : ns.length = L) (h3 : ms.length = L) (hL : L ≤ 2) :
   IdsAt (((W.alloc (.cells (ns.map Value.string).toArray T1)).alloc (.cells (zs.map numV).toArray IntL)).alloc (.cells (ms.map Value.bool).toArray T3)) (some ⟨W.heap.size + 1, 0, none⟩) zs ∧
   RowV (fun _ => True) (((W.alloc (.cells (ns.map Value.string).toArray T1)).alloc (.cells (zs.map numV).toArray IntL)).alloc (.cells (ms.map Value.bool).toArray T3)) (.slice (some ⟨W.heap.size, 0, none⟩) L L) (ns.map .string) ∧
   (∀ j s, ns[j]? = some s → ∃ g, (some ⟨W.heap.size, 0, none⟩ : Option Addr) = some ⟨g, 0, none⟩ ∧ g < (((W.alloc (.cells (ns.map Value.string).toArray T1)).alloc (.cells (zs.map numV).toArray IntL)).alloc (.cells (ms.map Value.bool).toArray T3)).heap.size ∧ (((W.alloc (.cells (ns.map Value.string).toArray T1)).alloc (.cells (zs.map numV).toArray IntL)).alloc (.cells (ms.map Value.bool).toArray T3)).cell? ⟨g, j, none⟩ = some (.string s)) ∧
   RowV (fun _ => True) (((W.alloc (.cells (ns.map Value.string).toArray T1)).alloc (.cells (zs.map numV).toArray IntL)).alloc (.cells (ms.map Value.bool).toArray T3)) (.slice (some ⟨W.heap.size + 1 + 1, 0, none⟩) L L) (ms.map .bool) := by
 have a0 := alloc_keep (o := .cells (ms.map Value.bool).toArray T3) (alloc_keep (o := .cells (zs.map numV).toArray IntL) (alloc_get W (.cells (ns.map Value.string).toArray T1)))
 refine ⟨?_, rowV_of_lit a0 (by simp [h1]) hL, fun j s hj => ⟨_, rfl, lt_of_heap a0, (cell_of a0 _).trans ?_⟩, rowV_of_lit (alloc_at _ _ _ (by simp only [World.size_alloc])) (by simp [h3]) hL⟩
 · have h := (ids_lit (W.alloc (.cells (ns.map Value.string).toArray T1)) zs (0, 0)).up ((Up.refl _).alloc (.cells (ms.map Value.bool).toArray T3))
   simp only [World.size_alloc] at h
   exact h
 · rw [List.getElem?_toArray, List.getElem?_map, hj]
   rfl
theorem kind_of {x : Ty} {ps : List Ty} {ns : List ByteArray} {ms : List Bool} (h : x.canon = .mk 14 0 ⟨#[]⟩ ps ns ms) : x.kind = 14 := by rw [← Ty.canon_kind, h]; rfl
set_option maxRecDepth 100000 in
set_option maxHeartbeats 12800000 in
theorem objects_any (xs ys : List Value) (x y : Ty) (mark : Bool) (m : Int) (w : World) (hx : TIs w.heap.size w xs x) (hy : TIs w.heap.size w ys y) (hxn : x.nodes ≤ 2000000) (hyn : y.nodes ≤ 2000000)
   (hg : GlobB w.heap.size w) (hm : w.cell? ⟨0, 0, none⟩ = some (.int .i64 m)) :
   Calls Tryz.prog 7 #[.agg xs.toArray, .agg ys.toArray, .bool mark] w fun e w' => e = .returned (.bool true) ∧ Up w w' := by
 obtain ⟨x0, x1, x2, x3, x4, x5, rfl⟩ := hx.six
 obtain ⟨y0, y1, y2, y3, y4, y5, rfl⟩ := hy.six
 have HX := Lib.hid (And.intro hx hxn)
 have HY := Lib.hid (And.intro hy hyn)
 have HG := Lib.hid (And.intro hg hm)
 have hLX := Lib.hid (fun W (hW : Up w W) => large_any w.heap.size x _ W (HX.out.1.low (hW.below (Nat.le_refl _))) hW.size HX.out.2)
 have hLY := Lib.hid (fun W (hW : Up w W) => large_any w.heap.size y _ W (HY.out.1.low (hW.below (Nat.le_refl _))) hW.size HY.out.2)
 clear hx hxn hy hyn hg hm
 go_enter Tryz.func7, Tryz.ntmps7
 go_upto_region 1 with (fail)
 refine range_named fun A0 W0 hA0 hW0 => ?_
 have hu0 : Hid (Up w W0) := by subst hW0; exact uq
 obtain ⟨qx, hqx⟩ : ∃ q, Hid (w.heap.size = q) := ⟨_, rfl⟩
 obtain ⟨qy, hqy⟩ : ∃ q, Hid (w.heap.size + 1 = q) := ⟨_, rfl⟩
 have HQX : Hid (W0.heap[qx]? = some (.cells #[x0, x1, x2, x3, x4, x5] RefT (0, 0))) := by subst hW0; rw [← hqx.out, alloc_old _ _ _ (by simp only [World.size_alloc]; omega)]; exact alloc_at _ _ _ rfl
 have HQY : Hid (W0.heap[qy]? = some (.cells #[y0, y1, y2, y3, y4, y5] RefT (0, 0))) := by subst hW0; rw [← hqy.out]; exact alloc_at _ _ _ (by simp only [World.size_alloc])
 rw [hqy.out, hqx.out] at hA0
 clear hW0
 subst hA0
 have s := HQX.out; have q0 := cell_of s 0; have p0 := ice_of s 0; have q1 := cell_of s 1; have p1 := ice_of s 1; have q2 := cell_of s 2; have p2 := ice_of s 2; have q3 := cell_of s 3; have p3 := ice_of s 3; have q4 := cell_of s 4; have p4 := ice_of s 4; have q5 := cell_of s 5; have p5 := ice_of s 5; have q9 := lt_of_heap s; (try simp only [World.size_alloc, List.getElem?_toArray, List.getElem?_cons_zero, List.getElem?_cons_succ] at q0 q1 q2 q3 q4 q5 p0 p1 p2 p3 p4 p5 q9); clear s
 go_wp2_with fail
 refine (hLX.out W0 hu0.out).mono ?_
 rintro e w1 ⟨b1, rfl, hb1, hu1⟩
 have HB1 := Lib.hid hb1
 clear hb1
 cases b1
 rotate_left
 · go_wp2_with (first | (go_at_call 20; refine (known_any _).mono ?_; rintro e wk ⟨rfl, huk⟩))
   go_ret
   exact ⟨rfl, hu0.out.trans (show Up W0 _ from uq)⟩
 have s := Up.get (w := W0) (w' := w1) uq HQY.out; have q0 := cell_of s 0; have p0 := ice_of s 0; have q1 := cell_of s 1; have p1 := ice_of s 1; have q2 := cell_of s 2; have p2 := ice_of s 2; have q3 := cell_of s 3; have p3 := ice_of s 3; have q4 := cell_of s 4; have p4 := ice_of s 4; have q5 := cell_of s 5; have p5 := ice_of s 5; have q9 := lt_of_heap s; (try simp only [World.size_alloc, List.getElem?_toArray, List.getElem?_cons_zero, List.getElem?_cons_succ] at q0 q1 q2 q3 q4 q5 p0 p1 p2 p3 p4 p5 q9); clear s
 go_wp2_with fail
 refine (hLY.out _ (hu0.out.trans (show Up W0 _ from uq))).mono ?_
 rintro e w2 ⟨b2, rfl, hb2, hu2⟩
 have HB2 := Lib.hid hb2
 clear hb2
 cases b2
 rotate_left
 · go_wp2_with (first | (go_at_call 20; refine (known_any _).mono ?_; rintro e wk ⟨rfl, huk⟩))
   go_ret
   exact ⟨rfl, hu0.out.trans (show Up W0 _ from uq)⟩
 have HWA : Hid (Up W0 w2) := uq
 have HUA : Hid (Up w w2) := hu0.out.trans HWA.out
 clear hu1 hu2
 go_wp2_with fail
 refine (New_any w2).mono ?_
 rintro e wN ⟨A, bs, g, tv, rfl, hf, huN⟩
 have hSN : Sta w2 wN A bs tenT tv (.map (some g)) := Sta.new hf huN ((HG.out.1.memo (Memo.of_up none1 _ HUA.out)).mono HUA.out.size)
 have hTX : Hid (TIs w2.heap.size w2 [x0, x1, x2, x3, x4, x5] x) := (HX.out.1.low (HUA.out.below (Nat.le_refl _))).mono HUA.out.size
 have hTY : Hid (TIs w2.heap.size w2 [y0, y1, y2, y3, y4, y5] y) := (HY.out.1.low (HUA.out.below (Nat.le_refl _))).mono HUA.out.size
 have hMA : Hid (w2.cell? ⟨0, 0, none⟩ = some (.int .i64 m)) := (HUA.out.cells _ _ (cell_lt5 HG.out.2)).trans HG.out.2
 have hlN : Hid (bs.length = 10) := hf.len
 have HSN := Lib.hid hSN
 clear hf
 have s := (HWA.out.trans hSN.up).get HQX.out; have q0 := cell_of s 0; have p0 := ice_of s 0; have q1 := cell_of s 1; have p1 := ice_of s 1; have q2 := cell_of s 2; have p2 := ice_of s 2; have q3 := cell_of s 3; have p3 := ice_of s 3; have q4 := cell_of s 4; have p4 := ice_of s 4; have q5 := cell_of s 5; have p5 := ice_of s 5; have q9 := lt_of_heap s; (try simp only [World.size_alloc, List.getElem?_toArray, List.getElem?_cons_zero, List.getElem?_cons_succ] at q0 q1 q2 q3 q4 q5 p0 p1 p2 p3 p4 p5 q9); clear s
 clear hSN
 go_wp2_with fail
 refine (laid_sta (HSN.out.later uq) hTX.out hMA.out (HB1.out (by first | rfl | trivial)) (by have := hlN.out; omega)).mono ?_
 rintro e wa ⟨p, oka, bsa, tsa, tva, mva, rfl, hSa, hla, hxa⟩
 have HSa := Lib.hid (And.intro hSa (And.intro hla hxa))
 have s := (HWA.out.trans hSa.up).get HQY.out; have q0 := cell_of s 0; have p0 := ice_of s 0; have q1 := cell_of s 1; have p1 := ice_of s 1; have q2 := cell_of s 2; have p2 := ice_of s 2; have q3 := cell_of s 3; have p3 := ice_of s 3; have q4 := cell_of s 4; have p4 := ice_of s 4; have q5 := cell_of s 5; have p5 := ice_of s 5; have q9 := lt_of_heap s; (try simp only [World.size_alloc, List.getElem?_toArray, List.getElem?_cons_zero, List.getElem?_cons_succ] at q0 q1 q2 q3 q4 q5 p0 p1 p2 p3 p4 p5 q9); clear s
 clear hSa hla hxa
 go_wp2_with fail
 refine (laid_sta (HSa.out.1.later uq) hTY.out hMA.out (HB2.out (by first | rfl | trivial)) (by have := hlN.out; have := HSa.out.2.1; simp only [List.length_append]; omega)).mono ?_
 rintro e wb ⟨q, okb, bsb, tsb, tvb, mvb, rfl, hSb, hlb, hxb⟩
 have HSb := Lib.hid (And.intro hSb (And.intro hlb hxb))
 have HUB : Hid (Up w wb) := Up.trans HUA.out hSb.up
 clear hSb hlb hxb huN
 cases oka
 · go_wp2_with (first | (go_at_call 20; refine (known_any _).mono ?_; rintro e wk ⟨rfl, huk⟩))
   go_ret
   exact ⟨rfl, Up.trans HUB.out uq⟩
 cases okb
 · go_wp2_with (first | (go_at_call 20; refine (known_any _).mono ?_; rintro e wk ⟨rfl, huk⟩))
   go_ret
   exact ⟨rfl, Up.trans HUB.out uq⟩
 obtain ⟨P, hP1, hP2, _, hP5⟩ := HSa.out.2.2 (by first | rfl | trivial)
 obtain ⟨Q, hQ1, hQ2, _, hQ5⟩ := HSb.out.2.2 (by first | rfl | trivial)
 obtain ⟨BS, hBS⟩ : ∃ BS, bs ++ bsa ++ bsb = BS := ⟨_, rfl⟩
 obtain ⟨TS, hTS⟩ : ∃ TS, tenT ++ tsa ++ tsb = TS := ⟨_, rfl⟩
 have hP3 : TS[p]? = some P := by rw [← hTS]; exact more hP1
 have hQ3 : TS[q]? = some Q := by rw [← hTS]; exact hQ1
 have h6 : TS[6]? = some (basicT 7) := by rw [← hTS]; rfl
 have hSZ := HSb.out.1
 rw [hBS, hTS] at hSZ
 have hbl : BS.length ≤ 24010 := by
   rw [← hBS]
   have := hlN.out
   have := HSa.out.2.1
   have := HSb.out.2.1
   simp only [List.length_append]
   omega
 have HT := Lib.hid (And.intro hSZ (And.intro hbl (And.intro hP3 (And.intro hQ3 (And.intro h6 (And.intro hP2 hQ2))))))
 clear hSZ hbl hP3 hQ3 hP2 hQ2 hP1 hQ1 hP5 hQ5 h6 hBS hTS HSN HSa HSb hTX hTY hLX hLY HX HY
 go_wp2_with fail
 have L7 := Lib.hid (lit_ob wb [aS, bS] [p, 6] [false, false] 2 9 4 rfl rfl (by decide))
 refine (find_ob_sta (zs := [p, 6]) (us := [P, basicT 7]) (ms := [false, false]) (L := 2) (n := 62) (HT.out.1.later (show Up wb _ from uq)) (by have := HT.out.2.1; omega) (by simp [HT.out.2.2.1, HT.out.2.2.2.2.1]) (by simp) rfl (by have := HT.out.2.2.2.2.2.1; simp [sumN, basicT, Ty.nodes_mk]; omega) (by decide) rfl L7.out.1 L7.out.2.1 L7.out.2.2.1 L7.out.2.2.2 hMA.out).mono ?_
 rintro e w7 ⟨i7, bs7, ts7, tv7, mv7, X7, rfl, hS7, hl7, hx7, hv7, hc7, hn7⟩
 have H7 := Lib.hid (And.intro hS7 (And.intro hl7 (And.intro hx7 (show X7.canon = twoT P.canon (basicT 7).canon from hc7))))
 clear hS7 hl7 hx7 hv7 hc7 hn7 L7
 go_wp2_with fail
 have L8 := Lib.hid (lit_ob w7 [aS] [q] [mark] 1 9 4 rfl rfl (by decide))
 refine (find_ob_sta (zs := [q]) (us := [Q]) (ms := [mark]) (L := 1) (n := 61) (H7.out.1.later (show Up w7 _ from uq)) (by have := HT.out.2.1; have := H7.out.2.1; rw [List.length_append]; omega) (by simp [more HT.out.2.2.2.1]) (by simp) rfl (by have := HT.out.2.2.2.2.2.2; simp [sumN]; omega) (by decide) rfl L8.out.1 L8.out.2.1 L8.out.2.2.1 L8.out.2.2.2 hMA.out).mono ?_
 rintro e w8 ⟨i8, bs8, ts8, tv8, mv8, X8, rfl, hS8, hl8, hx8, hv8, hc8, hn8⟩
 have H8 := Lib.hid (And.intro hS8 (And.intro hl8 (And.intro hx8 (show X8.canon = oneT Q.canon mark from hc8))))
 clear hS8 hl8 hx8 hv8 hc8 hn8 L8
 go_wp2_with fail
 refine (find_ob_sta (zs := []) (us := []) (ms := []) (L := 0) (n := 1) (H8.out.1.later (show Up w8 _ from uq)) (by have := HT.out.2.1; have := H7.out.2.1; have := H8.out.2.1; simp only [List.length_append]; omega) rfl (by simp) rfl (by simp [sumN]) (by decide) rfl (fun j z hj => by simp at hj) (RowV.nil _ _) (fun j s hj => by simp at hj) (RowV.nil _ _) hMA.out).mono ?_
 rintro e w9 ⟨i9, bs9, ts9, tv9, mv9, X9, rfl, hS9, hl9, hx9, hv9, hc9, hn9⟩
 have H9 := Lib.hid (And.intro hS9 (And.intro hl9 (And.intro hx9 (show X9.canon = noneT from hc9))))
 clear hS9 hl9 hx9 hv9 hc9 hn9
 have hbl9 : Hid ((BS ++ bs7 ++ bs8 ++ bs9).length ≤ 1000000) := by have := HT.out.2.1; have := H7.out.2.1; have := H8.out.2.1; have := H9.out.2.1; unfold Hid; simp only [List.length_append]; omega
 have hk9 : Hid (X9.parts = []) := by
   have := Ty.canon_parts X9
   rw [H9.out.2.2.2] at this
   exact List.map_eq_nil_iff.1 this.symm
 go_wp2_with fail
 refine (asked_sta H9.out.1 hbl9.out (more (more (more HT.out.2.2.1))) (more (more (more HT.out.2.2.2.1)))).mono ?_
 rintro e wA ⟨member, ok1, rfl, hSA, hqA⟩
 have HA := Lib.hid (And.intro hSA hqA)
 clear hSA hqA
 go_wp2_with fail
 refine (asked_sta HA.out.1 hbl9.out (more (more H7.out.2.2.1)) (more H8.out.2.2.1)).mono ?_
 rintro e wB ⟨whole, ok2, rfl, hSB, hqB⟩
 have HB := Lib.hid (And.intro hSB hqB)
 clear hSB hqB
 go_wp2_with fail
 refine (asked_bare HB.out.1 hbl9.out H9.out.2.2.1 (more H8.out.2.2.1) (kind_of H9.out.2.2.2) (kind_of H8.out.2.2.2) (.inl hk9.out)).mono ?_
 rintro e wC ⟨lack, rfl, hSC, hqC⟩
 have HC := Lib.hid (And.intro hSC hqC)
 clear hSC hqC
 go_wp2_with fail
 refine (asked_bare HC.out.1 hbl9.out (more H8.out.2.2.1) H9.out.2.2.1 (kind_of H8.out.2.2.2) (kind_of H9.out.2.2.2) (.inr hk9.out)).mono ?_
 rintro e wD ⟨empty, rfl, hSD, hqD⟩
 have HUD : Hid (Up w wD) := Up.trans HUA.out hSD.up
 have hE : empty = true := hqD.2 (by rw [H8.out.2.2.2, H9.out.2.2.2]; exact sub_empty _ _)
 have hLk : lack = mark := by
   have h := HC.out.2
   rw [H8.out.2.2.2, H9.out.2.2.2, sub_lack] at h
   exact Bool.eq_iff_iff.2 h
 have hW : ok1 = true → ok2 = true → whole = member := fun h1 h2 => by
   have q1 := HA.out.2 h1
   have q2 := HB.out.2 h2
   rw [H7.out.2.2.2, H8.out.2.2.2, sub_two, ← q1] at q2
   exact Bool.eq_iff_iff.2 q2
 subst hE hLk
 clear HT H7 H8 H9 HA HB HC hbl9 hk9 hSD hqD
 have hall : (ok1 = false) ∨ (ok1 = true ∧ ok2 = false) ∨ (ok1 = true ∧ ok2 = true ∧ whole = member) := by
   cases ok1
   · exact .inl rfl
   · cases ok2
     · exact .inr (.inl ⟨rfl, rfl⟩)
     · exact .inr (.inr ⟨rfl, rfl, hW rfl rfl⟩)
 clear hW
 rcases hall with rfl | ⟨rfl, rfl⟩ | ⟨rfl, rfl, rfl⟩
 all_goals cases lack
 · go_wp2_with (first | (go_at_call 20; refine (known_any _).mono ?_; rintro e wk ⟨rfl, huk⟩))
   all_goals go_ret
   all_goals exact ⟨rfl, Up.trans HUD.out uq⟩
 · go_wp2_with (first | (go_at_call 20; refine (known_any _).mono ?_; rintro e wk ⟨rfl, huk⟩))
   all_goals go_ret
   all_goals exact ⟨rfl, Up.trans HUD.out uq⟩
 · go_wp2_with (first | (go_at_call 20; refine (known_any _).mono ?_; rintro e wk ⟨rfl, huk⟩))
   all_goals go_ret
   all_goals exact ⟨rfl, Up.trans HUD.out uq⟩
 · go_wp2_with (first | (go_at_call 20; refine (known_any _).mono ?_; rintro e wk ⟨rfl, huk⟩))
   all_goals go_ret
   all_goals exact ⟨rfl, Up.trans HUD.out uq⟩
 all_goals cases whole
 all_goals go_wp2_with (first | (go_at_call 20; refine (known_any _).mono ?_; rintro e wk ⟨rfl, huk⟩))
 all_goals go_ret
 all_goals exact ⟨rfl, Up.trans HUD.out uq⟩
end Go.Proofs.YtiaepldmgighbaaGreatDoor
