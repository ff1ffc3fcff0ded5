import Derived.Test.YtiaepldmgighbaaGreatDoorM16
namespace Go.Proofs.YtiaepldmgighbaaGreatDoor
open Go.RowKit
set_option linter.unusedSimpArgs false
set_option maxRecDepth 100000 in
set_option maxHeartbeats 25600000 in
theorem functions_any (A : Nat) (kx nx ky ny kz : Int) (mx my : ByteArray) (xs ys : List Nat) (xm ym : List Bool) (pa na ma qa oa la : Option Addr) (pc nl nc mc qc ol oc lc : Nat) (w : World) (hx : IntsV w pa xs) (hy : IntsV w qa ys) (hxm : BoolsV w ma xm) (hym : BoolsV w la ym)
   (lx : xs.length = xm.length + 1) (ly : ys.length = ym.length + 1) (fx : xs.length ≤ 100000) (fy : ys.length ≤ 100000) (hat : AtK A (ys.getD ym.length 0) w kz) :
   Calls Tryz.prog 133 #[.agg #[.pointer (some ⟨A, 0, none⟩)], .agg #[.int .i64 kx, .int .i64 nx, .string mx, .slice pa xs.length pc, .slice na nl nc, .slice ma xm.length mc], .agg #[.int .i64 ky, .int .i64 ny, .string my, .slice qa ys.length qc, .slice oa ol oc, .slice la ym.length lc]] w fun e w' =>
     ∃ v, e = .returned (QV (funQ xm ym xs ys (decide (kz = 4))) v) ∧ PairsAt (fun g => w.heap.size ≤ g) w' v (funQ xm ym xs ys (decide (kz = 4))).pairs ∧ Up w w' := by
 have HX := Lib.hid (And.intro hx (And.intro hy (And.intro hxm (And.intro hym hat))))
 have HL := Lib.hid (And.intro lx (And.intro ly (And.intro fx fy)))
 clear hx hy hxm hym hat lx ly fx fy
 go_enter Tryz.func133, Tryz.ntmps133
 go_upto_region 3 with (fail)
 refine range_named fun A1 W1 hA1 hW1 => ?_
 have u1 : Hid (Up w W1) := by subst hW1; exact uq
 obtain ⟨T0, T1, T2, T3⟩ := four (show Up _ W1 from by rw [hW1]; exact Up.refl _)
 have HT := Lib.hid (And.intro T0 (And.intro T1 (And.intro T2 T3)))
 clear hW1 T0 T1 T2 T3
 subst hA1
 have z0 := cell_of HT.out.2.1 5
 have zl := lt_of_heap HT.out.2.1
 have z1 := cell_of HT.out.2.2.1 5
 have zk := lt_of_heap HT.out.2.2.1
 simp only [List.getElem?_toArray, List.getElem?_cons_zero, List.getElem?_cons_succ] at z0 z1
 have r0 : ∀ i : RUp W1, i.W.cell? ⟨w.heap.size + 1, 5, none⟩ = some (.slice ma xm.length mc) := fun i => (i.up.cells _ _ zl).trans z0
 have r1 : ∀ i : RUp W1, i.W.cell? ⟨w.heap.size + 1 + 1, 5, none⟩ = some (.slice la ym.length lc) := fun i => (i.up.cells _ _ zk).trans z1
 refine wp_region_rup (by kernel_rfl) (by kernel_rfl) ?_
 repeat (go_big_quiet_step (fail))
 refine wpQuiet_nil ?_
 intro W2 hw'
 have hu2 : Up W1 W2 := by
   obtain ⟨i, rfl⟩ := hw'
   exact i.up
 clear hw'
 have u2 : Hid (Up w W2) := u1.out.trans hu2
 have HT2 := Lib.hid (And.intro (hu2.get HT.out.1) (And.intro (hu2.get HT.out.2.1) (And.intro (hu2.get HT.out.2.2.1) (hu2.get HT.out.2.2.2))))
 clear r0 r1 z0 z1 zl zk HT
 have hll : (xm.length : Int) ≤ 100000 ∧ (ym.length : Int) ≤ 100000 := by have := HL.out; omega
 have z0 := cell_of HT2.out.2.1 5
 have zl := lt_of_heap HT2.out.2.1
 simp only [List.getElem?_toArray, List.getElem?_cons_zero, List.getElem?_cons_succ] at z0
 go_wp2_with fail
 go_loopw [9, 23] (fun m i wr => ∃ j : Nat, j ≤ xm.length ∧ i = .int .i64 j ∧ m = .int .i64 ((xm.take j).count false : Nat) ∧ Up W2 wr) (fun _ i _ => xm.length - (intOf i).toNat)
 case atStart => exact ⟨0, Nat.zero_le _, rfl, rfl, Up.refl _⟩
 case round =>
   obtain ⟨j, hj, rfl, rfl, hup⟩ := hrel
   have hcb := List.count_le_length (a := false) (l := xm.take j)
   by_cases hlt : j < xm.length
   · have hji : (j : Int) < xm.length := by omega
     obtain ⟨mk, hmk⟩ : ∃ mk, xm[j]? = some mk := ⟨_, List.getElem?_eq_getElem hlt⟩
     obtain ⟨g, off, rfl, hgl, hc⟩ := HX.out.2.2.1 j mk hmk
     have y0 := ((u2.out.trans hup).cells _ _ hgl).trans hc
     have yl : g < wr.heap.size := Nat.lt_of_lt_of_le hgl (u2.out.trans hup).size
     have hcn : Hid ((xm.take (j + 1)).count false = (xm.take j).count false + (if mk = false then 1 else 0)) := by
       unfold Hid
       rw [List.take_add_one, hmk, List.count_append]
       cases mk <;> rfl
     obtain ⟨c, hc0⟩ : ∃ c, Hid ((xm.take j).count false = c) := ⟨_, rfl⟩
     have hcl : (c : Int) ≤ 100000 := by have := HL.out; have := hc0.out; rw [List.length_take] at hcb; omega
     rw [hc0.out] at hcn ⊢
     clear hcb hmk hc
     have HU := Lib.hid hup
     clear hup
     rcases mk with _ | _
     · go_wp2_with fail
       exact ⟨⟨j + 1, by omega, by simp, by rw [hcn.out]; simp, HU.out.trans uq⟩, by simp [intOf]; omega⟩
     · go_wp2_with fail
       exact ⟨⟨j + 1, by omega, by simp, by rw [hcn.out]; simp, HU.out.trans uq⟩, by simp [intOf]; omega⟩
   · obtain rfl : j = xm.length := by omega
     obtain ⟨W3, hW3⟩ : ∃ W3, W3 = wr := ⟨_, rfl⟩
     subst hW3
     rw [List.take_length] at hcb ⊢
     have hxl := HL.out.2.2.1
     have hxe := HL.out.1
     have hcl : (xm.count false : Int) ≤ 100000 := by omega
     obtain ⟨must, hmu⟩ : ∃ c, Hid (xm.count false = c) := ⟨_, rfl⟩
     rw [hmu.out] at hcl ⊢
     clear hcb hxl hxe hlt z0 zl
     have HT3 := Lib.hid (And.intro (hup.get HT2.out.1) (And.intro (hup.get HT2.out.2.1) (And.intro (hup.get HT2.out.2.2.1) (hup.get HT2.out.2.2.2))))
     have u3 : Hid (Up w W3) := u2.out.trans hup
     clear HT2 hup hu2
     by_cases hmm : ym.length < must
     · have hmi : (must : Int) > ym.length := by omega
       have s0 := HT3.out.2.2.2
       have b0 := cell_of s0 0; have g0 := ice_of s0 0; have b1 := cell_of s0 1; have g1 := ice_of s0 1; have b2 := cell_of s0 2; have g2 := ice_of s0 2; have b3 := cell_of s0 3; have g3 := ice_of s0 3; have b4 := cell_of s0 4; have g4 := ice_of s0 4; have b9 := lt_of_heap s0; (try simp only [World.size_alloc, List.getElem?_toArray, List.getElem?_cons_zero, List.getElem?_cons_succ] at b0 b1 b2 b3 b4 g0 g1 g2 g3 g4 b9); clear s0
       go_wp2_with (first | (go_at_call 131; refine (says_any _ _).mono ?_; rintro e w5 ⟨rfl, hu5⟩; have u5 : Up W3 w5 := uq; have s0 := u5.get HT3.out.2.2.2; have b0 := cell_of s0 0; have g0 := ice_of s0 0; have b1 := cell_of s0 1; have g1 := ice_of s0 1; have b2 := cell_of s0 2; have g2 := ice_of s0 2; have b3 := cell_of s0 3; have g3 := ice_of s0 3; have b4 := cell_of s0 4; have g4 := ice_of s0 4; have b9 := lt_of_heap s0; (try simp only [World.size_alloc, List.getElem?_toArray, List.getElem?_cons_zero, List.getElem?_cons_succ] at b0 b1 b2 b3 b4 g0 g1 g2 g3 g4 b9); clear s0))
       refine bodyPost_ret (v := QV (sayQ false) (.slice none 0 0)) (by simp [results, Tryz.results133, go_sem, *]; rfl) rfl ?_
       have e : funQ xm ym xs ys (decide (kz = 4)) = sayQ false := by
         unfold funQ
         rw [hmu.out, if_pos hmm]
       rw [e]
       have uw5 : Up w w5 := u3.out.trans u5
       exact ⟨_, rfl, PairsAt.nil _ _, uq⟩
     · have hmi : ¬ (must : Int) > ym.length := by omega
       have hq : Hid (funQ xm ym xs ys (decide (kz = 4)) = allQ (funP xm.length ym.length xs ys ++ if decide (kz = 4) = true then [] else [(xs.getD xm.length 0, ys.getD ym.length 0)])) := by
         unfold Hid funQ
         rw [hmu.out, if_neg hmm]
       have hcs : xm.length ≤ ym.length ∨ ym.length < xm.length := Nat.lt_or_ge _ _ |>.symm
       rcases hcs with hle | hle
       all_goals (go_wp2_with fail
                  have hqb := QBox.start W3 true
                  obtain ⟨WQ, hWQ⟩ : ∃ WQ, W3.alloc (.cells #[.bool false, .bool false, .bool true, .bool false, .slice none 0 0] QueT) = WQ := ⟨_, rfl⟩
                  rw [hWQ] at hqb ⊢
                  clear hWQ
                  go_loopw [40] (fun i W4 => ∃ (j : Nat) (v : Value), j ≤ min xm.length ym.length ∧ i = .int .i64 j ∧ QBox W3 true (funP j j xs ys) v W4) (fun i _ => min xm.length ym.length - (intOf i).toNat)
                  case atStart => exact ⟨0, .slice none 0 0, Nat.zero_le _, rfl, hqb⟩
                  case round =>
                    obtain ⟨j, v, hj, rfl, hQ⟩ := hrel
                    obtain ⟨va, vcap, hva⟩ := ownsRow_form hQ.row
                    rw [funP_len] at hva
                    subst hva
                    have HR := Lib.hid hQ
                    have hup := hQ.up
                    have hqc := hQ.box
                    have z0 := cell_of (hup.get HT3.out.2.1) 3
                    have zl := lt_of_heap (hup.get HT3.out.2.1)
                    have z1 := cell_of (hup.get HT3.out.2.2.1) 3
                    have zk := lt_of_heap (hup.get HT3.out.2.2.1)
                    have q0 := cell_of hqc 4
                    have q1 := lt_of_heap hqc
                    have q2 := ice_of hqc 4
                    simp only [List.getElem?_toArray, List.getElem?_cons_zero, List.getElem?_cons_succ] at z0 z1 q0 q2
                    by_cases hlt : j < min xm.length ym.length
                    · have hj1 : (j : Int) < xm.length := by omega
                      have hj2 : (j : Int) < ym.length := by omega
                      have hj3 : (j : Int) < xs.length := by have := HL.out; omega
                      have hj4 : (j : Int) < ys.length := by have := HL.out; omega
                      obtain ⟨x, hx⟩ : ∃ x, xs[j]? = some x := ⟨_, List.getElem?_eq_getElem (by omega)⟩
                      obtain ⟨y, hy⟩ : ∃ y, ys[j]? = some y := ⟨_, List.getElem?_eq_getElem (by omega)⟩
                      obtain ⟨g1, off1, rfl, hgl1, hc1⟩ := HX.out.1 j x hx
                      obtain ⟨g2, off2, rfl, hgl2, hc2⟩ := HX.out.2.1 j y hy
                      have u4 : Up w wr := u3.out.trans hup
                      have c1 := (u4.cells _ _ hgl1).trans hc1
                      have c1l := Nat.lt_of_lt_of_le hgl1 u4.size
                      have c2 := (u4.cells _ _ hgl2).trans hc2
                      have c2l := Nat.lt_of_lt_of_le hgl2 u4.size
                      obtain ⟨i0, hi, hz0, hz1, hz2⟩ := info_parts pairX_info
                      have HC := Lib.hid (And.intro hc1 hc2)
                      clear hqc hQ hup hc1 hc2
                      go_wp2_with fail
                      have hnx := Lib.hid (funP_next hx hy)
                      clear hx hy
                      have hdr : Hid (∀ o, (wr.alloc o).drew = wr.drew.alloc o) := fun _ => rfl
                      have HROW : Hid (wr.ownsRow 0 PairT 2 (.slice va j vcap) j (flatP (funP j j xs ys))) := by have h := HR.out.row; rw [funP_len] at h; exact h
                      have hup3 : Up W3 wr := HR.out.up
                      have HS : Hid (∀ X : World, Up W3 X → X.cell? ⟨w.heap.size + 1, 3, none⟩ = some (.slice (some ⟨g1, off1, none⟩) xs.length pc) ∧ X.cell? ⟨w.heap.size + 1 + 1, 3, none⟩ = some (.slice (some ⟨g2, off2, none⟩) ys.length qc) ∧ X.cell? ⟨g1, off1 + j, none⟩ = some (.int .i64 x) ∧ X.cell? ⟨g2, off2 + j, none⟩ = some (.int .i64 y)) := fun X hX => ⟨cell_of (hX.get HT3.out.2.1) 3, cell_of (hX.get HT3.out.2.2.1) 3, ((u3.out.trans hX).cells _ _ hgl1).trans HC.out.1, ((u3.out.trans hX).cells _ _ hgl2).trans HC.out.2⟩
                      refine wp_region_noPanic ?_
                      refine wp_region_held_drew (S := (fun X => X.cell? ⟨w.heap.size + 1, 3, none⟩ = some (.slice (some ⟨g1, off1, none⟩) xs.length pc) ∧ X.cell? ⟨w.heap.size + 1 + 1, 3, none⟩ = some (.slice (some ⟨g2, off2, none⟩) ys.length qc) ∧ X.cell? ⟨g1, off1 + j, none⟩ = some (.int .i64 x) ∧ X.cell? ⟨g2, off2 + j, none⟩ = some (.int .i64 y))) (by kernel_rfl) (HS.out _ (show Up W3 _ from uq)) (fun hHeld => ?_)
                      (refine wpAnyH_take (i := 0) (v := ?_) rfl (by kernel_rfl) (by kernel_rfl) (by kernel_rfl) (fun _ _ _ h => h) (Or.inl ⟨by rfl, ?_⟩) (by assumption) ?_; rotate_left 1; focus (intro w hSw; (try dsimp only at hSw); go_simp; (try with_reducible rfl))); (try simp only [Act.put, List.setIfInBounds_toArray, List.set_cons_zero, List.set_cons_succ]); (refine wpAnyH_take (i := 2) (v := ?_) rfl (by kernel_rfl) (by kernel_rfl) (by kernel_rfl) (fun _ _ _ h => h) (Or.inl ⟨by rfl, ?_⟩) (by assumption) ?_; rotate_left 1; focus (intro w hSw; (try dsimp only at hSw); go_simp; (try with_reducible rfl))); (try simp only [Act.put, List.setIfInBounds_toArray, List.set_cons_zero, List.set_cons_succ]); (refine wpAnyH_take (i := 3) (v := ?_) rfl (by kernel_rfl) (by kernel_rfl) (by kernel_rfl) (fun _ _ _ h => h) (Or.inl ⟨by rfl, ?_⟩) (by assumption) ?_; rotate_left 1; focus (intro w hSw; (try dsimp only at hSw); go_simp; (try with_reducible rfl))); (try simp only [Act.put, List.setIfInBounds_toArray, List.set_cons_zero, List.set_cons_succ]); (refine wpAnyH_take (i := 4) (v := ?_) rfl (by kernel_rfl) (by kernel_rfl) (by kernel_rfl) (fun _ _ _ h => h) (Or.inl ⟨by rfl, ?_⟩) (by assumption) ?_; rotate_left 1; focus (intro w hSw; (try dsimp only at hSw); go_simp; (try with_reducible rfl))); (try simp only [Act.put, List.setIfInBounds_toArray, List.set_cons_zero, List.set_cons_succ]); (refine wpAnyH_take (i := 5) (v := ?_) rfl (by kernel_rfl) (by kernel_rfl) (by kernel_rfl) (fun _ _ _ h => h) (Or.inl ⟨by rfl, ?_⟩) (by assumption) ?_; rotate_left 1; focus (intro w hSw; (try dsimp only at hSw); go_simp; (try with_reducible rfl))); (try simp only [Act.put, List.setIfInBounds_toArray, List.set_cons_zero, List.set_cons_succ]); (refine wpAnyH_take (i := 6) (v := ?_) rfl (by kernel_rfl) (by kernel_rfl) (by kernel_rfl) (fun _ _ _ h => h) (Or.inl ⟨by rfl, ?_⟩) (by assumption) ?_; rotate_left 1; focus (intro w hSw; (try dsimp only at hSw); go_simp; (try with_reducible rfl))); (try simp only [Act.put, List.setIfInBounds_toArray, List.set_cons_zero, List.set_cons_succ]); (refine wpAnyH_take (i := 7) (v := ?_) rfl (by kernel_rfl) (by kernel_rfl) (by kernel_rfl) (fun _ _ _ h => h) (Or.inl ⟨by rfl, ?_⟩) (by assumption) ?_; rotate_left 1; focus (intro w hSw; (try dsimp only at hSw); go_simp; (try with_reducible rfl))); (try simp only [Act.put, List.setIfInBounds_toArray, List.set_cons_zero, List.set_cons_succ]); (refine wpAnyH_take (i := 8) (v := ?_) rfl (by kernel_rfl) (by kernel_rfl) (by kernel_rfl) (fun _ _ _ h => h) (Or.inl ⟨by rfl, ?_⟩) (by assumption) ?_; rotate_left 1; focus (intro w hSw; (try dsimp only at hSw); go_simp; (try with_reducible rfl))); (try simp only [Act.put, List.setIfInBounds_toArray, List.set_cons_zero, List.set_cons_succ]); (refine wpAnyH_take (i := 9) (v := ?_) rfl (by kernel_rfl) (by kernel_rfl) (by kernel_rfl) (fun _ _ _ h => h) (Or.inl ⟨by rfl, ?_⟩) (by assumption) ?_; rotate_left 1; focus (intro w hSw; (try dsimp only at hSw); go_simp; (try with_reducible rfl))); (try simp only [Act.put, List.setIfInBounds_toArray, List.set_cons_zero, List.set_cons_succ]); (refine wpAnyH_take (i := 10) (v := ?_) rfl (by kernel_rfl) (by kernel_rfl) (by kernel_rfl) (fun _ _ _ h => h) (Or.inl ⟨by rfl, ?_⟩) (by assumption) ?_; rotate_left 1; focus (intro w hSw; (try dsimp only at hSw); go_simp; (try with_reducible rfl))); (try simp only [Act.put, List.setIfInBounds_toArray, List.set_cons_zero, List.set_cons_succ]); (refine wpAnyH_take (i := 11) (v := ?_) rfl (by kernel_rfl) (by kernel_rfl) (by kernel_rfl) (fun _ _ _ h => h) (Or.inl ⟨by rfl, ?_⟩) (by assumption) ?_; rotate_left 1; focus (intro w hSw; (try dsimp only at hSw); go_simp; (try with_reducible rfl))); (try simp only [Act.put, List.setIfInBounds_toArray, List.set_cons_zero, List.set_cons_succ]); (refine wpAnyH_take (i := 12) (v := ?_) rfl (by kernel_rfl) (by kernel_rfl) (by kernel_rfl) (fun _ _ _ h => h) (Or.inl ⟨by rfl, ?_⟩) (by assumption) ?_; rotate_left 1; focus (intro w hSw; (try dsimp only at hSw); go_simp; (try with_reducible rfl))); (try simp only [Act.put, List.setIfInBounds_toArray, List.set_cons_zero, List.set_cons_succ])
                      refine wpAnyH_ready (rs := [1, 13]) (by kernel_rfl) (by simp) ?_
                      refine AllReadyH.cons (by simp only [List.getElem?_toArray, List.getElem?_cons_succ, List.getElem?_cons_zero]; exact rfl) (fun K hK => ?_) (AllReadyH.cons (by simp only [List.getElem?_toArray, List.getElem?_cons_succ, List.getElem?_cons_zero]; exact rfl) (fun K hK => ?_) AllReadyH.nil)
                      go_simp
                      refine hK.out _ _ (HS.out _ (show Up W3 _ from uq)) (fun hHeld => ?_); clear hK K; (try simp only [Act.put, List.setIfInBounds_toArray, List.set_cons_zero, List.set_cons_succ])
                      refine wpAnyH_ready (rs := [13]) (by kernel_rfl) (by simp) ?_; refine AllReadyH.cons (by simp only [List.getElem?_toArray, List.getElem?_cons_succ, List.getElem?_cons_zero]; exact rfl) (fun K hK => ?_) AllReadyH.nil
                      go_simp
                      refine hK.out _ _ (HS.out _ (show Up W3 _ from uq)) (fun hHeld => ?_); clear hK K; (try simp only [Act.put, List.setIfInBounds_toArray, List.set_cons_zero, List.set_cons_succ])
                      rotate_left 1
                      go_simp
                      refine hK.out _ _ (HS.out _ (show Up W3 _ from uq)) (fun hHeld => ?_); clear hK K; (try simp only [Act.put, List.setIfInBounds_toArray, List.set_cons_zero, List.set_cons_succ])
                      refine wpAnyH_ready (rs := [1]) (by kernel_rfl) (by simp) ?_; refine AllReadyH.cons (by simp only [List.getElem?_toArray, List.getElem?_cons_succ, List.getElem?_cons_zero]; exact rfl) (fun K hK => ?_) AllReadyH.nil
                      go_simp
                      refine hK.out _ _ (HS.out _ (show Up W3 _ from uq)) (fun hHeld => ?_); clear hK K; (try simp only [Act.put, List.setIfInBounds_toArray, List.set_cons_zero, List.set_cons_succ])
                      all_goals (refine wpAnyH_ready (rs := [14]) (by kernel_rfl) (by simp) ?_; refine AllReadyH.cons (by simp only [List.getElem?_toArray, List.getElem?_cons_succ, List.getElem?_cons_zero]; exact rfl) (fun K hK => ?_) AllReadyH.nil
                                 (try rw [hdr.out]); refine step_append_new rfl _ _ 86 rfl PairT i0 (.agg #[.int .i64 0, .int .i64 0]) 2 16 Tryz.underlying86 hi hz0 hz1 hz2 rfl (by decide) (.slice va j vcap) j (flatP (funP j j xs ys)) rfl (ownsRow_up HROW.out uq) _ 1 1 rfl (by first | rfl | (simp; done) | omega) rfl (by intro u hu; have hu2 : u = .int .i64 y ∨ u = .int .i64 x := (by simpa using hu); rcases hu2 with hu2 | hu2 <;> rw [hu2] <;> rfl) (by unfold maxLen; omega) (by omega) ?_; intro sa' cap' w7 hown' hgrow hblk; have U7 : Up W3 w7 := Up.grown (hup3.trans (show Up wr _ from uq)) hgrow (fun r e => Nat.le_of_lt (HR.out.own r e)); have s0 := grown_get hgrow (alloc_keep (show wr.drew.heap[W3.heap.size]? = some _ from HR.out.box)) HR.out.far; have HY := Lib.hid (And.intro hown' (And.intro hblk (And.intro s0 U7))); have b0 := cell_of s0 0; have g0 := ice_of s0 0; have b1 := cell_of s0 1; have g1 := ice_of s0 1; have b2 := cell_of s0 2; have g2 := ice_of s0 2; have b3 := cell_of s0 3; have g3 := ice_of s0 3; have b4 := cell_of s0 4; have g4 := ice_of s0 4; have b9 := lt_of_heap s0; (try simp only [World.size_alloc, List.getElem?_toArray, List.getElem?_cons_zero, List.getElem?_cons_succ] at b0 b1 b2 b3 b4 g0 g1 g2 g3 g4 b9); clear s0; clear hown' hgrow hblk
                                 refine hK.out _ _ (HS.out _ (show Up W3 _ from uq)) (fun hHeld => ?_); clear hK K; (try simp only [Act.put, List.setIfInBounds_toArray, List.set_cons_zero, List.set_cons_succ])
                                 (refine wpAnyH_take (i := 15) (v := ?_) rfl (by kernel_rfl) (by kernel_rfl) (by kernel_rfl) (fun _ _ _ h => h) (Or.inl ⟨by rfl, ?_⟩) (by assumption) ?_; rotate_left 1; focus (intro w hSw; (try dsimp only at hSw); go_simp; (try with_reducible rfl))); (try simp only [Act.put, List.setIfInBounds_toArray, List.set_cons_zero, List.set_cons_succ])
                                 refine wpAnyH_ready (rs := [16]) (by kernel_rfl) (by simp) ?_; refine AllReadyH.cons (by simp only [List.getElem?_toArray, List.getElem?_cons_succ, List.getElem?_cons_zero]; exact rfl) (fun K hK => ?_) AllReadyH.nil
                                 go_simp
                                 refine hK.out _ _ (HS.out _ (show Up W3 _ from uq)) (fun hHeld => ?_); clear hK K; (try simp only [Act.put, List.setIfInBounds_toArray, List.set_cons_zero, List.set_cons_succ])
                                 refine wpAnyH_done (by kernel_rfl) ?_ _
                                 refine NoPanic.normal ?_
                                 clear hHeld
                                 go_wp2_with fail
                                 exact ⟨⟨j + 1, _, by omega, by simp, by rw [hnx.out]; exact HR.out.push (funP_len _ _ _).symm rfl rfl HY.out.1 HY.out.2.1 HY.out.2.2.1 HY.out.2.2.2⟩, by simp [intOf]; omega⟩)
                    · obtain rfl : j = min xm.length ym.length := by omega
                      have hne : Hid (funP (min xm.length ym.length) (min xm.length ym.length) xs ys = funP xm.length ym.length xs ys) := by unfold Hid funP; rw [Nat.min_self]
                      obtain ⟨zy, hzy⟩ : ∃ z, Hid (ys.getD ym.length 0 = z) := ⟨_, rfl⟩
                      have hy : ys[ym.length]? = some zy := by rw [← hzy.out, List.getD_eq_getElem?_getD, List.getElem?_eq_getElem (by have := HL.out; omega)]; rfl
                      obtain ⟨zx, hzx⟩ : ∃ z, Hid (xs.getD xm.length 0 = z) := ⟨_, rfl⟩
                      have hx : xs[xm.length]? = some zx := by rw [← hzx.out, List.getD_eq_getElem?_getD, List.getElem?_eq_getElem (by have := HL.out; omega)]; rfl
                      obtain ⟨g1, off1, rfl, hgl1, hc1⟩ := HX.out.1 xm.length zx hx
                      obtain ⟨g2, off2, rfl, hgl2, hc2⟩ := HX.out.2.1 ym.length zy hy
                      have hat := HX.out.2.2.2.2
                      rw [hzy.out] at hat
                      have HAT := Lib.hid hat
                      have hj3 : (xm.length : Int) < xs.length := by have := HL.out; omega
                      have hj4 : (ym.length : Int) < ys.length := by have := HL.out; omega
                      have hup3 : Up W3 wr := hup
                      have HQ : Hid (QBox W3 true (funP xm.length ym.length xs ys) (.slice va (min xm.length ym.length) vcap) wr) := by rw [← hne.out]; exact HR.out
                      have HC := Lib.hid (And.intro hc1 hc2)
                      have HS : Hid (∀ X : World, Up W3 X → X.cell? ⟨w.heap.size, 0, none⟩ = some (.pointer (some ⟨A, 0, none⟩)) ∧ X.cell? ⟨w.heap.size + 1 + 1, 3, none⟩ = some (.slice (some ⟨g2, off2, none⟩) ys.length qc) ∧ X.cell? ⟨g2, off2 + ym.length, none⟩ = some (.int .i64 zy)) := fun X hX => ⟨cell_of (hX.get HT3.out.1) 0, cell_of (hX.get HT3.out.2.2.1) 3, ((u3.out.trans hX).cells _ _ hgl2).trans HC.out.2⟩
                      clear hx hy hat hqc hQ hup hc1 hc2 q0 q1 q2 z0 z1
                      go_wp2_with fail
                      go_region_held3 (fun X => X.cell? ⟨w.heap.size, 0, none⟩ = some (.pointer (some ⟨A, 0, none⟩)) ∧ X.cell? ⟨w.heap.size + 1 + 1, 3, none⟩ = some (.slice (some ⟨g2, off2, none⟩) ys.length qc) ∧ X.cell? ⟨g2, off2 + ym.length, none⟩ = some (.int .i64 zy)) (exact HS.out _ (show Up W3 _ from uq)) (first
                        | (go_at_call 130; refine (HAT.out _ (u3.out.trans (show Up W3 _ from uq))).mono ?_; rintro e w5 ⟨n5, nm5, pa5, pl5, pc5, na5, nl5, nc5, ma5, ml5, mc5, rfl, hu5⟩; have HQ5 := Lib.hid (HQ.out.later (show Up wr w5 from uq)); have U5 : Up W3 w5 := uq; have hfd : ∀ W, (Instr.field 46 (.agg #[.int .i64 kz, .int .i64 n5, .string nm5, .slice pa5 pl5 pc5, .slice na5 nl5 nc5, .slice ma5 ml5 mc5]) 0).run Tryz.prog W = .ok (.int .i64 kz) W := fun W => by kernel_rfl))
                      rename_i hHeld
                      clear hHeld
                      have HL5 : Hid (w.heap.size + 1 + 1 + 1 < W3.heap.size ∧ (funP xm.length ym.length xs ys).length ≤ 100000) := ⟨lt_of_heap HT3.out.2.2.2, by unfold funP; rw [List.length_map, List.length_range]; omega⟩
                      have u5 : Hid (Up w w5) := u3.out.trans U5
                      by_cases hk : kz = 4
                      · subst hk
                        have e0 : Hid (funQ xm ym xs ys true = allQ (funP xm.length ym.length xs ys)) := by have h := hq.out; unfold Hid; simpa using h
                        have s0 := U5.get HT3.out.2.2.2
                        have d0 := cell_of s0 0; have df0 := ice_of s0 0; have d1 := cell_of s0 1; have df1 := ice_of s0 1; have d2 := cell_of s0 2; have df2 := ice_of s0 2; have d3 := cell_of s0 3; have df3 := ice_of s0 3; have d4 := cell_of s0 4; have df4 := ice_of s0 4; have dl := lt_of_heap s0; (try simp only [World.size_alloc, List.getElem?_toArray, List.getElem?_cons_zero, List.getElem?_cons_succ] at d0 df0 d1 df1 d2 df2 d3 df3 d4 df4 dl); clear s0
                        have s1 := HQ5.out.box
                        have c0 := cell_of s1 0; have cf0 := ice_of s1 0; have c1 := cell_of s1 1; have cf1 := ice_of s1 1; have c2 := cell_of s1 2; have cf2 := ice_of s1 2; have c3 := cell_of s1 3; have cf3 := ice_of s1 3; have c4 := cell_of s1 4; have cf4 := ice_of s1 4; have cl := lt_of_heap s1; (try simp only [World.size_alloc, List.getElem?_toArray, List.getElem?_cons_zero, List.getElem?_cons_succ] at c0 cf0 c1 cf1 c2 cf2 c3 cf3 c4 cf4 cl); clear s1
                        obtain ⟨mn, hmn⟩ : ∃ mn, Hid (min xm.length ym.length = mn) := ⟨_, rfl⟩
                        rw [hmn.out] at HQ5 c4
                        (try rw [hmn.out])
                        clear hfd HAT HX HC HS
                        go_wp2_with fail
                        refine bodyPost_ret (v := QV (allQ (funP xm.length ym.length xs ys)) (.slice va mn vcap)) (by simp [results, Tryz.results133, go_sem, d0, d1, d2, d3, d4, df0, df1, df2, df3, df4, dl]; rfl) rfl ?_
                        have e1 : decide ((4 : Int) = 4) = true := rfl
                        (try rw [e1])
                        rw [e0.out]
                        have u5' := u5.out
                        exact ⟨_, rfl, ((HQ5.out.pairs (B := fun g => W3.heap.size ≤ g) (by have := HL5.out; omega) (fun g h => h)).five (fun g hg => by have := HL5.out; omega)).loose (fun g hg => by have := HL5.out; omega), uq⟩
                      · have e0 : Hid (funQ xm ym xs ys (decide (kz = 4)) = allQ (funP xm.length ym.length xs ys ++ [(zx, zy)])) := by unfold Hid; rw [hq.out, hzx.out, hzy.out]; simp [hk]
                        have s1 := HQ5.out.box
                        have c0 := cell_of s1 0; have cf0 := ice_of s1 0; have c1 := cell_of s1 1; have cf1 := ice_of s1 1; have c2 := cell_of s1 2; have cf2 := ice_of s1 2; have c3 := cell_of s1 3; have cf3 := ice_of s1 3; have c4 := cell_of s1 4; have cf4 := ice_of s1 4; have cl := lt_of_heap s1; (try simp only [World.size_alloc, List.getElem?_toArray, List.getElem?_cons_zero, List.getElem?_cons_succ] at c0 cf0 c1 cf1 c2 cf2 c3 cf3 c4 cf4 cl); clear s1
                        obtain ⟨i0, hi, hz0, hz1, hz2⟩ := info_parts pairX_info
                        have HS2 : Hid (∀ X : World, Up W3 X → X.cell? ⟨w.heap.size + 1, 3, none⟩ = some (.slice (some ⟨g1, off1, none⟩) xs.length pc) ∧ X.cell? ⟨w.heap.size + 1 + 1, 3, none⟩ = some (.slice (some ⟨g2, off2, none⟩) ys.length qc) ∧ X.cell? ⟨g1, off1 + xm.length, none⟩ = some (.int .i64 zx) ∧ X.cell? ⟨g2, off2 + ym.length, none⟩ = some (.int .i64 zy)) := fun X hX => ⟨cell_of (hX.get HT3.out.2.1) 3, cell_of (hX.get HT3.out.2.2.1) 3, ((u3.out.trans hX).cells _ _ hgl1).trans HC.out.1, ((u3.out.trans hX).cells _ _ hgl2).trans HC.out.2⟩
                        have hdr : Hid (∀ o, (w5.alloc o).drew = w5.drew.alloc o) := fun _ => rfl
                        have hfl : (funP xm.length ym.length xs ys).length = min xm.length ym.length := by unfold funP; rw [List.length_map, List.length_range]
                        have HROW : Hid (w5.ownsRow 0 PairT 2 (.slice va (min xm.length ym.length) vcap) (min xm.length ym.length) (flatP (funP xm.length ym.length xs ys))) := by have h := HQ5.out.row; rw [hfl] at h; exact h
                        have HFL := Lib.hid hfl
                        obtain ⟨mn, hmn⟩ : ∃ mn, Hid (min xm.length ym.length = mn) := ⟨_, rfl⟩
                        have hmnl : mn ≤ 100000 := by have := hmn.out; omega
                        rw [hmn.out] at HQ5 HROW HFL c4
                        (try rw [hmn.out])
                        clear hfl hfd HAT HS
                        go_wp2_with fail
                        refine wp_region_noPanic ?_
                        refine wp_region_held_drew (S := (fun X => X.cell? ⟨w.heap.size + 1, 3, none⟩ = some (.slice (some ⟨g1, off1, none⟩) xs.length pc) ∧ X.cell? ⟨w.heap.size + 1 + 1, 3, none⟩ = some (.slice (some ⟨g2, off2, none⟩) ys.length qc) ∧ X.cell? ⟨g1, off1 + xm.length, none⟩ = some (.int .i64 zx) ∧ X.cell? ⟨g2, off2 + ym.length, none⟩ = some (.int .i64 zy))) (by kernel_rfl) (HS2.out _ (show Up W3 _ from uq)) (fun hHeld => ?_)
                        (refine wpAnyH_take (i := 0) (v := ?_) rfl (by kernel_rfl) (by kernel_rfl) (by kernel_rfl) (fun _ _ _ h => h) (Or.inl ⟨by rfl, ?_⟩) (by assumption) ?_; rotate_left 1; focus (intro w hSw; (try dsimp only at hSw); go_simp; (try with_reducible rfl))); (try simp only [Act.put, List.setIfInBounds_toArray, List.set_cons_zero, List.set_cons_succ]); (refine wpAnyH_take (i := 2) (v := ?_) rfl (by kernel_rfl) (by kernel_rfl) (by kernel_rfl) (fun _ _ _ h => h) (Or.inl ⟨by rfl, ?_⟩) (by assumption) ?_; rotate_left 1; focus (intro w hSw; (try dsimp only at hSw); go_simp; (try with_reducible rfl))); (try simp only [Act.put, List.setIfInBounds_toArray, List.set_cons_zero, List.set_cons_succ]); (refine wpAnyH_take (i := 3) (v := ?_) rfl (by kernel_rfl) (by kernel_rfl) (by kernel_rfl) (fun _ _ _ h => h) (Or.inl ⟨by rfl, ?_⟩) (by assumption) ?_; rotate_left 1; focus (intro w hSw; (try dsimp only at hSw); go_simp; (try with_reducible rfl))); (try simp only [Act.put, List.setIfInBounds_toArray, List.set_cons_zero, List.set_cons_succ]); (refine wpAnyH_take (i := 4) (v := ?_) rfl (by kernel_rfl) (by kernel_rfl) (by kernel_rfl) (fun _ _ _ h => h) (Or.inl ⟨by rfl, ?_⟩) (by assumption) ?_; rotate_left 1; focus (intro w hSw; (try dsimp only at hSw); go_simp; (try with_reducible rfl))); (try simp only [Act.put, List.setIfInBounds_toArray, List.set_cons_zero, List.set_cons_succ]); (refine wpAnyH_take (i := 5) (v := ?_) rfl (by kernel_rfl) (by kernel_rfl) (by kernel_rfl) (fun _ _ _ h => h) (Or.inl ⟨by rfl, ?_⟩) (by assumption) ?_; rotate_left 1; focus (intro w hSw; (try dsimp only at hSw); go_simp; (try with_reducible rfl))); (try simp only [Act.put, List.setIfInBounds_toArray, List.set_cons_zero, List.set_cons_succ]); (refine wpAnyH_take (i := 6) (v := ?_) rfl (by kernel_rfl) (by kernel_rfl) (by kernel_rfl) (fun _ _ _ h => h) (Or.inl ⟨by rfl, ?_⟩) (by assumption) ?_; rotate_left 1; focus (intro w hSw; (try dsimp only at hSw); go_simp; (try with_reducible rfl))); (try simp only [Act.put, List.setIfInBounds_toArray, List.set_cons_zero, List.set_cons_succ]); (refine wpAnyH_take (i := 7) (v := ?_) rfl (by kernel_rfl) (by kernel_rfl) (by kernel_rfl) (fun _ _ _ h => h) (Or.inl ⟨by rfl, ?_⟩) (by assumption) ?_; rotate_left 1; focus (intro w hSw; (try dsimp only at hSw); go_simp; (try with_reducible rfl))); (try simp only [Act.put, List.setIfInBounds_toArray, List.set_cons_zero, List.set_cons_succ]); (refine wpAnyH_take (i := 8) (v := ?_) rfl (by kernel_rfl) (by kernel_rfl) (by kernel_rfl) (fun _ _ _ h => h) (Or.inl ⟨by rfl, ?_⟩) (by assumption) ?_; rotate_left 1; focus (intro w hSw; (try dsimp only at hSw); go_simp; (try with_reducible rfl))); (try simp only [Act.put, List.setIfInBounds_toArray, List.set_cons_zero, List.set_cons_succ]); (refine wpAnyH_take (i := 9) (v := ?_) rfl (by kernel_rfl) (by kernel_rfl) (by kernel_rfl) (fun _ _ _ h => h) (Or.inl ⟨by rfl, ?_⟩) (by assumption) ?_; rotate_left 1; focus (intro w hSw; (try dsimp only at hSw); go_simp; (try with_reducible rfl))); (try simp only [Act.put, List.setIfInBounds_toArray, List.set_cons_zero, List.set_cons_succ]); (refine wpAnyH_take (i := 10) (v := ?_) rfl (by kernel_rfl) (by kernel_rfl) (by kernel_rfl) (fun _ _ _ h => h) (Or.inl ⟨by rfl, ?_⟩) (by assumption) ?_; rotate_left 1; focus (intro w hSw; (try dsimp only at hSw); go_simp; (try with_reducible rfl))); (try simp only [Act.put, List.setIfInBounds_toArray, List.set_cons_zero, List.set_cons_succ]); (refine wpAnyH_take (i := 11) (v := ?_) rfl (by kernel_rfl) (by kernel_rfl) (by kernel_rfl) (fun _ _ _ h => h) (Or.inl ⟨by rfl, ?_⟩) (by assumption) ?_; rotate_left 1; focus (intro w hSw; (try dsimp only at hSw); go_simp; (try with_reducible rfl))); (try simp only [Act.put, List.setIfInBounds_toArray, List.set_cons_zero, List.set_cons_succ]); (refine wpAnyH_take (i := 12) (v := ?_) rfl (by kernel_rfl) (by kernel_rfl) (by kernel_rfl) (fun _ _ _ h => h) (Or.inl ⟨by rfl, ?_⟩) (by assumption) ?_; rotate_left 1; focus (intro w hSw; (try dsimp only at hSw); go_simp; (try with_reducible rfl))); (try simp only [Act.put, List.setIfInBounds_toArray, List.set_cons_zero, List.set_cons_succ])
                        refine wpAnyH_ready (rs := [1, 13]) (by kernel_rfl) (by simp) ?_
                        refine AllReadyH.cons (by simp only [List.getElem?_toArray, List.getElem?_cons_succ, List.getElem?_cons_zero]; exact rfl) (fun K hK => ?_) (AllReadyH.cons (by simp only [List.getElem?_toArray, List.getElem?_cons_succ, List.getElem?_cons_zero]; exact rfl) (fun K hK => ?_) AllReadyH.nil)
                        go_simp
                        refine hK.out _ _ (HS2.out _ (show Up W3 _ from uq)) (fun hHeld => ?_); clear hK K; (try simp only [Act.put, List.setIfInBounds_toArray, List.set_cons_zero, List.set_cons_succ])
                        refine wpAnyH_ready (rs := [13]) (by kernel_rfl) (by simp) ?_; refine AllReadyH.cons (by simp only [List.getElem?_toArray, List.getElem?_cons_succ, List.getElem?_cons_zero]; exact rfl) (fun K hK => ?_) AllReadyH.nil
                        go_simp
                        refine hK.out _ _ (HS2.out _ (show Up W3 _ from uq)) (fun hHeld => ?_); clear hK K; (try simp only [Act.put, List.setIfInBounds_toArray, List.set_cons_zero, List.set_cons_succ])
                        rotate_left 1
                        go_simp
                        refine hK.out _ _ (HS2.out _ (show Up W3 _ from uq)) (fun hHeld => ?_); clear hK K; (try simp only [Act.put, List.setIfInBounds_toArray, List.set_cons_zero, List.set_cons_succ])
                        refine wpAnyH_ready (rs := [1]) (by kernel_rfl) (by simp) ?_; refine AllReadyH.cons (by simp only [List.getElem?_toArray, List.getElem?_cons_succ, List.getElem?_cons_zero]; exact rfl) (fun K hK => ?_) AllReadyH.nil
                        go_simp
                        refine hK.out _ _ (HS2.out _ (show Up W3 _ from uq)) (fun hHeld => ?_); clear hK K; (try simp only [Act.put, List.setIfInBounds_toArray, List.set_cons_zero, List.set_cons_succ])
                        all_goals (refine wpAnyH_ready (rs := [14]) (by kernel_rfl) (by simp) ?_; refine AllReadyH.cons (by simp only [List.getElem?_toArray, List.getElem?_cons_succ, List.getElem?_cons_zero]; exact rfl) (fun K hK => ?_) AllReadyH.nil
                                   (try rw [hdr.out]); refine step_append_new rfl _ _ 86 rfl PairT i0 (.agg #[.int .i64 0, .int .i64 0]) 2 16 Tryz.underlying86 hi hz0 hz1 hz2 rfl (by decide) (.slice va mn vcap) mn (flatP (funP xm.length ym.length xs ys)) rfl (ownsRow_up HROW.out uq) _ 1 1 rfl (by first | rfl | (simp; done) | omega) rfl (by intro u hu; have hu2 : u = .int .i64 zx ∨ u = .int .i64 zy := (by simpa using hu); rcases hu2 with hu2 | hu2 <;> rw [hu2] <;> rfl) (by unfold maxLen; omega) (by omega) ?_; intro sa' cap' w7 hown' hgrow hblk; have U7 : Up W3 w7 := Up.grown (U5.trans (show Up w5 _ from uq)) hgrow (fun r e => Nat.le_of_lt (HQ5.out.own r e)); have s0 := grown_get hgrow (alloc_keep (show w5.drew.heap[W3.heap.size]? = some _ from HQ5.out.box)) HQ5.out.far; have HY := Lib.hid (And.intro hown' (And.intro hblk (And.intro s0 U7))); have c0 := cell_of s0 0; have cf0 := ice_of s0 0; have c1 := cell_of s0 1; have cf1 := ice_of s0 1; have c2 := cell_of s0 2; have cf2 := ice_of s0 2; have c3 := cell_of s0 3; have cf3 := ice_of s0 3; have c4 := cell_of s0 4; have cf4 := ice_of s0 4; have cl := lt_of_heap s0; (try simp only [World.size_alloc, List.getElem?_toArray, List.getElem?_cons_zero, List.getElem?_cons_succ] at c0 cf0 c1 cf1 c2 cf2 c3 cf3 c4 cf4 cl); clear s0; clear hown' hgrow hblk
                                   refine hK.out _ _ (HS2.out _ (show Up W3 _ from uq)) (fun hHeld => ?_); clear hK K; (try simp only [Act.put, List.setIfInBounds_toArray, List.set_cons_zero, List.set_cons_succ])
                                   (refine wpAnyH_take (i := 15) (v := ?_) rfl (by kernel_rfl) (by kernel_rfl) (by kernel_rfl) (fun _ _ _ h => h) (Or.inl ⟨by rfl, ?_⟩) (by assumption) ?_; rotate_left 1; focus (intro w hSw; (try dsimp only at hSw); go_simp; (try with_reducible rfl))); (try simp only [Act.put, List.setIfInBounds_toArray, List.set_cons_zero, List.set_cons_succ])
                                   refine wpAnyH_ready (rs := [16]) (by kernel_rfl) (by simp) ?_; refine AllReadyH.cons (by simp only [List.getElem?_toArray, List.getElem?_cons_succ, List.getElem?_cons_zero]; exact rfl) (fun K hK => ?_) AllReadyH.nil
                                   go_simp
                                   refine hK.out _ _ (HS2.out _ (show Up W3 _ from uq)) (fun hHeld => ?_); clear hK K; (try simp only [Act.put, List.setIfInBounds_toArray, List.set_cons_zero, List.set_cons_succ])
                                   refine wpAnyH_done (by kernel_rfl) ?_ _
                                   refine NoPanic.normal ?_
                                   clear hHeld
                                   have HQ9 := Lib.hid (HQ5.out.push (p := (zx, zy)) HFL.out.symm rfl rfl HY.out.1 HY.out.2.1 HY.out.2.2.1 HY.out.2.2.2)
                                   obtain ⟨w9, hw9⟩ : ∃ w9, w7.setCell ⟨W3.heap.size, 4, none⟩ (.slice sa' (mn + 1) cap') = w9 := ⟨_, rfl⟩
                                   rw [hw9] at HQ9 ⊢
                                   clear hw9 HY c0 c1 c2 c3 c4 cf0 cf1 cf2 cf3 cf4 cl hi hz0 hz1 hz2 HS2 HROW U7
                                   have s0 := HQ9.out.up.get HT3.out.2.2.2
                                   have d0 := cell_of s0 0; have df0 := ice_of s0 0; have d1 := cell_of s0 1; have df1 := ice_of s0 1; have d2 := cell_of s0 2; have df2 := ice_of s0 2; have d3 := cell_of s0 3; have df3 := ice_of s0 3; have d4 := cell_of s0 4; have df4 := ice_of s0 4; have dl := lt_of_heap s0; (try simp only [World.size_alloc, List.getElem?_toArray, List.getElem?_cons_zero, List.getElem?_cons_succ] at d0 df0 d1 df1 d2 df2 d3 df3 d4 df4 dl); clear s0
                                   have s1 := HQ9.out.box
                                   have c0 := cell_of s1 0; have cf0 := ice_of s1 0; have c1 := cell_of s1 1; have cf1 := ice_of s1 1; have c2 := cell_of s1 2; have cf2 := ice_of s1 2; have c3 := cell_of s1 3; have cf3 := ice_of s1 3; have c4 := cell_of s1 4; have cf4 := ice_of s1 4; have cl := lt_of_heap s1; (try simp only [World.size_alloc, List.getElem?_toArray, List.getElem?_cons_zero, List.getElem?_cons_succ] at c0 cf0 c1 cf1 c2 cf2 c3 cf3 c4 cf4 cl); clear s1
                                   go_wp2_with fail
                                   refine bodyPost_ret (v := QV (allQ (funP xm.length ym.length xs ys ++ [(zx, zy)])) (.slice sa' (mn + 1) cap')) (by simp [results, Tryz.results133, go_sem, d0, d1, d2, d3, d4, df0, df1, df2, df3, df4, dl]; rfl) rfl ?_
                                   rw [e0.out]
                                   have u9 : Up w w9 := u3.out.trans HQ9.out.up
                                   exact ⟨_, rfl, ((HQ9.out.pairs (B := fun g => W3.heap.size ≤ g) (by have := HL5.out; rw [List.length_append, List.length_singleton]; omega) (fun g h => h)).five (fun g hg => by have := HL5.out; omega)).loose (fun g hg => by have := HL5.out; omega), uq⟩))
end Go.Proofs.YtiaepldmgighbaaGreatDoor
