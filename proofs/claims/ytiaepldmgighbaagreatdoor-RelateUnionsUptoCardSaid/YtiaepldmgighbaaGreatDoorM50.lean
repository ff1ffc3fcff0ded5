import Derived.Test.YtiaepldmgighbaaGreatDoorM42
import Derived.Test.YtiaepldmgighbaaGreatDoorM49
namespace Go.Proofs.YtiaepldmgighbaaGreatDoor
open Go.RowKit
set_option linter.unusedSimpArgs false
set_option linter.unusedVariables false
def FreeR (t : Ty) (w : World) (e : Ending) (w' : World) : Prop := ∃ b : Bool, e = .returned (.bool b) ∧ (b = true → Free t) ∧ Up w w'
set_option maxRecDepth 100000 in
set_option maxHeartbeats 6400000 in
theorem free_law (B : Nat) : ∀ (m : Nat) (t : Ty) (us : List Value) (w : World), t.nodes ≤ m → TIs B w us t → B ≤ w.heap.size → Calls Tryz.prog 23 #[.agg us.toArray] w (FreeR t w) := by
 intro m
 induction m with
 | zero => intro t us w h; have := t.nodes_pos; omega
 | succ m ih =>
   intro t us w hm h hB
   cases h with
   | @mk k n nm pa cap nv mv ps ns ms us hn1 hn2 hnm hnv hln hsm hmv hlm hl hpl hpc hc hq =>
     have hsum : Hid ((Ty.mk k n nm ps ns ms).nodes = 1 + sumN ps) := Ty.nodes_mk _ _ _ _ _ _
     have HP := Lib.hid (fun (j : Nat) (hj : j < ps.length) => parts_at hl hc hq hj)
     have HM := Lib.hid (And.intro hmv hlm)
     have IH := Lib.hid ih
     have HB := Lib.hid (And.intro hB hm)
     obtain ⟨na, ncap, rfl, _, _⟩ := hnv.form
     obtain ⟨ma, mcap, rfl, _, _⟩ := hmv.form
     obtain ⟨nl, hnl⟩ : ∃ nl, Hid ((ns.map Value.string).length = nl) := ⟨_, rfl⟩
     obtain ⟨ml, hml⟩ : ∃ ml, Hid ((ms.map Value.bool).length = ml) := ⟨_, rfl⟩
     have hml2 : Hid (ml = ms.length) := by have := hml.out; rw [List.length_map] at this; exact this.symm
     have hml3 : ml ≤ 2000000 := by have := hml2.out; omega
     rw [hnl.out, hml.out]
     clear ih hm hB hl hc hq hn1 hn2 hnm hnv hln hsm hmv hlm hnl
     go_enter Tryz.func23, Tryz.ntmps23
     go_upto_region 1 with (fail)
     refine range_named fun A2 W2 hA2 hW2 => ?_
     have hu0 : Hid (Up w W2) := by subst hW2; exact uq
     obtain ⟨q, hq⟩ : ∃ q, Hid (w.heap.size = q) := ⟨_, rfl⟩
     have HQ : Hid (W2.heap[q]? = some (.cells #[.int .i64 k, .int .i64 n, .string nm, .slice pa ps.length cap, .slice na nl ncap, .slice ma ml mcap] RefT (0, 0))) := by subst hW2; rw [← hq.out]; exact alloc_at _ _ _ rfl
     rw [hq.out] at hA2
     clear hW2
     subst hA2
     have x0 := cell_of HQ.out 0
     have xl := lt_of_heap HQ.out
     simp only [List.getElem?_toArray, List.getElem?_cons_zero, List.getElem?_cons_succ] at x0
     have hcase : (k = 1 ∨ k = 4 ∨ k = 17 ∨ k = 19 ∨ k = 20) ∨ (k ≠ 1 ∧ k ≠ 4 ∧ k ≠ 17 ∧ k ≠ 19 ∧ k ≠ 20) := by omega
     rcases hcase with hk | hk
     · rcases hk with rfl | rfl | rfl | rfl | rfl
       all_goals (go_wp2_with fail)
       all_goals go_ret
       all_goals exact ⟨false, rfl, (fun e => by cases e), hu0.out.trans (show Up W2 _ from uq)⟩
     · have HK := Lib.hid hk
       have k1 : (k == 1) = false := by simp; omega
       have k2 : (k == 4) = false := by simp; omega
       have k3 : (k == 17) = false := by simp; omega
       have k4 : (k == 19) = false := by simp; omega
       have k5 : (k == 20) = false := by simp; omega
       clear hk
       go_wp2_with fail
       go_loopw [3] (fun i wr => ∃ j : Nat, j ≤ ml ∧ i = .int .i64 j ∧ Hid (∀ p ∈ ms.take j, p = false) ∧ Up W2 wr) (fun i _ => ml - (intOf i).toNat)
       case atStart => exact ⟨0, Nat.zero_le _, rfl, (fun p hp => by simp at hp), uq⟩
       case round =>
         obtain ⟨j, hj, rfl, hX, hup⟩ := hrel
         have HU := Lib.hid (hu0.out.trans hup)
         have HQr := Lib.hid (hup.get HQ.out)
         have x5 := cell_of HQr.out 5
         have xl := lt_of_heap HQr.out
         simp only [List.getElem?_toArray, List.getElem?_cons_zero, List.getElem?_cons_succ] at x5
         by_cases hlt : j < ml
         · have hji : (j : Int) < ml := by omega
           obtain ⟨b, hb⟩ : ∃ b, ms[j]? = some b := ⟨_, List.getElem?_eq_getElem (by have := hml2.out; omega)⟩
           obtain ⟨g, off, cp, hv, hcell, hgl, hgB⟩ := HM.out.1.at_ (j := j) (u := .bool b) (by rw [List.getElem?_map, hb]; rfl)
           injection hv with hv _ _
           subst hv
           have hbw := Nat.lt_of_lt_of_le hgB HB.out.1
           have c0 := (HU.out.cells _ _ hbw).trans hcell
           have hbl := Nat.lt_of_lt_of_le hbw HU.out.size
           have HBt := Lib.hid hb
           clear hlt hcell hb
           cases b
           · go_wp2_with fail
             exact ⟨⟨j + 1, by omega, by simp, (fun y hy => by
               rw [List.take_add_one, HBt.out, Option.toList_some] at hy
               rcases List.mem_append.1 hy with q | q
               · exact hX.out y q
               · rw [List.mem_singleton.1 q]), uq⟩, by simp [intOf]; omega⟩
           · go_wp2_with fail
             go_ret
             exact ⟨false, rfl, (fun e => by cases e), HU.out.trans (show Up wr _ from uq)⟩
         · obtain rfl : j = ml := by omega
           have hallm : Hid (∀ p ∈ ms, p = false) := by have := hX.out; rw [hml2.out, List.take_length] at this; exact this
           clear hlt hX
           go_wp2_with fail
           go_loopw [4] (fun i wr => ∃ j : Nat, j ≤ ps.length ∧ i = .int .i64 j ∧ Hid (∀ p ∈ ps.take j, Free p) ∧ Up W2 wr) (fun i _ => ps.length - (intOf i).toNat)
           case atStart => exact ⟨0, Nat.zero_le _, rfl, (fun p hp => by simp at hp), Up.trans hup uq⟩
           case round =>
             obtain ⟨j, hj, rfl, hX, hup⟩ := hrel
             have HU := Lib.hid (hu0.out.trans hup)
             have HQr := Lib.hid (hup.get HQ.out)
             have x3 := cell_of HQr.out 3
             have xl := lt_of_heap HQr.out
             simp only [List.getElem?_toArray, List.getElem?_cons_zero, List.getElem?_cons_succ] at x3
             by_cases hlt : j < ps.length
             · have hji : (j : Int) < ps.length := by omega
               obtain ⟨p, b, off, u0, u1, u2, u3, u4, u5, hp, rfl, hb, c0, c1, c2, c3, c4, c5, ht⟩ := HP.out j hlt
               have hbw := Nat.lt_of_lt_of_le hb HB.out.1
               have c0 := (HU.out.cells _ _ hbw).trans c0
               have c1 := (HU.out.cells _ _ hbw).trans c1
               have c2 := (HU.out.cells _ _ hbw).trans c2
               have c3 := (HU.out.cells _ _ hbw).trans c3
               have c4 := (HU.out.cells _ _ hbw).trans c4
               have c5 := (HU.out.cells _ _ hbw).trans c5
               have hbl := Nat.lt_of_lt_of_le hbw HU.out.size
               have HT := Lib.hid (fun W (hW : Up w W) => IH.out p [u0, u1, u2, u3, u4, u5] W (by have := sumN_mem (List.mem_of_getElem? hp); have := hsum.out; have := HB.out; omega) (ht.low (hW.below HB.out.1)) (Nat.le_trans HB.out.1 hW.size))
               have hnx : Hid (Free p → ∀ y ∈ ps.take (j + 1), Free y) := fun h y hy => by
                 rw [List.take_add_one, hp, Option.toList_some] at hy
                 rcases List.mem_append.1 hy with q | q
                 · exact hX.out y q
                 · rw [List.mem_singleton.1 q]; exact h
               clear hp ht hlt
               go_wp2_with (first | (go_at_call 23; refine (HT.out _ (HU.out.trans (show Up wr _ from uq))).mono ?_; (rintro e w2 ⟨(_ | _), rfl, hbv, hu2⟩ <;> (have HV := Lib.hid hbv; clear hbv))))
               · go_ret
                 exact ⟨false, rfl, (fun e => by cases e), HU.out.trans (show Up wr _ from uq)⟩
               · exact ⟨⟨j + 1, by omega, by simp, hnx.out (HV.out (by first | rfl | trivial)), uq⟩, by simp [intOf]; omega⟩
             · obtain rfl : j = ps.length := by omega
               have hall : Hid (∀ p ∈ ps, Free p) := by have := hX.out; rw [List.take_length] at this; exact this
               clear hlt hX
               go_wp2_with fail
               go_ret
               exact ⟨true, rfl, fun _ => .mk HK.out hallm.out hall.out, HU.out.trans (show Up wr _ from uq)⟩
end Go.Proofs.YtiaepldmgighbaaGreatDoor
