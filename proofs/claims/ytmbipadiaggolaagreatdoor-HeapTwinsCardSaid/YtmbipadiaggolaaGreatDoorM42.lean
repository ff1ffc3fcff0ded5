import Derived.Test.YtmbipadiaggolaaGreatDoorM41
/- YtmbipadiaggolaaGreatDoorM42: lemmas of the proof, in order: PlaysP. -/
/- Walk: HeapPlays. -/
namespace Go.Proofs.YtmbipadiaggolaaGreatDoor
open Go.RowKit
set_option linter.unusedSimpArgs false
attribute [local go_sem] ta_aa ta_ao ta_an ta_oa ta_oo ta_on m_kind_a m_kind_o m_behind_a m_behind_o m_own_a m_own_o valV

theorem New_ref (n : Int) (w : World) (h0 : 0 ≤ n) (h1 : n ≤ 1048576) : Calls Tryz.prog 9 #[.int .i64 n] w fun e w' => e = .returned (.tuple #[.pointer (some ⟨w.heap.size, 0, none⟩), .int .i64 0]) ∧ w' = w.alloc (.cells #[.int .i64 n, .int .i64 0, .slice none 0 0] 40) := by
  have hn : ¬ n < 0 := by omega
  have hn' : ¬ 1048576 < n := by omega
  go_enter Tryz.func9, Tryz.ntmps9
  go_wp2_with fail
  refine bodyPost_ret (v := .tuple #[.pointer (some ⟨w.heap.size, 0, none⟩), .int .i64 0]) (by simp [results, Tryz.results9, go_sem]) rfl ⟨rfl, rfl⟩
theorem New_refbad (n : Int) (w : World) (hn : n < 0 ∨ 1048576 < n) : Calls Tryz.prog 9 #[.int .i64 n] w fun e w' => e = .returned (.tuple #[.pointer none, .int .i64 1]) ∧ w = w' := by
  rcases hn with hn | hn
  · go_enter Tryz.func9, Tryz.ntmps9
    go_wp2_with fail
    refine bodyPost_ret (v := .tuple #[.pointer none, .int .i64 1]) (by simp [results, Tryz.results9, go_sem]) rfl ⟨rfl, rfl⟩
  · have hn0 : ¬ n < 0 := by omega
    go_enter Tryz.func9, Tryz.ntmps9
    go_wp2_with fail
    refine bodyPost_ret (v := .tuple #[.pointer none, .int .i64 1]) (by simp [results, Tryz.results9, go_sem]) rfl ⟨rfl, rfl⟩

theorem own1_none {w : World} {b m : Nat} (hb : b < w.heap.size) (hm : w.heap.size ≤ m) : own1 m b = none := if_neg (by omega)

set_option maxRecDepth 100000 in
set_option maxHeartbeats 6400000 in
theorem plays_any (n : Int) (a : Option Addr) (len cap : Nat) (ss : List StepM) (w : World) (h : IsSteps w a len ss) (ht : Tab w) (hbr : Bru w) :
    Calls Tryz.prog 3 #[.int .i64 n, .slice a len cap] w fun e w' => e = .returned (.bool true) ∧ Up w w' := by
  have HI := Lib.hid h
  have HT := Lib.hid (And.intro ht hbr)
  have hfew : (len : Int) ≤ 9223372036854775807 := by have := h.few; omega
  clear h ht hbr
  rcases hv : heavyS ss with _ | _
  · have HV := Lib.hid hv
    clear hv
    by_cases hin : 0 ≤ n ∧ n ≤ 1048576
    · obtain ⟨h0, h1⟩ := hin
      go_enter Tryz.func3, Tryz.ntmps3
      go_wp2_with (first | (go_at_call 6; refine (heavy_any a len cap ss _ (HI.out.up uq)).mono ?_; rintro e w2 ⟨rfl, hu2⟩; rw [HV.out]) | (go_at_call 8; refine (New_good n _ h0 h1).mono ?_; rintro e w3 ⟨rfl, rfl⟩) | (go_at_call 9; refine (New_ref n _ h0 h1).mono ?_; rintro e w4 ⟨rfl, rfl⟩))
      refine range_named fun A W hA hW => ?_
      have HN : Hid (Now W (own1 w2.heap.size) (own1 (w2.heap.size + 1)) w2.heap.size (w2.heap.size + 1) ⟨n, 0, []⟩ W) := by subst hW; exact Now.fresh n h0 h1
      have hUW : Up w W := by subst hW; exact uq
      have hws : w.heap.size ≤ w2.heap.size := hu2.size
      have HP : Hid (∀ b, b < w.heap.size → own1 w2.heap.size b = none ∧ own1 (w2.heap.size + 1) b = none) := fun b hb => ⟨own1_none hb hws, own1_none hb (by omega)⟩
      clear hW hu2
      subst hA
      go_loopw [9] (fun i wr => ∃ j : Nat, j ≤ len ∧ j ≤ 100 ∧ i = .int .i64 j ∧ Now W (own1 w2.heap.size) (own1 (w2.heap.size + 1)) w2.heap.size (w2.heap.size + 1) (HM.plays ⟨n, 0, []⟩ (ss.take j)) wr) (fun i _ => len - (intOf i).toNat)
      case atStart => exact ⟨0, Nat.zero_le _, by omega, rfl, HN.out⟩
      case round =>
        obtain ⟨j, hj, hj100, rfl, hnow⟩ := hrel
        have hup := hnow.base hUW HP.out
        have hl := HI.out.num
        have HNW := Lib.hid hnow
        have HSH : Hid (∀ s ∈ ss.take 100, s.weight ≤ 8000) := heavyL_short _ 0 HV.out
        have HGD : Hid ((HM.plays ⟨n, 0, []⟩ (ss.take j)).Good 8000) := good_plays _ (good_none _ _ _) (fun y hy => HSH.out y (List.take_subset_take_left ss hj100 hy))
        by_cases hlt : j < len
        · have hji : (j : Int) < len := by omega
          by_cases h100 : j < 100
          · have h100i : (j : Int) < 100 := by omega
            have hjl : j < ss.length := by omega
            obtain ⟨s, hs⟩ : ∃ s, ss[j]? = some s := ⟨_, List.getElem?_eq_getElem hjl⟩
            obtain ⟨b, off, rfl, hc⟩ := HI.out.at_ j s hs
            have HC := Lib.hid hc
            have HWT : Hid (s.weight ≤ 8000) := HSH.out s (List.mem_of_getElem? (i := j) (by rw [List.getElem?_take, if_pos h100]; exact hs))
            have HNX : Hid (HM.plays ⟨n, 0, []⟩ (ss.take (j + 1)) = (HM.plays ⟨n, 0, []⟩ (ss.take j)).stepM s) := plays_take _ _ _ _ hs
            have y0 := (hup.cells b _ HC.out.1).trans (HC.out.2 0 _ rfl); have y1 := (hup.cells b _ HC.out.1).trans (HC.out.2 1 _ rfl); have y2 := (hup.cells b _ HC.out.1).trans (HC.out.2 2 _ rfl); have y3 := (hup.cells b _ HC.out.1).trans (HC.out.2 3 _ rfl); have y4 := (hup.cells b _ HC.out.1).trans (HC.out.2 4 _ rfl); have y5 := (hup.cells b _ HC.out.1).trans (HC.out.2 5 _ rfl); have y6 := (hup.cells b _ HC.out.1).trans (HC.out.2 6 _ rfl); have y7 := (hup.cells b _ HC.out.1).trans (HC.out.2 7 _ rfl); have y8 := (hup.cells b _ HC.out.1).trans (HC.out.2 8 _ rfl); have y9 := (hup.cells b _ HC.out.1).trans (HC.out.2 9 _ rfl); have y10 := (hup.cells b _ HC.out.1).trans (HC.out.2 10 _ rfl); have y11 := (hup.cells b _ HC.out.1).trans (HC.out.2 11 _ rfl); have y12 := (hup.cells b _ HC.out.1).trans (HC.out.2 12 _ rfl); rw [Nat.add_zero] at y0
            clear hs hc hnow hlt h100 hjl hl
            go_wp2_with fail
            go_region_law (first | (go_simp; go_at_call 10; refine (does_now s (HNW.out.up uq) HGD.out HWT.out (HT.out.1.up uq) (HT.out.2.up uq)).mono ?_; rintro e w5 ⟨rfl, hnow2⟩; have hup5 := hnow2.base hUW HP.out; have y0 := (hup5.cells b _ HC.out.1).trans (HC.out.2 0 _ rfl); have y1 := (hup5.cells b _ HC.out.1).trans (HC.out.2 1 _ rfl); have y2 := (hup5.cells b _ HC.out.1).trans (HC.out.2 2 _ rfl); have y3 := (hup5.cells b _ HC.out.1).trans (HC.out.2 3 _ rfl); have y4 := (hup5.cells b _ HC.out.1).trans (HC.out.2 4 _ rfl); have y5 := (hup5.cells b _ HC.out.1).trans (HC.out.2 5 _ rfl); have y6 := (hup5.cells b _ HC.out.1).trans (HC.out.2 6 _ rfl); have y7 := (hup5.cells b _ HC.out.1).trans (HC.out.2 7 _ rfl); have y8 := (hup5.cells b _ HC.out.1).trans (HC.out.2 8 _ rfl); have y9 := (hup5.cells b _ HC.out.1).trans (HC.out.2 9 _ rfl); have y10 := (hup5.cells b _ HC.out.1).trans (HC.out.2 10 _ rfl); have y11 := (hup5.cells b _ HC.out.1).trans (HC.out.2 11 _ rfl); have y12 := (hup5.cells b _ HC.out.1).trans (HC.out.2 12 _ rfl); rw [Nat.add_zero] at y0; have HN5 := Lib.hid hnow2; obtain ⟨sa, ca, hhd⟩ := hnow2.head; have r1 := cell_of hhd 1; simp only [List.getElem?_toArray, List.getElem?_cons_zero, List.getElem?_cons_succ] at r1; clear hhd hnow2) | (go_at_call 11; refine (Used_now (HN5.out.up uq)).mono ?_; rintro e w6 ⟨rfl, rfl⟩) | (go_simp; go_at_call 11; refine (Used_now (HN5.out.up uq)).mono ?_; rintro e w6 ⟨rfl, rfl⟩))
            all_goals (go_wp2_with fail)
            all_goals exact ⟨⟨j + 1, by omega, by omega, by simp, by rw [HNX.out]; exact HN5.out⟩, by simp [intOf]; omega⟩
          · have h100i : ¬ (j : Int) < 100 := by omega
            clear hnow hlt h100 hl
            obtain ⟨H', hH⟩ : ∃ H', Hid (HM.plays ⟨n, 0, []⟩ (ss.take j) = H') := ⟨_, rfl⟩
            rw [hH.out] at HNW HGD
            have hfw := HNW.out.few
            have hfi : (H'.things.length : Int) ≤ 1048576 := by omega
            obtain ⟨sa, ca, hhd⟩ := HNW.out.head
            have r2 := cell_of hhd 2
            simp only [List.getElem?_toArray, List.getElem?_cons_zero, List.getElem?_cons_succ] at r2
            have r2l := cell_lt3 r2
            have R2 := Lib.hid r2
            clear hhd hH hfew
            go_wp2_with fail
            refine range_named fun A2 W2 hA2 hW2 => ?_
            have hu2 : Up wr W2 := by subst hW2; exact uq
            have hwW : Up w W2 := hup.trans hu2
            clear hW2
            subst hA2
            go_loopw [10] (fun i wq => ∃ k : Nat, k ≤ H'.things.length + 2 ∧ i = .int .i64 ((k : Int) - 1) ∧ Up W2 wq) (fun i _ => H'.things.length + 2 - ((intOf i) + 1).toNat)
            case atStart => exact ⟨0, Nat.zero_le _, rfl, Up.refl _⟩
            case round =>
              obtain ⟨k, hk, rfl, huq⟩ := hrel
              have r2 := ((hu2.trans huq).cells _ _ r2l).trans R2.out
              have huw : Up w wr := hwW.trans huq
              have hNQ := Lib.hid (HNW.out.up (hu2.trans huq))
              by_cases hkl : (k : Int) - 1 ≤ H'.things.length
              · obtain ⟨x, hx⟩ : ∃ x, Hid (H'.says ⟨5, (k : Int) - 1, ⟨#[]⟩⟩ = x) := ⟨_, rfl⟩
                have hxx : (x.toList == x.toList) = true := by simp
                have hk0 : 0 ≤ (k : Int) := by omega
                go_wp2_with fail
                have X0 := Lib.hid (alloc_get wr (.cells #[.int .i64 5, .int .i64 ((k : Int) - 1), .string ⟨#[]⟩] 34))
                have s0 := X0.out
                have a0 := cell_of s0 0; have a1 := cell_of s0 1; have a2 := cell_of s0 2; have f0 := ice_of s0 0; have f1 := ice_of s0 1; have f2 := ice_of s0 2; have a4 := lt_of_heap s0; (try simp only [World.size_alloc, List.getElem?_toArray, List.getElem?_cons_zero, List.getElem?_cons_succ] at a0 a1 a2 f0 f1 f2 a4); clear s0
                go_region_held3 (fun W => W.cell? ⟨wr.heap.size, 0, none⟩ = some (.int .i64 5) ∧ W.cell? ⟨wr.heap.size, 1, none⟩ = some (.int .i64 ((k : Int) - 1)) ∧ W.cell? ⟨wr.heap.size, 2, none⟩ = some (.string ⟨#[]⟩)) (go_keep) (first | (go_at_call 12; refine (Show_now 5 _ _ (hNQ.out.up uq) HGD.out (by decide) (HT.out.1.up uq) (HT.out.2.up uq)).mono ?_; rintro e v1 ⟨rfl, hv1⟩; rw [hx.out]; have s0 := Up.get (w' := v1) uq X0.out; have a0 := cell_of s0 0; have a1 := cell_of s0 1; have a2 := cell_of s0 2; have f0 := ice_of s0 0; have f1 := ice_of s0 1; have f2 := ice_of s0 2; have a4 := lt_of_heap s0; (try simp only [World.size_alloc, List.getElem?_toArray, List.getElem?_cons_zero, List.getElem?_cons_succ] at a0 a1 a2 f0 f1 f2 a4); clear s0) | (go_at_call 13; refine (s_show_now 5 _ _ (hNQ.out.up uq) HGD.out (by decide)).mono ?_; rintro e v2 ⟨rfl, hv2⟩; rw [hx.out]; have s0 := Up.get (w' := v2) uq X0.out; have a0 := cell_of s0 0; have a1 := cell_of s0 1; have a2 := cell_of s0 2; have f0 := ice_of s0 0; have f1 := ice_of s0 1; have f2 := ice_of s0 2; have a4 := lt_of_heap s0; (try simp only [World.size_alloc, List.getElem?_toArray, List.getElem?_cons_zero, List.getElem?_cons_succ] at a0 a1 a2 f0 f1 f2 a4); clear s0) | (go_at_call 14; refine (Kind_now _ (hNQ.out.up uq)).mono ?_; rintro e v3 ⟨rfl, hv3⟩; have s0 := Up.get (w' := v3) uq X0.out; have a0 := cell_of s0 0; have a1 := cell_of s0 1; have a2 := cell_of s0 2; have f0 := ice_of s0 0; have f1 := ice_of s0 1; have f2 := ice_of s0 2; have a4 := lt_of_heap s0; (try simp only [World.size_alloc, List.getElem?_toArray, List.getElem?_cons_zero, List.getElem?_cons_succ] at a0 a1 a2 f0 f1 f2 a4); clear s0) | (go_at_call 15; refine (s_kind_now _ (hNQ.out.up uq)).mono ?_; rintro e v4 ⟨rfl, rfl⟩) | (go_at_call 16; refine (Len_now _ (hNQ.out.up uq)).mono ?_; rintro e v5 ⟨rfl, hv5⟩; have s0 := Up.get (w' := v5) uq X0.out; have a0 := cell_of s0 0; have a1 := cell_of s0 1; have a2 := cell_of s0 2; have f0 := ice_of s0 0; have f1 := ice_of s0 1; have f2 := ice_of s0 2; have a4 := lt_of_heap s0; (try simp only [World.size_alloc, List.getElem?_toArray, List.getElem?_cons_zero, List.getElem?_cons_succ] at a0 a1 a2 f0 f1 f2 a4); clear s0) | (go_at_call 17; refine (s_len_now _ (hNQ.out.up uq)).mono ?_; rintro e v6 ⟨rfl, rfl⟩))
                go_wp2_with fail
                exact ⟨⟨k + 1, by omega, congrArg (Value.int .i64) (by omega), uq⟩, by simp [intOf]; omega⟩
              · go_wp2_with (first | (go_at_call 7; refine (known_any _).mono ?_; rintro e w7 ⟨rfl, hu7⟩))
                refine bodyPost_eq (by (simp [results, Tryz.results3, go_sem, *]) <;> rfl) rfl rfl ?_
                exact ⟨rfl, uq⟩
        · obtain rfl : j = len := by omega
          clear hnow hlt hl
          obtain ⟨H', hH⟩ : ∃ H', Hid (HM.plays ⟨n, 0, []⟩ (ss.take j) = H') := ⟨_, rfl⟩
          rw [hH.out] at HNW HGD
          have hfw := HNW.out.few
          have hfi : (H'.things.length : Int) ≤ 1048576 := by omega
          obtain ⟨sa, ca, hhd⟩ := HNW.out.head
          have r2 := cell_of hhd 2
          simp only [List.getElem?_toArray, List.getElem?_cons_zero, List.getElem?_cons_succ] at r2
          have r2l := cell_lt3 r2
          have R2 := Lib.hid r2
          clear hhd hH hfew
          go_wp2_with fail
          refine range_named fun A2 W2 hA2 hW2 => ?_
          have hu2 : Up wr W2 := by subst hW2; exact uq
          have hwW : Up w W2 := hup.trans hu2
          clear hW2
          subst hA2
          go_loopw [10] (fun i wq => ∃ k : Nat, k ≤ H'.things.length + 2 ∧ i = .int .i64 ((k : Int) - 1) ∧ Up W2 wq) (fun i _ => H'.things.length + 2 - ((intOf i) + 1).toNat)
          case atStart => exact ⟨0, Nat.zero_le _, rfl, Up.refl _⟩
          case round =>
            obtain ⟨k, hk, rfl, huq⟩ := hrel
            have r2 := ((hu2.trans huq).cells _ _ r2l).trans R2.out
            have huw : Up w wr := hwW.trans huq
            have hNQ := Lib.hid (HNW.out.up (hu2.trans huq))
            by_cases hkl : (k : Int) - 1 ≤ H'.things.length
            · obtain ⟨x, hx⟩ : ∃ x, Hid (H'.says ⟨5, (k : Int) - 1, ⟨#[]⟩⟩ = x) := ⟨_, rfl⟩
              have hxx : (x.toList == x.toList) = true := by simp
              have hk0 : 0 ≤ (k : Int) := by omega
              go_wp2_with fail
              have X0 := Lib.hid (alloc_get wr (.cells #[.int .i64 5, .int .i64 ((k : Int) - 1), .string ⟨#[]⟩] 34))
              have s0 := X0.out
              have a0 := cell_of s0 0; have a1 := cell_of s0 1; have a2 := cell_of s0 2; have f0 := ice_of s0 0; have f1 := ice_of s0 1; have f2 := ice_of s0 2; have a4 := lt_of_heap s0; (try simp only [World.size_alloc, List.getElem?_toArray, List.getElem?_cons_zero, List.getElem?_cons_succ] at a0 a1 a2 f0 f1 f2 a4); clear s0
              go_region_held3 (fun W => W.cell? ⟨wr.heap.size, 0, none⟩ = some (.int .i64 5) ∧ W.cell? ⟨wr.heap.size, 1, none⟩ = some (.int .i64 ((k : Int) - 1)) ∧ W.cell? ⟨wr.heap.size, 2, none⟩ = some (.string ⟨#[]⟩)) (go_keep) (first | (go_at_call 12; refine (Show_now 5 _ _ (hNQ.out.up uq) HGD.out (by decide) (HT.out.1.up uq) (HT.out.2.up uq)).mono ?_; rintro e v1 ⟨rfl, hv1⟩; rw [hx.out]; have s0 := Up.get (w' := v1) uq X0.out; have a0 := cell_of s0 0; have a1 := cell_of s0 1; have a2 := cell_of s0 2; have f0 := ice_of s0 0; have f1 := ice_of s0 1; have f2 := ice_of s0 2; have a4 := lt_of_heap s0; (try simp only [World.size_alloc, List.getElem?_toArray, List.getElem?_cons_zero, List.getElem?_cons_succ] at a0 a1 a2 f0 f1 f2 a4); clear s0) | (go_at_call 13; refine (s_show_now 5 _ _ (hNQ.out.up uq) HGD.out (by decide)).mono ?_; rintro e v2 ⟨rfl, hv2⟩; rw [hx.out]; have s0 := Up.get (w' := v2) uq X0.out; have a0 := cell_of s0 0; have a1 := cell_of s0 1; have a2 := cell_of s0 2; have f0 := ice_of s0 0; have f1 := ice_of s0 1; have f2 := ice_of s0 2; have a4 := lt_of_heap s0; (try simp only [World.size_alloc, List.getElem?_toArray, List.getElem?_cons_zero, List.getElem?_cons_succ] at a0 a1 a2 f0 f1 f2 a4); clear s0) | (go_at_call 14; refine (Kind_now _ (hNQ.out.up uq)).mono ?_; rintro e v3 ⟨rfl, hv3⟩; have s0 := Up.get (w' := v3) uq X0.out; have a0 := cell_of s0 0; have a1 := cell_of s0 1; have a2 := cell_of s0 2; have f0 := ice_of s0 0; have f1 := ice_of s0 1; have f2 := ice_of s0 2; have a4 := lt_of_heap s0; (try simp only [World.size_alloc, List.getElem?_toArray, List.getElem?_cons_zero, List.getElem?_cons_succ] at a0 a1 a2 f0 f1 f2 a4); clear s0) | (go_at_call 15; refine (s_kind_now _ (hNQ.out.up uq)).mono ?_; rintro e v4 ⟨rfl, rfl⟩) | (go_at_call 16; refine (Len_now _ (hNQ.out.up uq)).mono ?_; rintro e v5 ⟨rfl, hv5⟩; have s0 := Up.get (w' := v5) uq X0.out; have a0 := cell_of s0 0; have a1 := cell_of s0 1; have a2 := cell_of s0 2; have f0 := ice_of s0 0; have f1 := ice_of s0 1; have f2 := ice_of s0 2; have a4 := lt_of_heap s0; (try simp only [World.size_alloc, List.getElem?_toArray, List.getElem?_cons_zero, List.getElem?_cons_succ] at a0 a1 a2 f0 f1 f2 a4); clear s0) | (go_at_call 17; refine (s_len_now _ (hNQ.out.up uq)).mono ?_; rintro e v6 ⟨rfl, rfl⟩))
              go_wp2_with fail
              exact ⟨⟨k + 1, by omega, congrArg (Value.int .i64) (by omega), uq⟩, by simp [intOf]; omega⟩
            · go_wp2_with (first | (go_at_call 7; refine (known_any _).mono ?_; rintro e w7 ⟨rfl, hu7⟩))
              refine bodyPost_eq (by (simp [results, Tryz.results3, go_sem, *]) <;> rfl) rfl rfl ?_
              exact ⟨rfl, uq⟩
    · have hbad : n < 0 ∨ 1048576 < n := by omega
      clear hin
      go_enter Tryz.func3, Tryz.ntmps3
      go_wp2_with (first | (go_at_call 6; refine (heavy_any a len cap ss _ (HI.out.up uq)).mono ?_; rintro e w2 ⟨rfl, hu2⟩; rw [HV.out]) | (go_at_call 8; refine (New_bad n _ hbad).mono ?_; rintro e w3 ⟨rfl, rfl⟩) | (go_at_call 9; refine (New_refbad n _ hbad).mono ?_; rintro e w4 ⟨rfl, rfl⟩) | (go_at_call 7; refine (known_any _).mono ?_; rintro e w5 ⟨rfl, hu5⟩))
      go_ret
      exact ⟨rfl, uq⟩
  · have HV := Lib.hid hv
    clear hv
    go_enter Tryz.func3, Tryz.ntmps3
    go_wp2_with (first | (go_at_call 6; refine (heavy_any a len cap ss _ (HI.out.up uq)).mono ?_; rintro e w2 ⟨rfl, hu2⟩; rw [HV.out]) | (go_at_call 7; refine (known_any _).mono ?_; rintro e w3 ⟨rfl, hu3⟩))
    go_ret
    exact ⟨rfl, uq⟩

end Go.Proofs.YtmbipadiaggolaaGreatDoor
