import Derived.Test.YtmbipadiaggolaaGreatDoorM42
/- YtmbipadiaggolaaGreatDoorM45: lemmas of the proof, in order: TwinsP. -/
/- Walk: HeapTwins. -/
namespace Go.Proofs.YtmbipadiaggolaaGreatDoor
open Go.RowKit
set_option linter.unusedSimpArgs false
attribute [local go_sem] ta_aa ta_ao ta_an ta_oa ta_oo ta_on m_kind_a m_kind_o m_behind_a m_behind_o m_own_a m_own_o valV

theorem rep_block {w : World} {b : Nat} {n : Int} (h : w.heap[b]? = some (.cells #[.int .i64 n, .int .i64 0, .slice none 0 0] 46 (0, 0))) (h0 : 0 ≤ n) (h1 : n ≤ 1048576) : Rep w b ⟨n, 0, []⟩ [] (own1 b) where
  lt x m hm := by
    unfold own1 at hm
    split at hm
    · rename_i e; subst e; exact lt_of_heap h
    · cases hm
  mine := by simp [own1]
  head := ⟨.slice none 0 0, h, ⟨by simp, .inl ⟨rfl, rfl⟩⟩, fun g hg => by simp [Value.ownBlock] at hg⟩
  len := rfl
  things i t ht := by simp at ht
  room0 := Int.le_refl 0
  roomU := h0
  roomM := h1
  few := by simp [sizes]
theorem rrep_block {w : World} {b : Nat} {n : Int} (h : w.heap[b]? = some (.cells #[.int .i64 n, .int .i64 0, .slice none 0 0] 40 (0, 0))) : RRep w b ⟨n, 0, []⟩ [] (own1 b) where
  lt x m hm := by
    unfold own1 at hm
    split at hm
    · rename_i e; subst e; exact lt_of_heap h
    · cases hm
  mine := by simp [own1]
  head := ⟨.slice none 0 0, h, ⟨by simp, .inl ⟨rfl, rfl⟩⟩, fun g hg => by simp [Value.ownBlock] at hg⟩
  len := rfl
  things i t ht := by simp at ht
theorem Now.blocks {w : World} {b r : Nat} {n : Int} (h : w.heap[b]? = some (.cells #[.int .i64 n, .int .i64 0, .slice none 0 0] 46 (0, 0))) (hr : w.heap[r]? = some (.cells #[.int .i64 n, .int .i64 0, .slice none 0 0] 40 (0, 0))) (h0 : 0 ≤ n) (h1 : n ≤ 1048576) (hne : b ≠ r) :
    Now w (own1 b) (own1 r) b r ⟨n, 0, []⟩ w := by
  refine ⟨[], [], own1 b, own1 r, ⟨rep_block h h0 h1, rrep_block hr, fun x hx => ?_, behind_none _ _⟩, (Up.refl _).mut2 _ _⟩
  unfold own1 at hx ⊢
  by_cases e : x = b
  · rw [if_neg (by omega)]
  · rw [if_neg e] at hx
    exact absurd rfl hx

/-- a heap that both others leave alone -/
def Rest (hb gb : Nat) (H : HM) (w : World) : Prop := ∃ tvs o1, Rep w hb H tvs o1 ∧ o1 gb = none
theorem Now.rest {W w : World} {hb rb gb : Nat} {H : HM} (h : Now W (own1 hb) (own1 rb) hb rb H w) (hg : gb < W.heap.size) (h1 : gb ≠ hb) (h2 : gb ≠ rb) (o : Obj) (ho : W.heap[gb]? = some o) : Rest hb gb H w ∧ w.heap[gb]? = some o := by
  obtain ⟨tvs, rs, o1, o2, k1, k2⟩ := h
  have e1 : own1 hb gb = none := if_neg h1
  have e2 : own1 rb gb = none := if_neg h2
  exact ⟨⟨tvs, o1, k1.p, by rw [k2.ext1 gb hg]; exact e1⟩, (k2.block gb hg e1 e2).trans ho⟩
theorem Rest.later {w1 W2 wr : World} {hb gb : Nat} {H H2 : HM} (h : Rest hb gb H w1) (k : Up w1 W2) {r2 : Nat} (hr : w1.heap.size ≤ r2) (h2 : Now W2 (own1 gb) (own1 r2) gb r2 H2 wr) : ∃ tvs o1, Rep wr hb H tvs o1 := by
  obtain ⟨tvs, o1, q1, q2⟩ := h
  obtain ⟨_, _, _, _, _, h3⟩ := h2
  refine ⟨tvs, o1, (q1.up k).off (fun b m hm => h3.block b ((q1.up k).lt b m hm) (if_neg fun e => ?_) (if_neg fun e => ?_)) h3.size⟩
  · subst e; rw [q2] at hm; cases hm
  · subst e; have := q1.lt _ m hm; omega
theorem Used_rest {w : World} {hb : Nat} {H : HM} (h : ∃ tvs o1, Rep w hb H tvs o1) : Calls Tryz.prog 11 #[.pointer (some ⟨hb, 0, none⟩)] w fun e w' => e = .returned (.int .i64 H.used) ∧ w = w' :=
  let ⟨tvs, o1, h1⟩ := h
  Used_any _ H tvs o1 w (.some hb _ _ _ h1)

set_option maxRecDepth 100000 in
set_option maxHeartbeats 6400000 in
theorem twins_any (n : Int) (a : Option Addr) (len cap : Nat) (ss : List StepM) (w : World) (h : IsSteps w a len ss) (ht : Tab w) (hbr : Bru w) :
    Calls Tryz.prog 5 #[.int .i64 n, .slice a len cap] w fun e w' => e = .returned (.bool true) ∧ Up w w' := by
  have HI := Lib.hid h
  have HT := Lib.hid (And.intro ht hbr)
  have hfew : (len : Int) ≤ 9223372036854775807 := by have := h.few; omega
  clear h ht hbr
  rcases hv : heavyS ss with _ | _
  · have HV := Lib.hid hv
    clear hv
    by_cases hin : 0 ≤ n ∧ n ≤ 1048576
    · obtain ⟨h0, h1⟩ := hin
      go_enter Tryz.func5, Tryz.ntmps5
      go_wp2_with (first | (go_at_call 6; refine (heavy_any a len cap ss _ (HI.out.up uq)).mono ?_; rintro e w2 ⟨rfl, hu2⟩; rw [HV.out]) | (go_at_call 8; refine (New_good n _ h0 h1).mono ?_; rintro e w3 ⟨rfl, rfl⟩) | (go_at_call 9; refine (New_ref n _ h0 h1).mono ?_; rintro e w4 ⟨rfl, rfl⟩))
      refine range_named fun A W hA hW => ?_
      obtain ⟨z, hz⟩ : ∃ z, Hid (w2.heap.size = z) := ⟨_, rfl⟩
      have B0 : Hid (W.heap[z]? = some (.cells #[.int .i64 n, .int .i64 0, .slice none 0 0] 46 (0, 0))) := by rw [← hz.out]; subst hW; exact alloc_keep (alloc_keep (alloc_get _ _))
      have B1 : Hid (W.heap[z + 1]? = some (.cells #[.int .i64 n, .int .i64 0, .slice none 0 0] 46 (0, 0))) := by rw [← hz.out]; subst hW; have q := alloc_keep (o := .cells #[.int .i64 n, .int .i64 0, .slice none 0 0] 40) (alloc_get (w2.alloc (.cells #[.int .i64 n, .int .i64 0, .slice none 0 0] 46)) (.cells #[.int .i64 n, .int .i64 0, .slice none 0 0] 46)); rw [World.size_alloc] at q; exact q
      have B2 : Hid (W.heap[z + 1 + 1]? = some (.cells #[.int .i64 n, .int .i64 0, .slice none 0 0] 40 (0, 0))) := by rw [← hz.out]; subst hW; have q := alloc_get ((w2.alloc (.cells #[.int .i64 n, .int .i64 0, .slice none 0 0] 46)).alloc (.cells #[.int .i64 n, .int .i64 0, .slice none 0 0] 46)) (.cells #[.int .i64 n, .int .i64 0, .slice none 0 0] 40); rw [World.size_alloc, World.size_alloc] at q; exact q
      have hUW : Up w W := by subst hW; exact uq
      have hws : w.heap.size ≤ z := by rw [← hz.out]; exact hu2.size
      have hzW : z + 1 < W.heap.size := lt_of_heap B1.out
      have HN : Hid (Now W (own1 z) (own1 (z + 1 + 1)) z (z + 1 + 1) ⟨n, 0, []⟩ W) := Now.blocks B0.out B2.out h0 h1 (by omega)
      have HP : Hid (∀ b, b < w.heap.size → own1 z b = none ∧ own1 (z + 1 + 1) b = none) := fun b hb => ⟨own1_none hb hws, own1_none hb (by omega)⟩
      have HSH : Hid (∀ s ∈ ss.take 100, s.weight ≤ 8000) := heavyL_short _ 0 HV.out
      clear hW hu2
      rw [hz.out] at hA
      subst hA
      go_loopw [11] (fun i wr => ∃ j : Nat, j ≤ len ∧ j ≤ 100 ∧ i = .int .i64 j ∧ Now W (own1 z) (own1 (z + 1 + 1)) z (z + 1 + 1) (HM.plays ⟨n, 0, []⟩ (ss.take j)) wr) (fun i _ => len - (intOf i).toNat)
      case atStart => exact ⟨0, Nat.zero_le _, by omega, rfl, HN.out⟩
      case round =>
        obtain ⟨j, hj, hj100, rfl, hnow⟩ := hrel
        have hup := hnow.base hUW HP.out
        have hl := HI.out.num
        have HNW := Lib.hid hnow
        have HGD : Hid ((HM.plays ⟨n, 0, []⟩ (ss.take j)).Good 8000) := good_plays _ (good_none _ _ _) (fun y hy => HSH.out y (List.take_subset_take_left ss hj100 hy))
        by_cases hlt : j < len
        · have hji : (j : Int) < len := by omega
          by_cases h100 : j < 100
          · have h100i : (j : Int) < 100 := by omega
            have hjl : j < ss.length := by omega
            obtain ⟨s, hs⟩ : ∃ s, ss[j]? = some s := ⟨_, List.getElem?_eq_getElem hjl⟩
            obtain ⟨b, off, rfl, hc⟩ := HI.out.at_ j s hs
            have HC := Lib.hid hc
            have HWT : Hid (s.weight ≤ 8000) := HSH.out s (List.mem_of_getElem? (i := j) (by rw [List.getElem?_take, if_pos h100]; exact hs))
            have HNX : Hid (HM.plays ⟨n, 0, []⟩ (ss.take (j + 1)) = (HM.plays ⟨n, 0, []⟩ (ss.take j)).stepM s) := plays_take _ _ _ _ hs
            have y0 := (hup.cells b _ HC.out.1).trans (HC.out.2 0 _ rfl); have y1 := (hup.cells b _ HC.out.1).trans (HC.out.2 1 _ rfl); have y2 := (hup.cells b _ HC.out.1).trans (HC.out.2 2 _ rfl); have y3 := (hup.cells b _ HC.out.1).trans (HC.out.2 3 _ rfl); have y4 := (hup.cells b _ HC.out.1).trans (HC.out.2 4 _ rfl); have y5 := (hup.cells b _ HC.out.1).trans (HC.out.2 5 _ rfl); have y6 := (hup.cells b _ HC.out.1).trans (HC.out.2 6 _ rfl); have y7 := (hup.cells b _ HC.out.1).trans (HC.out.2 7 _ rfl); have y8 := (hup.cells b _ HC.out.1).trans (HC.out.2 8 _ rfl); have y9 := (hup.cells b _ HC.out.1).trans (HC.out.2 9 _ rfl); have y10 := (hup.cells b _ HC.out.1).trans (HC.out.2 10 _ rfl); have y11 := (hup.cells b _ HC.out.1).trans (HC.out.2 11 _ rfl); have y12 := (hup.cells b _ HC.out.1).trans (HC.out.2 12 _ rfl); rw [Nat.add_zero] at y0
            clear hs hc hnow hlt h100 hjl hl
            go_wp2_with (first | (go_at_call 10; refine (does_now s (HNW.out.up uq) HGD.out HWT.out (HT.out.1.up uq) (HT.out.2.up uq)).mono ?_; rintro e w5 ⟨rfl, hnow2⟩))
            exact ⟨⟨j + 1, by omega, by omega, by simp, by rw [HNX.out]; exact hnow2⟩, by simp [intOf]; omega⟩
          · have h100i : ¬ (j : Int) < 100 := by omega
            have HTK : Hid (ss.take j = ss.take 100) := by obtain rfl : j = 100 := by omega
                                                           rfl
            clear hnow hlt h100 hl
            obtain ⟨w1, hw1⟩ : ∃ w1, w1 = wr := ⟨_, rfl⟩
            subst hw1
            obtain ⟨HE, hHE⟩ : ∃ HE, Hid (HM.plays ⟨n, 0, []⟩ (ss.take 100) = HE) := ⟨_, rfl⟩
            rw [HTK.out, hHE.out] at HNW
            obtain ⟨hrest, hgb⟩ := HNW.out.rest hzW (by omega) (by omega) _ B1.out
            have HRS := Lib.hid hrest
            have HGB := Lib.hid hgb
            have hz1 := lt_of_heap hgb
            clear hrest hgb HTK HGD
            go_wp2_with (first | (go_at_call 9; refine (New_ref n _ h0 h1).mono ?_; rintro e w4 ⟨rfl, rfl⟩))
            refine range_named fun A2 W2 hA2 hW2 => ?_
            obtain ⟨y, hy⟩ : ∃ y, Hid (w1.heap.size = y) := ⟨_, rfl⟩
            have hu2 : Up w1 W2 := by subst hW2; exact uq
            have hyz : w1.heap.size ≤ y := Nat.le_of_eq hy.out
            have hwW : Up w W2 := hup.trans hu2
            have BR : Hid (W2.heap[y]? = some (.cells #[.int .i64 n, .int .i64 0, .slice none 0 0] 40 (0, 0))) := by rw [← hy.out]; subst hW2; exact alloc_get _ _
            have hws1 := hup.size
            have HN2 : Hid (Now W2 (own1 (z + 1)) (own1 y) (z + 1) y ⟨n, 0, []⟩ W2) := Now.blocks (hu2.get HGB.out) BR.out h0 h1 (by omega)
            have HP2 : Hid (∀ b, b < w.heap.size → own1 (z + 1) b = none ∧ own1 y b = none) := fun b hb => ⟨own1_none hb (by omega), own1_none hb (by omega)⟩
            have HU2 := Lib.hid (And.intro hu2 (And.intro hyz hwW))
            clear hW2 hu2 hyz hwW hup
            rw [hy.out] at hA2
            subst hA2
            go_loopw [12] (fun i wq => ∃ j : Nat, j ≤ len ∧ j ≤ 100 ∧ i = .int .i64 j ∧ Now W2 (own1 (z + 1)) (own1 y) (z + 1) y (HM.plays ⟨n, 0, []⟩ (ss.take j)) wq) (fun i _ => len - (intOf i).toNat)
            case atStart => exact ⟨0, Nat.zero_le _, by omega, rfl, HN2.out⟩
            case round =>
              obtain ⟨k, hk, hk100, rfl, hnow⟩ := hrel
              have hup := hnow.base HU2.out.2.2 HP2.out
              have hl := HI.out.num
              have HNQ := Lib.hid hnow
              have HGQ : Hid ((HM.plays ⟨n, 0, []⟩ (ss.take k)).Good 8000) := good_plays _ (good_none _ _ _) (fun y hy => HSH.out y (List.take_subset_take_left ss hk100 hy))
              by_cases hlt : k < len
              · have hki : (k : Int) < len := by omega
                by_cases h100 : k < 100
                · have h100k : (k : Int) < 100 := by omega
                  have hjl : k < ss.length := by omega
                  obtain ⟨s, hs⟩ : ∃ s, ss[k]? = some s := ⟨_, List.getElem?_eq_getElem hjl⟩
                  obtain ⟨b, off, rfl, hc⟩ := HI.out.at_ k s hs
                  have HC := Lib.hid hc
                  have HWT : Hid (s.weight ≤ 8000) := HSH.out s (List.mem_of_getElem? (i := k) (by rw [List.getElem?_take, if_pos h100]; exact hs))
                  have HNX : Hid (HM.plays ⟨n, 0, []⟩ (ss.take (k + 1)) = (HM.plays ⟨n, 0, []⟩ (ss.take k)).stepM s) := plays_take _ _ _ _ hs
                  clear hs hc hnow hlt h100 hjl hl
                  go_wp2_with (first | (go_at_call 12; refine (Show_now 5 _ _ (HNQ.out.up uq) HGQ.out (by decide) (HT.out.1.up uq) (HT.out.2.up uq)).mono ?_; rintro e v1 ⟨rfl, hv1⟩; have hup2 : Hid (Up w v1) := hup.trans (show Up wr v1 from uq); have y0 := (hup2.out.cells b _ HC.out.1).trans (HC.out.2 0 _ rfl); have y1 := (hup2.out.cells b _ HC.out.1).trans (HC.out.2 1 _ rfl); have y2 := (hup2.out.cells b _ HC.out.1).trans (HC.out.2 2 _ rfl); have y3 := (hup2.out.cells b _ HC.out.1).trans (HC.out.2 3 _ rfl); have y4 := (hup2.out.cells b _ HC.out.1).trans (HC.out.2 4 _ rfl); have y5 := (hup2.out.cells b _ HC.out.1).trans (HC.out.2 5 _ rfl); have y6 := (hup2.out.cells b _ HC.out.1).trans (HC.out.2 6 _ rfl); have y7 := (hup2.out.cells b _ HC.out.1).trans (HC.out.2 7 _ rfl); have y8 := (hup2.out.cells b _ HC.out.1).trans (HC.out.2 8 _ rfl); have y9 := (hup2.out.cells b _ HC.out.1).trans (HC.out.2 9 _ rfl); have y10 := (hup2.out.cells b _ HC.out.1).trans (HC.out.2 10 _ rfl); have y11 := (hup2.out.cells b _ HC.out.1).trans (HC.out.2 11 _ rfl); have y12 := (hup2.out.cells b _ HC.out.1).trans (HC.out.2 12 _ rfl); rw [Nat.add_zero] at y0) | (go_at_call 18; refine (Typeof_now s.v (HNQ.out.up uq)).mono ?_; rintro e v2 ⟨⟨tv, rfl⟩, hv2⟩; have hup3 : Hid (Up w v2) := hup2.out.trans (show Up v1 v2 from uq); have y0 := (hup3.out.cells b _ HC.out.1).trans (HC.out.2 0 _ rfl); have y1 := (hup3.out.cells b _ HC.out.1).trans (HC.out.2 1 _ rfl); have y2 := (hup3.out.cells b _ HC.out.1).trans (HC.out.2 2 _ rfl); have y3 := (hup3.out.cells b _ HC.out.1).trans (HC.out.2 3 _ rfl); have y4 := (hup3.out.cells b _ HC.out.1).trans (HC.out.2 4 _ rfl); have y5 := (hup3.out.cells b _ HC.out.1).trans (HC.out.2 5 _ rfl); have y6 := (hup3.out.cells b _ HC.out.1).trans (HC.out.2 6 _ rfl); have y7 := (hup3.out.cells b _ HC.out.1).trans (HC.out.2 7 _ rfl); have y8 := (hup3.out.cells b _ HC.out.1).trans (HC.out.2 8 _ rfl); have y9 := (hup3.out.cells b _ HC.out.1).trans (HC.out.2 9 _ rfl); have y10 := (hup3.out.cells b _ HC.out.1).trans (HC.out.2 10 _ rfl); have y11 := (hup3.out.cells b _ HC.out.1).trans (HC.out.2 11 _ rfl); have y12 := (hup3.out.cells b _ HC.out.1).trans (HC.out.2 12 _ rfl); rw [Nat.add_zero] at y0) | (go_at_call 10; refine (does_now s (HNQ.out.up uq) HGQ.out HWT.out (HT.out.1.up uq) (HT.out.2.up uq)).mono ?_; rintro e w5 ⟨rfl, hnow2⟩))
                  exact ⟨⟨k + 1, by omega, by omega, by simp, by rw [HNX.out]; exact hnow2⟩, by simp [intOf]; omega⟩
                · have h100k : ¬ (k : Int) < 100 := by omega
                  have HTQ : Hid (ss.take k = ss.take 100) := by obtain rfl : k = 100 := by omega
                                                                 rfl
                  rw [HTQ.out, hHE.out] at HNQ
                  have HUR := Lib.hid (HRS.out.later HU2.out.1 HU2.out.2.1 HNQ.out)
                  clear hnow hlt h100 hl
                  go_wp2_with (first | (go_at_call 11; refine (Used_rest HUR.out).mono ?_; rintro e w6 ⟨rfl, rfl⟩) | (go_at_call 11; refine (Used_now HNQ.out).mono ?_; rintro e w6 ⟨rfl, rfl⟩) | (go_at_call 7; refine (known_any _).mono ?_; rintro e w7 ⟨rfl, hu7⟩))
                  refine bodyPost_eq (by (simp [results, Tryz.results5, go_sem, *]) <;> rfl) rfl rfl ?_
                  exact ⟨rfl, uq⟩
              · have hki : ¬ (k : Int) < len := by omega
                have HTQ : Hid (ss.take k = ss.take 100) := by unfold Hid; rw [List.take_of_length_le (by omega), List.take_of_length_le (by omega)]
                rw [HTQ.out, hHE.out] at HNQ
                have HUR := Lib.hid (HRS.out.later HU2.out.1 HU2.out.2.1 HNQ.out)
                clear hnow hlt hl
                go_wp2_with (first | (go_at_call 11; refine (Used_rest HUR.out).mono ?_; rintro e w6 ⟨rfl, rfl⟩) | (go_at_call 11; refine (Used_now HNQ.out).mono ?_; rintro e w6 ⟨rfl, rfl⟩) | (go_at_call 7; refine (known_any _).mono ?_; rintro e w7 ⟨rfl, hu7⟩))
                refine bodyPost_eq (by (simp [results, Tryz.results5, go_sem, *]) <;> rfl) rfl rfl ?_
                exact ⟨rfl, uq⟩
        · have hji : ¬ (j : Int) < len := by omega
          have HTK : Hid (ss.take j = ss.take 100) := by unfold Hid; rw [List.take_of_length_le (by omega), List.take_of_length_le (by omega)]
          clear hnow hlt hl
          obtain ⟨w1, hw1⟩ : ∃ w1, w1 = wr := ⟨_, rfl⟩
          subst hw1
          obtain ⟨HE, hHE⟩ : ∃ HE, Hid (HM.plays ⟨n, 0, []⟩ (ss.take 100) = HE) := ⟨_, rfl⟩
          rw [HTK.out, hHE.out] at HNW
          obtain ⟨hrest, hgb⟩ := HNW.out.rest hzW (by omega) (by omega) _ B1.out
          have HRS := Lib.hid hrest
          have HGB := Lib.hid hgb
          have hz1 := lt_of_heap hgb
          clear hrest hgb HTK HGD
          go_wp2_with (first | (go_at_call 9; refine (New_ref n _ h0 h1).mono ?_; rintro e w4 ⟨rfl, rfl⟩))
          refine range_named fun A2 W2 hA2 hW2 => ?_
          obtain ⟨y, hy⟩ : ∃ y, Hid (w1.heap.size = y) := ⟨_, rfl⟩
          have hu2 : Up w1 W2 := by subst hW2; exact uq
          have hyz : w1.heap.size ≤ y := Nat.le_of_eq hy.out
          have hwW : Up w W2 := hup.trans hu2
          have BR : Hid (W2.heap[y]? = some (.cells #[.int .i64 n, .int .i64 0, .slice none 0 0] 40 (0, 0))) := by rw [← hy.out]; subst hW2; exact alloc_get _ _
          have hws1 := hup.size
          have HN2 : Hid (Now W2 (own1 (z + 1)) (own1 y) (z + 1) y ⟨n, 0, []⟩ W2) := Now.blocks (hu2.get HGB.out) BR.out h0 h1 (by omega)
          have HP2 : Hid (∀ b, b < w.heap.size → own1 (z + 1) b = none ∧ own1 y b = none) := fun b hb => ⟨own1_none hb (by omega), own1_none hb (by omega)⟩
          have HU2 := Lib.hid (And.intro hu2 (And.intro hyz hwW))
          clear hW2 hu2 hyz hwW hup
          rw [hy.out] at hA2
          subst hA2
          go_loopw [12] (fun i wq => ∃ j : Nat, j ≤ len ∧ j ≤ 100 ∧ i = .int .i64 j ∧ Now W2 (own1 (z + 1)) (own1 y) (z + 1) y (HM.plays ⟨n, 0, []⟩ (ss.take j)) wq) (fun i _ => len - (intOf i).toNat)
          case atStart => exact ⟨0, Nat.zero_le _, by omega, rfl, HN2.out⟩
          case round =>
            obtain ⟨k, hk, hk100, rfl, hnow⟩ := hrel
            have hup := hnow.base HU2.out.2.2 HP2.out
            have hl := HI.out.num
            have HNQ := Lib.hid hnow
            have HGQ : Hid ((HM.plays ⟨n, 0, []⟩ (ss.take k)).Good 8000) := good_plays _ (good_none _ _ _) (fun y hy => HSH.out y (List.take_subset_take_left ss hk100 hy))
            by_cases hlt : k < len
            · have hki : (k : Int) < len := by omega
              by_cases h100 : k < 100
              · have h100k : (k : Int) < 100 := by omega
                have hjl : k < ss.length := by omega
                obtain ⟨s, hs⟩ : ∃ s, ss[k]? = some s := ⟨_, List.getElem?_eq_getElem hjl⟩
                obtain ⟨b, off, rfl, hc⟩ := HI.out.at_ k s hs
                have HC := Lib.hid hc
                have HWT : Hid (s.weight ≤ 8000) := HSH.out s (List.mem_of_getElem? (i := k) (by rw [List.getElem?_take, if_pos h100]; exact hs))
                have HNX : Hid (HM.plays ⟨n, 0, []⟩ (ss.take (k + 1)) = (HM.plays ⟨n, 0, []⟩ (ss.take k)).stepM s) := plays_take _ _ _ _ hs
                clear hs hc hnow hlt h100 hjl hl
                go_wp2_with (first | (go_at_call 12; refine (Show_now 5 _ _ (HNQ.out.up uq) HGQ.out (by decide) (HT.out.1.up uq) (HT.out.2.up uq)).mono ?_; rintro e v1 ⟨rfl, hv1⟩; have hup2 : Hid (Up w v1) := hup.trans (show Up wr v1 from uq); have y0 := (hup2.out.cells b _ HC.out.1).trans (HC.out.2 0 _ rfl); have y1 := (hup2.out.cells b _ HC.out.1).trans (HC.out.2 1 _ rfl); have y2 := (hup2.out.cells b _ HC.out.1).trans (HC.out.2 2 _ rfl); have y3 := (hup2.out.cells b _ HC.out.1).trans (HC.out.2 3 _ rfl); have y4 := (hup2.out.cells b _ HC.out.1).trans (HC.out.2 4 _ rfl); have y5 := (hup2.out.cells b _ HC.out.1).trans (HC.out.2 5 _ rfl); have y6 := (hup2.out.cells b _ HC.out.1).trans (HC.out.2 6 _ rfl); have y7 := (hup2.out.cells b _ HC.out.1).trans (HC.out.2 7 _ rfl); have y8 := (hup2.out.cells b _ HC.out.1).trans (HC.out.2 8 _ rfl); have y9 := (hup2.out.cells b _ HC.out.1).trans (HC.out.2 9 _ rfl); have y10 := (hup2.out.cells b _ HC.out.1).trans (HC.out.2 10 _ rfl); have y11 := (hup2.out.cells b _ HC.out.1).trans (HC.out.2 11 _ rfl); have y12 := (hup2.out.cells b _ HC.out.1).trans (HC.out.2 12 _ rfl); rw [Nat.add_zero] at y0) | (go_at_call 18; refine (Typeof_now s.v (HNQ.out.up uq)).mono ?_; rintro e v2 ⟨⟨tv, rfl⟩, hv2⟩; have hup3 : Hid (Up w v2) := hup2.out.trans (show Up v1 v2 from uq); have y0 := (hup3.out.cells b _ HC.out.1).trans (HC.out.2 0 _ rfl); have y1 := (hup3.out.cells b _ HC.out.1).trans (HC.out.2 1 _ rfl); have y2 := (hup3.out.cells b _ HC.out.1).trans (HC.out.2 2 _ rfl); have y3 := (hup3.out.cells b _ HC.out.1).trans (HC.out.2 3 _ rfl); have y4 := (hup3.out.cells b _ HC.out.1).trans (HC.out.2 4 _ rfl); have y5 := (hup3.out.cells b _ HC.out.1).trans (HC.out.2 5 _ rfl); have y6 := (hup3.out.cells b _ HC.out.1).trans (HC.out.2 6 _ rfl); have y7 := (hup3.out.cells b _ HC.out.1).trans (HC.out.2 7 _ rfl); have y8 := (hup3.out.cells b _ HC.out.1).trans (HC.out.2 8 _ rfl); have y9 := (hup3.out.cells b _ HC.out.1).trans (HC.out.2 9 _ rfl); have y10 := (hup3.out.cells b _ HC.out.1).trans (HC.out.2 10 _ rfl); have y11 := (hup3.out.cells b _ HC.out.1).trans (HC.out.2 11 _ rfl); have y12 := (hup3.out.cells b _ HC.out.1).trans (HC.out.2 12 _ rfl); rw [Nat.add_zero] at y0) | (go_at_call 10; refine (does_now s (HNQ.out.up uq) HGQ.out HWT.out (HT.out.1.up uq) (HT.out.2.up uq)).mono ?_; rintro e w5 ⟨rfl, hnow2⟩))
                exact ⟨⟨k + 1, by omega, by omega, by simp, by rw [HNX.out]; exact hnow2⟩, by simp [intOf]; omega⟩
              · have h100k : ¬ (k : Int) < 100 := by omega
                have HTQ : Hid (ss.take k = ss.take 100) := by obtain rfl : k = 100 := by omega
                                                               rfl
                rw [HTQ.out, hHE.out] at HNQ
                have HUR := Lib.hid (HRS.out.later HU2.out.1 HU2.out.2.1 HNQ.out)
                clear hnow hlt h100 hl
                go_wp2_with (first | (go_at_call 11; refine (Used_rest HUR.out).mono ?_; rintro e w6 ⟨rfl, rfl⟩) | (go_at_call 11; refine (Used_now HNQ.out).mono ?_; rintro e w6 ⟨rfl, rfl⟩) | (go_at_call 7; refine (known_any _).mono ?_; rintro e w7 ⟨rfl, hu7⟩))
                refine bodyPost_eq (by (simp [results, Tryz.results5, go_sem, *]) <;> rfl) rfl rfl ?_
                exact ⟨rfl, uq⟩
            · have hki : ¬ (k : Int) < len := by omega
              have HTQ : Hid (ss.take k = ss.take 100) := by unfold Hid; rw [List.take_of_length_le (by omega), List.take_of_length_le (by omega)]
              rw [HTQ.out, hHE.out] at HNQ
              have HUR := Lib.hid (HRS.out.later HU2.out.1 HU2.out.2.1 HNQ.out)
              clear hnow hlt hl
              go_wp2_with (first | (go_at_call 11; refine (Used_rest HUR.out).mono ?_; rintro e w6 ⟨rfl, rfl⟩) | (go_at_call 11; refine (Used_now HNQ.out).mono ?_; rintro e w6 ⟨rfl, rfl⟩) | (go_at_call 7; refine (known_any _).mono ?_; rintro e w7 ⟨rfl, hu7⟩))
              refine bodyPost_eq (by (simp [results, Tryz.results5, go_sem, *]) <;> rfl) rfl rfl ?_
              exact ⟨rfl, uq⟩
    · have hbad : n < 0 ∨ 1048576 < n := by omega
      clear hin
      go_enter Tryz.func5, Tryz.ntmps5
      go_wp2_with (first | (go_at_call 6; refine (heavy_any a len cap ss _ (HI.out.up uq)).mono ?_; rintro e w2 ⟨rfl, hu2⟩; rw [HV.out]) | (go_at_call 8; refine (New_bad n _ hbad).mono ?_; rintro e w3 ⟨rfl, rfl⟩) | (go_at_call 7; refine (known_any _).mono ?_; rintro e w5 ⟨rfl, hu5⟩))
      go_ret
      exact ⟨rfl, uq⟩
  · have HV := Lib.hid hv
    clear hv
    go_enter Tryz.func5, Tryz.ntmps5
    go_wp2_with (first | (go_at_call 6; refine (heavy_any a len cap ss _ (HI.out.up uq)).mono ?_; rintro e w2 ⟨rfl, hu2⟩; rw [HV.out]) | (go_at_call 7; refine (known_any _).mono ?_; rintro e w3 ⟨rfl, hu3⟩))
    go_ret
    exact ⟨rfl, uq⟩

end Go.Proofs.YtmbipadiaggolaaGreatDoor
