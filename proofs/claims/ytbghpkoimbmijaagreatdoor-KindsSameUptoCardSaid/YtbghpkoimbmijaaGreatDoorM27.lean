import Derived.Test.YtbghpkoimbmijaaGreatDoorM25
/- YtbghpkoimbmijaaGreatDoorM27: lemmas of the proof, in order: Y19, Y20. -/
/- Walks: whether a type of kind 19 may be (printed by gen_may.py). -/
namespace Go.Proofs.YtbghpkoimbmijaaGreatDoor
open Go.RowKit
set_option linter.unusedSimpArgs false
set_option linter.unusedVariables false

set_option maxRecDepth 100000 in
set_option maxHeartbeats 4000000 in
theorem may_19_Tn (N M : Nat → Prop) (B : Nat) (nm : ByteArray) (ia na ma pa : Option Addr) (il ic ncap mcap pcap : Nat) (qs : List Nat) (ps : List Ty) (ns : List ByteArray) (ms : List Bool) (m : Int) (w : World) (h : MayH N M B nm (.slice na ns.length ncap) (.slice ma ms.length mcap) (.slice pa qs.length pcap) qs ps ns ms m w) (n : Int) (hn1 : -9223372036854775808 ≤ n) (hn2 : n ≤ 9223372036854775807) (hN : (ns.length : Int) + ms.length = 0)(hz : ¬ n = 0) :
    Calls Tryz.prog 24 #[typV 19 n nm (.slice ia il ic) (.slice na ns.length ncap) (.slice ma ms.length mcap), .slice pa qs.length pcap] w (MayR (Ty.mk 19 n nm ps ns ms) w) := by
  have HX : Hid _ := Lib.hid h
  have hnl : (ns.length : Int) ≤ 1000000000 ∧ (ms.length : Int) ≤ 1000000000 ∧ (qs.length : Int) ≤ 1000000000 := by
    obtain ⟨_, _, _, _, h1⟩ := h.names.form
    obtain ⟨_, _, _, _, h2⟩ := h.marks.form
    obtain ⟨_, _, _, _, h3⟩ := h.row.form
    rw [List.length_map] at h1 h2 h3
    omega
  clear h
  go_enter Tryz.func24, Tryz.ntmps24
  go_wp2_with fail
  go_quiet (fail)
  go_wp2_with (first | (go_at_call 37; refine (HX.out.name _ (show Up w _ from uq)).mono ?_; (rintro e w2 ⟨⟨(_ | _), rfl, hk⟩, hu2⟩ <;> (have HK := Lib.hid hk; clear hk))))
  all_goals (try go_quiet (fail))
  all_goals (try go_wp2_with (first | (go_at_call 37; refine (HX.out.name _ (show Up w _ from uq)).mono ?_; (rintro e w2 ⟨⟨(_ | _), rfl, hk⟩, hu2⟩ <;> (have HK := Lib.hid hk; clear hk)))))
  all_goals go_ret
  all_goals refine ⟨⟨_, rfl, fun e => ?_⟩, uq⟩
  all_goals first
    | (cases e; done)
    | ((try simp only [decide_eq_true_eq, Bool.and_eq_true, beq_iff_eq] at e); exact valid_named HX.out (by decide) hN (by first | omega | (simp [*]; done)) (by omega) (by omega) (HK.out trivial))

set_option maxRecDepth 100000 in
set_option maxHeartbeats 4000000 in
theorem may_19_T0t (N M : Nat → Prop) (B : Nat) (nm : ByteArray) (ia na ma pa : Option Addr) (il ic ncap mcap pcap : Nat) (qs : List Nat) (ps : List Ty) (ns : List ByteArray) (ms : List Bool) (m : Int) (w : World) (h : MayH N M B nm (.slice na ns.length ncap) (.slice ma ms.length mcap) (.slice pa qs.length pcap) qs ps ns ms m w) (hN : (ns.length : Int) + ms.length = 0)(ht : nm.toList = []) :
    Calls Tryz.prog 24 #[typV 19 0 nm (.slice ia il ic) (.slice na ns.length ncap) (.slice ma ms.length mcap), .slice pa qs.length pcap] w (MayR (Ty.mk 19 0 nm ps ns ms) w) := by
  have HX : Hid _ := Lib.hid h
  have hnl : (ns.length : Int) ≤ 1000000000 ∧ (ms.length : Int) ≤ 1000000000 ∧ (qs.length : Int) ≤ 1000000000 := by
    obtain ⟨_, _, _, _, h1⟩ := h.names.form
    obtain ⟨_, _, _, _, h2⟩ := h.marks.form
    obtain ⟨_, _, _, _, h3⟩ := h.row.form
    rw [List.length_map] at h1 h2 h3
    omega
  clear h
  go_enter Tryz.func24, Tryz.ntmps24
  go_wp2_with fail
  go_quiet (fail)
  go_wp2_with (first | (go_at_call 37; refine (HX.out.name _ (show Up w _ from uq)).mono ?_; (rintro e w2 ⟨⟨(_ | _), rfl, hk⟩, hu2⟩ <;> (have HK := Lib.hid hk; clear hk))))
  all_goals (try go_quiet (fail))
  all_goals (try go_wp2_with (first | (go_at_call 37; refine (HX.out.name _ (show Up w _ from uq)).mono ?_; (rintro e w2 ⟨⟨(_ | _), rfl, hk⟩, hu2⟩ <;> (have HK := Lib.hid hk; clear hk)))))
  all_goals go_ret
  all_goals refine ⟨⟨_, rfl, fun e => ?_⟩, uq⟩
  all_goals first
    | (cases e; done)
    | ((try simp only [decide_eq_true_eq, Bool.and_eq_true, beq_iff_eq] at e); exact valid_named HX.out (by decide) hN (by first | omega | (simp [*]; done)) (by omega) (by omega) (HK.out trivial))

set_option maxRecDepth 100000 in
set_option maxHeartbeats 4000000 in
theorem may_19_T0f (N M : Nat → Prop) (B : Nat) (nm : ByteArray) (ia na ma pa : Option Addr) (il ic ncap mcap pcap : Nat) (qs : List Nat) (ps : List Ty) (ns : List ByteArray) (ms : List Bool) (m : Int) (w : World) (h : MayH N M B nm (.slice na ns.length ncap) (.slice ma ms.length mcap) (.slice pa qs.length pcap) qs ps ns ms m w) (hN : (ns.length : Int) + ms.length = 0)(ht : ¬ nm.toList = []) :
    Calls Tryz.prog 24 #[typV 19 0 nm (.slice ia il ic) (.slice na ns.length ncap) (.slice ma ms.length mcap), .slice pa qs.length pcap] w (MayR (Ty.mk 19 0 nm ps ns ms) w) := by
  have HX : Hid _ := Lib.hid h
  have hnl : (ns.length : Int) ≤ 1000000000 ∧ (ms.length : Int) ≤ 1000000000 ∧ (qs.length : Int) ≤ 1000000000 := by
    obtain ⟨_, _, _, _, h1⟩ := h.names.form
    obtain ⟨_, _, _, _, h2⟩ := h.marks.form
    obtain ⟨_, _, _, _, h3⟩ := h.row.form
    rw [List.length_map] at h1 h2 h3
    omega
  clear h
  go_enter Tryz.func24, Tryz.ntmps24
  go_wp2_with fail
  go_quiet (fail)
  go_wp2_with (first | (go_at_call 37; refine (HX.out.name _ (show Up w _ from uq)).mono ?_; (rintro e w2 ⟨⟨(_ | _), rfl, hk⟩, hu2⟩ <;> (have HK := Lib.hid hk; clear hk))))
  all_goals (try go_quiet (fail))
  all_goals (try go_wp2_with (first | (go_at_call 37; refine (HX.out.name _ (show Up w _ from uq)).mono ?_; (rintro e w2 ⟨⟨(_ | _), rfl, hk⟩, hu2⟩ <;> (have HK := Lib.hid hk; clear hk)))))
  all_goals go_ret
  all_goals refine ⟨⟨_, rfl, fun e => ?_⟩, uq⟩
  all_goals first
    | (cases e; done)
    | ((try simp only [decide_eq_true_eq, Bool.and_eq_true, beq_iff_eq] at e); exact valid_named HX.out (by decide) hN (by first | omega | (simp [*]; done)) (by omega) (by omega) (HK.out trivial))

set_option maxRecDepth 100000 in
set_option maxHeartbeats 4000000 in
theorem may_19_Fn (N M : Nat → Prop) (B : Nat) (nm : ByteArray) (ia na ma pa : Option Addr) (il ic ncap mcap pcap : Nat) (qs : List Nat) (ps : List Ty) (ns : List ByteArray) (ms : List Bool) (m : Int) (w : World) (h : MayH N M B nm (.slice na ns.length ncap) (.slice ma ms.length mcap) (.slice pa qs.length pcap) qs ps ns ms m w) (n : Int) (hn1 : -9223372036854775808 ≤ n) (hn2 : n ≤ 9223372036854775807) (hN : ¬ (ns.length : Int) + ms.length = 0)(hz : ¬ n = 0) :
    Calls Tryz.prog 24 #[typV 19 n nm (.slice ia il ic) (.slice na ns.length ncap) (.slice ma ms.length mcap), .slice pa qs.length pcap] w (MayR (Ty.mk 19 n nm ps ns ms) w) := by
  have HX : Hid _ := Lib.hid h
  have hnl : (ns.length : Int) ≤ 1000000000 ∧ (ms.length : Int) ≤ 1000000000 ∧ (qs.length : Int) ≤ 1000000000 := by
    obtain ⟨_, _, _, _, h1⟩ := h.names.form
    obtain ⟨_, _, _, _, h2⟩ := h.marks.form
    obtain ⟨_, _, _, _, h3⟩ := h.row.form
    rw [List.length_map] at h1 h2 h3
    omega
  clear h
  go_enter Tryz.func24, Tryz.ntmps24
  go_wp2_with fail
  go_quiet (fail)
  go_wp2_with (first | (go_at_call 37; refine (HX.out.name _ (show Up w _ from uq)).mono ?_; (rintro e w2 ⟨⟨(_ | _), rfl, hk⟩, hu2⟩ <;> (have HK := Lib.hid hk; clear hk))))
  all_goals (try go_quiet (fail))
  all_goals (try go_wp2_with (first | (go_at_call 37; refine (HX.out.name _ (show Up w _ from uq)).mono ?_; (rintro e w2 ⟨⟨(_ | _), rfl, hk⟩, hu2⟩ <;> (have HK := Lib.hid hk; clear hk)))))
  all_goals go_ret
  all_goals refine ⟨⟨_, rfl, fun e => ?_⟩, uq⟩
  all_goals first
    | (cases e; done)
    | ((try simp only [decide_eq_true_eq, Bool.and_eq_true, beq_iff_eq] at e); exact valid_named HX.out (by decide) hN (by first | omega | (simp [*]; done)) (by omega) (by omega) (HK.out trivial))

set_option maxRecDepth 100000 in
set_option maxHeartbeats 4000000 in
theorem may_19_F0t (N M : Nat → Prop) (B : Nat) (nm : ByteArray) (ia na ma pa : Option Addr) (il ic ncap mcap pcap : Nat) (qs : List Nat) (ps : List Ty) (ns : List ByteArray) (ms : List Bool) (m : Int) (w : World) (h : MayH N M B nm (.slice na ns.length ncap) (.slice ma ms.length mcap) (.slice pa qs.length pcap) qs ps ns ms m w) (hN : ¬ (ns.length : Int) + ms.length = 0)(ht : nm.toList = []) :
    Calls Tryz.prog 24 #[typV 19 0 nm (.slice ia il ic) (.slice na ns.length ncap) (.slice ma ms.length mcap), .slice pa qs.length pcap] w (MayR (Ty.mk 19 0 nm ps ns ms) w) := by
  have HX : Hid _ := Lib.hid h
  have hnl : (ns.length : Int) ≤ 1000000000 ∧ (ms.length : Int) ≤ 1000000000 ∧ (qs.length : Int) ≤ 1000000000 := by
    obtain ⟨_, _, _, _, h1⟩ := h.names.form
    obtain ⟨_, _, _, _, h2⟩ := h.marks.form
    obtain ⟨_, _, _, _, h3⟩ := h.row.form
    rw [List.length_map] at h1 h2 h3
    omega
  clear h
  go_enter Tryz.func24, Tryz.ntmps24
  go_wp2_with fail
  go_quiet (fail)
  go_wp2_with (first | (go_at_call 37; refine (HX.out.name _ (show Up w _ from uq)).mono ?_; (rintro e w2 ⟨⟨(_ | _), rfl, hk⟩, hu2⟩ <;> (have HK := Lib.hid hk; clear hk))))
  all_goals (try go_quiet (fail))
  all_goals (try go_wp2_with (first | (go_at_call 37; refine (HX.out.name _ (show Up w _ from uq)).mono ?_; (rintro e w2 ⟨⟨(_ | _), rfl, hk⟩, hu2⟩ <;> (have HK := Lib.hid hk; clear hk)))))
  all_goals go_ret
  all_goals refine ⟨⟨_, rfl, fun e => ?_⟩, uq⟩
  all_goals first
    | (cases e; done)
    | ((try simp only [decide_eq_true_eq, Bool.and_eq_true, beq_iff_eq] at e); exact valid_named HX.out (by decide) hN (by first | omega | (simp [*]; done)) (by omega) (by omega) (HK.out trivial))

set_option maxRecDepth 100000 in
set_option maxHeartbeats 4000000 in
theorem may_19_F0f (N M : Nat → Prop) (B : Nat) (nm : ByteArray) (ia na ma pa : Option Addr) (il ic ncap mcap pcap : Nat) (qs : List Nat) (ps : List Ty) (ns : List ByteArray) (ms : List Bool) (m : Int) (w : World) (h : MayH N M B nm (.slice na ns.length ncap) (.slice ma ms.length mcap) (.slice pa qs.length pcap) qs ps ns ms m w) (hN : ¬ (ns.length : Int) + ms.length = 0)(ht : ¬ nm.toList = []) :
    Calls Tryz.prog 24 #[typV 19 0 nm (.slice ia il ic) (.slice na ns.length ncap) (.slice ma ms.length mcap), .slice pa qs.length pcap] w (MayR (Ty.mk 19 0 nm ps ns ms) w) := by
  have HX : Hid _ := Lib.hid h
  have hnl : (ns.length : Int) ≤ 1000000000 ∧ (ms.length : Int) ≤ 1000000000 ∧ (qs.length : Int) ≤ 1000000000 := by
    obtain ⟨_, _, _, _, h1⟩ := h.names.form
    obtain ⟨_, _, _, _, h2⟩ := h.marks.form
    obtain ⟨_, _, _, _, h3⟩ := h.row.form
    rw [List.length_map] at h1 h2 h3
    omega
  clear h
  go_enter Tryz.func24, Tryz.ntmps24
  go_wp2_with fail
  go_quiet (fail)
  go_wp2_with (first | (go_at_call 37; refine (HX.out.name _ (show Up w _ from uq)).mono ?_; (rintro e w2 ⟨⟨(_ | _), rfl, hk⟩, hu2⟩ <;> (have HK := Lib.hid hk; clear hk))))
  all_goals (try go_quiet (fail))
  all_goals (try go_wp2_with (first | (go_at_call 37; refine (HX.out.name _ (show Up w _ from uq)).mono ?_; (rintro e w2 ⟨⟨(_ | _), rfl, hk⟩, hu2⟩ <;> (have HK := Lib.hid hk; clear hk)))))
  all_goals go_ret
  all_goals refine ⟨⟨_, rfl, fun e => ?_⟩, uq⟩
  all_goals first
    | (cases e; done)
    | ((try simp only [decide_eq_true_eq, Bool.and_eq_true, beq_iff_eq] at e); exact valid_named HX.out (by decide) hN (by first | omega | (simp [*]; done)) (by omega) (by omega) (HK.out trivial))

end Go.Proofs.YtbghpkoimbmijaaGreatDoor

/- Walks: whether a type of kind 20 may be (printed by gen_may.py). -/
namespace Go.Proofs.YtbghpkoimbmijaaGreatDoor
open Go.RowKit
set_option linter.unusedSimpArgs false
set_option linter.unusedVariables false

set_option maxRecDepth 100000 in
set_option maxHeartbeats 4000000 in
theorem may_20_Tn (N M : Nat → Prop) (B : Nat) (nm : ByteArray) (ia na ma pa : Option Addr) (il ic ncap mcap pcap : Nat) (qs : List Nat) (ps : List Ty) (ns : List ByteArray) (ms : List Bool) (m : Int) (w : World) (h : MayH N M B nm (.slice na ns.length ncap) (.slice ma ms.length mcap) (.slice pa qs.length pcap) qs ps ns ms m w) (n : Int) (hn1 : -9223372036854775808 ≤ n) (hn2 : n ≤ 9223372036854775807) (hN : (ns.length : Int) + ms.length = 0)(hz : ¬ n = 0) :
    Calls Tryz.prog 24 #[typV 20 n nm (.slice ia il ic) (.slice na ns.length ncap) (.slice ma ms.length mcap), .slice pa qs.length pcap] w (MayR (Ty.mk 20 n nm ps ns ms) w) := by
  have HX : Hid _ := Lib.hid h
  have hnl : (ns.length : Int) ≤ 1000000000 ∧ (ms.length : Int) ≤ 1000000000 ∧ (qs.length : Int) ≤ 1000000000 := by
    obtain ⟨_, _, _, _, h1⟩ := h.names.form
    obtain ⟨_, _, _, _, h2⟩ := h.marks.form
    obtain ⟨_, _, _, _, h3⟩ := h.row.form
    rw [List.length_map] at h1 h2 h3
    omega
  clear h
  have hp1 : Hid (qs.length = 1 → ∃ q p g off, pa = some ⟨g, off, none⟩ ∧ w.cell? ⟨g, off + 0, none⟩ = some (.pointer (some ⟨q, 0, none⟩)) ∧ g < w.heap.size ∧ w.cell? ⟨q, 0, none⟩ = some (.int .i64 p.kind) ∧ q < w.heap.size ∧ ps = [p]) := fun hq => by
    obtain ⟨p, hp⟩ := HX.out.one hq
    obtain ⟨q, hq0⟩ : ∃ q, qs[0]? = some q := ⟨_, List.getElem?_eq_getElem (by omega)⟩
    obtain ⟨g, off, cap', e, hc, hgl, _⟩ := HX.out.row.at_ (j := 0) (u := ptrV q) (by rw [List.getElem?_map, hq0]; rfl)
    injection e with e1 e2 e3
    have ht := HX.out.tys 0 q p hq0 (by rw [hp]; rfl)
    exact ⟨q, p, g, off, e1, hc, hgl, kind_cell ht, ht.lt, hp⟩
  by_cases hq1 : qs.length = 1
  · obtain ⟨q, p, g, off, rfl, y0, yg, y1, yq, hp⟩ := hp1.out hq1
    have hp1 : Hid (ps = [p]) := hp
    rw [Nat.add_zero] at y0
    have hq2 : (qs.length : Int) = 1 := by omega
    by_cases hk1 : p.kind = 19
    · have hkb : (p.kind == 19) = true := by simp [hk1]
      rw [hk1] at y1
      clear hp
      go_enter Tryz.func24, Tryz.ntmps24
      go_wp2_with fail
      go_quiet (fail)
      go_wp2_with (first | (go_at_call 37; refine (HX.out.name _ (show Up w _ from uq)).mono ?_; (rintro e w2 ⟨⟨(_ | _), rfl, hk⟩, hu2⟩ <;> (have HK := Lib.hid hk; clear hk))))
      all_goals (try go_quiet (fail))
      all_goals (try go_wp2_with (first | (go_at_call 37; refine (HX.out.name _ (show Up w _ from uq)).mono ?_; (rintro e w2 ⟨⟨(_ | _), rfl, hk⟩, hu2⟩ <;> (have HK := Lib.hid hk; clear hk)))))
      all_goals go_ret
      all_goals refine ⟨⟨_, rfl, fun e => ?_⟩, uq⟩
      all_goals first
        | (cases e; done)
        | ((try simp only [decide_eq_true_eq, Bool.and_eq_true, beq_iff_eq] at e); exact valid_case HX.out hN hp1.out hk1 (by omega) (by omega) (HK.out trivial))
    · have hkb : (p.kind == 19) = false := by simp [hk1]
      clear hp
      go_enter Tryz.func24, Tryz.ntmps24
      go_wp2_with fail
      go_quiet (fail)
      go_wp2_with (first | (go_at_call 37; refine (HX.out.name _ (show Up w _ from uq)).mono ?_; (rintro e w2 ⟨⟨(_ | _), rfl, hk⟩, hu2⟩ <;> (have HK := Lib.hid hk; clear hk))))
      all_goals (try go_quiet (fail))
      all_goals (try go_wp2_with (first | (go_at_call 37; refine (HX.out.name _ (show Up w _ from uq)).mono ?_; (rintro e w2 ⟨⟨(_ | _), rfl, hk⟩, hu2⟩ <;> (have HK := Lib.hid hk; clear hk)))))
      all_goals go_ret
      all_goals refine ⟨⟨_, rfl, fun e => ?_⟩, uq⟩
      all_goals first
        | (cases e; done)
        | (exfalso; simp_all; done)
  · have hq2 : ¬ (qs.length : Int) = 1 := by omega
    clear hp1
    go_enter Tryz.func24, Tryz.ntmps24
    go_wp2_with fail
    go_quiet (fail)
    go_wp2_with (first | (go_at_call 37; refine (HX.out.name _ (show Up w _ from uq)).mono ?_; (rintro e w2 ⟨⟨(_ | _), rfl, hk⟩, hu2⟩ <;> (have HK := Lib.hid hk; clear hk))))
    all_goals (try go_quiet (fail))
    all_goals (try go_wp2_with (first | (go_at_call 37; refine (HX.out.name _ (show Up w _ from uq)).mono ?_; (rintro e w2 ⟨⟨(_ | _), rfl, hk⟩, hu2⟩ <;> (have HK := Lib.hid hk; clear hk)))))
    all_goals go_ret
    all_goals refine ⟨⟨_, rfl, fun e => ?_⟩, uq⟩
    all_goals first
      | (cases e; done)
      | (exfalso; simp_all; done)

set_option maxRecDepth 100000 in
set_option maxHeartbeats 4000000 in
theorem may_20_T0t (N M : Nat → Prop) (B : Nat) (nm : ByteArray) (ia na ma pa : Option Addr) (il ic ncap mcap pcap : Nat) (qs : List Nat) (ps : List Ty) (ns : List ByteArray) (ms : List Bool) (m : Int) (w : World) (h : MayH N M B nm (.slice na ns.length ncap) (.slice ma ms.length mcap) (.slice pa qs.length pcap) qs ps ns ms m w) (hN : (ns.length : Int) + ms.length = 0)(ht : nm.toList = []) :
    Calls Tryz.prog 24 #[typV 20 0 nm (.slice ia il ic) (.slice na ns.length ncap) (.slice ma ms.length mcap), .slice pa qs.length pcap] w (MayR (Ty.mk 20 0 nm ps ns ms) w) := by
  have HX : Hid _ := Lib.hid h
  have hnl : (ns.length : Int) ≤ 1000000000 ∧ (ms.length : Int) ≤ 1000000000 ∧ (qs.length : Int) ≤ 1000000000 := by
    obtain ⟨_, _, _, _, h1⟩ := h.names.form
    obtain ⟨_, _, _, _, h2⟩ := h.marks.form
    obtain ⟨_, _, _, _, h3⟩ := h.row.form
    rw [List.length_map] at h1 h2 h3
    omega
  clear h
  have hp1 : Hid (qs.length = 1 → ∃ q p g off, pa = some ⟨g, off, none⟩ ∧ w.cell? ⟨g, off + 0, none⟩ = some (.pointer (some ⟨q, 0, none⟩)) ∧ g < w.heap.size ∧ w.cell? ⟨q, 0, none⟩ = some (.int .i64 p.kind) ∧ q < w.heap.size ∧ ps = [p]) := fun hq => by
    obtain ⟨p, hp⟩ := HX.out.one hq
    obtain ⟨q, hq0⟩ : ∃ q, qs[0]? = some q := ⟨_, List.getElem?_eq_getElem (by omega)⟩
    obtain ⟨g, off, cap', e, hc, hgl, _⟩ := HX.out.row.at_ (j := 0) (u := ptrV q) (by rw [List.getElem?_map, hq0]; rfl)
    injection e with e1 e2 e3
    have ht := HX.out.tys 0 q p hq0 (by rw [hp]; rfl)
    exact ⟨q, p, g, off, e1, hc, hgl, kind_cell ht, ht.lt, hp⟩
  by_cases hq1 : qs.length = 1
  · obtain ⟨q, p, g, off, rfl, y0, yg, y1, yq, hp⟩ := hp1.out hq1
    have hp1 : Hid (ps = [p]) := hp
    rw [Nat.add_zero] at y0
    have hq2 : (qs.length : Int) = 1 := by omega
    by_cases hk1 : p.kind = 19
    · have hkb : (p.kind == 19) = true := by simp [hk1]
      rw [hk1] at y1
      clear hp
      go_enter Tryz.func24, Tryz.ntmps24
      go_wp2_with fail
      go_quiet (fail)
      go_wp2_with (first | (go_at_call 37; refine (HX.out.name _ (show Up w _ from uq)).mono ?_; (rintro e w2 ⟨⟨(_ | _), rfl, hk⟩, hu2⟩ <;> (have HK := Lib.hid hk; clear hk))))
      all_goals (try go_quiet (fail))
      all_goals (try go_wp2_with (first | (go_at_call 37; refine (HX.out.name _ (show Up w _ from uq)).mono ?_; (rintro e w2 ⟨⟨(_ | _), rfl, hk⟩, hu2⟩ <;> (have HK := Lib.hid hk; clear hk)))))
      all_goals go_ret
      all_goals refine ⟨⟨_, rfl, fun e => ?_⟩, uq⟩
      all_goals first
        | (cases e; done)
        | ((try simp only [decide_eq_true_eq, Bool.and_eq_true, beq_iff_eq] at e); exact valid_case HX.out hN hp1.out hk1 (by omega) (by omega) (HK.out trivial))
    · have hkb : (p.kind == 19) = false := by simp [hk1]
      clear hp
      go_enter Tryz.func24, Tryz.ntmps24
      go_wp2_with fail
      go_quiet (fail)
      go_wp2_with (first | (go_at_call 37; refine (HX.out.name _ (show Up w _ from uq)).mono ?_; (rintro e w2 ⟨⟨(_ | _), rfl, hk⟩, hu2⟩ <;> (have HK := Lib.hid hk; clear hk))))
      all_goals (try go_quiet (fail))
      all_goals (try go_wp2_with (first | (go_at_call 37; refine (HX.out.name _ (show Up w _ from uq)).mono ?_; (rintro e w2 ⟨⟨(_ | _), rfl, hk⟩, hu2⟩ <;> (have HK := Lib.hid hk; clear hk)))))
      all_goals go_ret
      all_goals refine ⟨⟨_, rfl, fun e => ?_⟩, uq⟩
      all_goals first
        | (cases e; done)
        | (exfalso; simp_all; done)
  · have hq2 : ¬ (qs.length : Int) = 1 := by omega
    clear hp1
    go_enter Tryz.func24, Tryz.ntmps24
    go_wp2_with fail
    go_quiet (fail)
    go_wp2_with (first | (go_at_call 37; refine (HX.out.name _ (show Up w _ from uq)).mono ?_; (rintro e w2 ⟨⟨(_ | _), rfl, hk⟩, hu2⟩ <;> (have HK := Lib.hid hk; clear hk))))
    all_goals (try go_quiet (fail))
    all_goals (try go_wp2_with (first | (go_at_call 37; refine (HX.out.name _ (show Up w _ from uq)).mono ?_; (rintro e w2 ⟨⟨(_ | _), rfl, hk⟩, hu2⟩ <;> (have HK := Lib.hid hk; clear hk)))))
    all_goals go_ret
    all_goals refine ⟨⟨_, rfl, fun e => ?_⟩, uq⟩
    all_goals first
      | (cases e; done)
      | (exfalso; simp_all; done)

set_option maxRecDepth 100000 in
set_option maxHeartbeats 4000000 in
theorem may_20_T0f (N M : Nat → Prop) (B : Nat) (nm : ByteArray) (ia na ma pa : Option Addr) (il ic ncap mcap pcap : Nat) (qs : List Nat) (ps : List Ty) (ns : List ByteArray) (ms : List Bool) (m : Int) (w : World) (h : MayH N M B nm (.slice na ns.length ncap) (.slice ma ms.length mcap) (.slice pa qs.length pcap) qs ps ns ms m w) (hN : (ns.length : Int) + ms.length = 0)(ht : ¬ nm.toList = []) :
    Calls Tryz.prog 24 #[typV 20 0 nm (.slice ia il ic) (.slice na ns.length ncap) (.slice ma ms.length mcap), .slice pa qs.length pcap] w (MayR (Ty.mk 20 0 nm ps ns ms) w) := by
  have HX : Hid _ := Lib.hid h
  have hnl : (ns.length : Int) ≤ 1000000000 ∧ (ms.length : Int) ≤ 1000000000 ∧ (qs.length : Int) ≤ 1000000000 := by
    obtain ⟨_, _, _, _, h1⟩ := h.names.form
    obtain ⟨_, _, _, _, h2⟩ := h.marks.form
    obtain ⟨_, _, _, _, h3⟩ := h.row.form
    rw [List.length_map] at h1 h2 h3
    omega
  clear h
  have hp1 : Hid (qs.length = 1 → ∃ q p g off, pa = some ⟨g, off, none⟩ ∧ w.cell? ⟨g, off + 0, none⟩ = some (.pointer (some ⟨q, 0, none⟩)) ∧ g < w.heap.size ∧ w.cell? ⟨q, 0, none⟩ = some (.int .i64 p.kind) ∧ q < w.heap.size ∧ ps = [p]) := fun hq => by
    obtain ⟨p, hp⟩ := HX.out.one hq
    obtain ⟨q, hq0⟩ : ∃ q, qs[0]? = some q := ⟨_, List.getElem?_eq_getElem (by omega)⟩
    obtain ⟨g, off, cap', e, hc, hgl, _⟩ := HX.out.row.at_ (j := 0) (u := ptrV q) (by rw [List.getElem?_map, hq0]; rfl)
    injection e with e1 e2 e3
    have ht := HX.out.tys 0 q p hq0 (by rw [hp]; rfl)
    exact ⟨q, p, g, off, e1, hc, hgl, kind_cell ht, ht.lt, hp⟩
  by_cases hq1 : qs.length = 1
  · obtain ⟨q, p, g, off, rfl, y0, yg, y1, yq, hp⟩ := hp1.out hq1
    have hp1 : Hid (ps = [p]) := hp
    rw [Nat.add_zero] at y0
    have hq2 : (qs.length : Int) = 1 := by omega
    by_cases hk1 : p.kind = 19
    · have hkb : (p.kind == 19) = true := by simp [hk1]
      rw [hk1] at y1
      clear hp
      go_enter Tryz.func24, Tryz.ntmps24
      go_wp2_with fail
      go_quiet (fail)
      go_wp2_with (first | (go_at_call 37; refine (HX.out.name _ (show Up w _ from uq)).mono ?_; (rintro e w2 ⟨⟨(_ | _), rfl, hk⟩, hu2⟩ <;> (have HK := Lib.hid hk; clear hk))))
      all_goals (try go_quiet (fail))
      all_goals (try go_wp2_with (first | (go_at_call 37; refine (HX.out.name _ (show Up w _ from uq)).mono ?_; (rintro e w2 ⟨⟨(_ | _), rfl, hk⟩, hu2⟩ <;> (have HK := Lib.hid hk; clear hk)))))
      all_goals go_ret
      all_goals refine ⟨⟨_, rfl, fun e => ?_⟩, uq⟩
      all_goals first
        | (cases e; done)
        | ((try simp only [decide_eq_true_eq, Bool.and_eq_true, beq_iff_eq] at e); exact valid_case HX.out hN hp1.out hk1 (by omega) (by omega) (HK.out trivial))
    · have hkb : (p.kind == 19) = false := by simp [hk1]
      clear hp
      go_enter Tryz.func24, Tryz.ntmps24
      go_wp2_with fail
      go_quiet (fail)
      go_wp2_with (first | (go_at_call 37; refine (HX.out.name _ (show Up w _ from uq)).mono ?_; (rintro e w2 ⟨⟨(_ | _), rfl, hk⟩, hu2⟩ <;> (have HK := Lib.hid hk; clear hk))))
      all_goals (try go_quiet (fail))
      all_goals (try go_wp2_with (first | (go_at_call 37; refine (HX.out.name _ (show Up w _ from uq)).mono ?_; (rintro e w2 ⟨⟨(_ | _), rfl, hk⟩, hu2⟩ <;> (have HK := Lib.hid hk; clear hk)))))
      all_goals go_ret
      all_goals refine ⟨⟨_, rfl, fun e => ?_⟩, uq⟩
      all_goals first
        | (cases e; done)
        | (exfalso; simp_all; done)
  · have hq2 : ¬ (qs.length : Int) = 1 := by omega
    clear hp1
    go_enter Tryz.func24, Tryz.ntmps24
    go_wp2_with fail
    go_quiet (fail)
    go_wp2_with (first | (go_at_call 37; refine (HX.out.name _ (show Up w _ from uq)).mono ?_; (rintro e w2 ⟨⟨(_ | _), rfl, hk⟩, hu2⟩ <;> (have HK := Lib.hid hk; clear hk))))
    all_goals (try go_quiet (fail))
    all_goals (try go_wp2_with (first | (go_at_call 37; refine (HX.out.name _ (show Up w _ from uq)).mono ?_; (rintro e w2 ⟨⟨(_ | _), rfl, hk⟩, hu2⟩ <;> (have HK := Lib.hid hk; clear hk)))))
    all_goals go_ret
    all_goals refine ⟨⟨_, rfl, fun e => ?_⟩, uq⟩
    all_goals first
      | (cases e; done)
      | (exfalso; simp_all; done)

set_option maxRecDepth 100000 in
set_option maxHeartbeats 4000000 in
theorem may_20_Fn (N M : Nat → Prop) (B : Nat) (nm : ByteArray) (ia na ma pa : Option Addr) (il ic ncap mcap pcap : Nat) (qs : List Nat) (ps : List Ty) (ns : List ByteArray) (ms : List Bool) (m : Int) (w : World) (h : MayH N M B nm (.slice na ns.length ncap) (.slice ma ms.length mcap) (.slice pa qs.length pcap) qs ps ns ms m w) (n : Int) (hn1 : -9223372036854775808 ≤ n) (hn2 : n ≤ 9223372036854775807) (hN : ¬ (ns.length : Int) + ms.length = 0)(hz : ¬ n = 0) :
    Calls Tryz.prog 24 #[typV 20 n nm (.slice ia il ic) (.slice na ns.length ncap) (.slice ma ms.length mcap), .slice pa qs.length pcap] w (MayR (Ty.mk 20 n nm ps ns ms) w) := by
  have HX : Hid _ := Lib.hid h
  have hnl : (ns.length : Int) ≤ 1000000000 ∧ (ms.length : Int) ≤ 1000000000 ∧ (qs.length : Int) ≤ 1000000000 := by
    obtain ⟨_, _, _, _, h1⟩ := h.names.form
    obtain ⟨_, _, _, _, h2⟩ := h.marks.form
    obtain ⟨_, _, _, _, h3⟩ := h.row.form
    rw [List.length_map] at h1 h2 h3
    omega
  clear h
  have hp1 : Hid (qs.length = 1 → ∃ q p g off, pa = some ⟨g, off, none⟩ ∧ w.cell? ⟨g, off + 0, none⟩ = some (.pointer (some ⟨q, 0, none⟩)) ∧ g < w.heap.size ∧ w.cell? ⟨q, 0, none⟩ = some (.int .i64 p.kind) ∧ q < w.heap.size ∧ ps = [p]) := fun hq => by
    obtain ⟨p, hp⟩ := HX.out.one hq
    obtain ⟨q, hq0⟩ : ∃ q, qs[0]? = some q := ⟨_, List.getElem?_eq_getElem (by omega)⟩
    obtain ⟨g, off, cap', e, hc, hgl, _⟩ := HX.out.row.at_ (j := 0) (u := ptrV q) (by rw [List.getElem?_map, hq0]; rfl)
    injection e with e1 e2 e3
    have ht := HX.out.tys 0 q p hq0 (by rw [hp]; rfl)
    exact ⟨q, p, g, off, e1, hc, hgl, kind_cell ht, ht.lt, hp⟩
  by_cases hq1 : qs.length = 1
  · obtain ⟨q, p, g, off, rfl, y0, yg, y1, yq, hp⟩ := hp1.out hq1
    have hp1 : Hid (ps = [p]) := hp
    rw [Nat.add_zero] at y0
    have hq2 : (qs.length : Int) = 1 := by omega
    by_cases hk1 : p.kind = 19
    · have hkb : (p.kind == 19) = true := by simp [hk1]
      rw [hk1] at y1
      clear hp
      go_enter Tryz.func24, Tryz.ntmps24
      go_wp2_with fail
      go_quiet (fail)
      go_wp2_with (first | (go_at_call 37; refine (HX.out.name _ (show Up w _ from uq)).mono ?_; (rintro e w2 ⟨⟨(_ | _), rfl, hk⟩, hu2⟩ <;> (have HK := Lib.hid hk; clear hk))))
      all_goals (try go_quiet (fail))
      all_goals (try go_wp2_with (first | (go_at_call 37; refine (HX.out.name _ (show Up w _ from uq)).mono ?_; (rintro e w2 ⟨⟨(_ | _), rfl, hk⟩, hu2⟩ <;> (have HK := Lib.hid hk; clear hk)))))
      all_goals go_ret
      all_goals refine ⟨⟨_, rfl, fun e => ?_⟩, uq⟩
      all_goals first
        | (cases e; done)
        | ((try simp only [decide_eq_true_eq, Bool.and_eq_true, beq_iff_eq] at e); exact valid_case HX.out hN hp1.out hk1 (by omega) (by omega) (HK.out trivial))
    · have hkb : (p.kind == 19) = false := by simp [hk1]
      clear hp
      go_enter Tryz.func24, Tryz.ntmps24
      go_wp2_with fail
      go_quiet (fail)
      go_wp2_with (first | (go_at_call 37; refine (HX.out.name _ (show Up w _ from uq)).mono ?_; (rintro e w2 ⟨⟨(_ | _), rfl, hk⟩, hu2⟩ <;> (have HK := Lib.hid hk; clear hk))))
      all_goals (try go_quiet (fail))
      all_goals (try go_wp2_with (first | (go_at_call 37; refine (HX.out.name _ (show Up w _ from uq)).mono ?_; (rintro e w2 ⟨⟨(_ | _), rfl, hk⟩, hu2⟩ <;> (have HK := Lib.hid hk; clear hk)))))
      all_goals go_ret
      all_goals refine ⟨⟨_, rfl, fun e => ?_⟩, uq⟩
      all_goals first
        | (cases e; done)
        | (exfalso; simp_all; done)
  · have hq2 : ¬ (qs.length : Int) = 1 := by omega
    clear hp1
    go_enter Tryz.func24, Tryz.ntmps24
    go_wp2_with fail
    go_quiet (fail)
    go_wp2_with (first | (go_at_call 37; refine (HX.out.name _ (show Up w _ from uq)).mono ?_; (rintro e w2 ⟨⟨(_ | _), rfl, hk⟩, hu2⟩ <;> (have HK := Lib.hid hk; clear hk))))
    all_goals (try go_quiet (fail))
    all_goals (try go_wp2_with (first | (go_at_call 37; refine (HX.out.name _ (show Up w _ from uq)).mono ?_; (rintro e w2 ⟨⟨(_ | _), rfl, hk⟩, hu2⟩ <;> (have HK := Lib.hid hk; clear hk)))))
    all_goals go_ret
    all_goals refine ⟨⟨_, rfl, fun e => ?_⟩, uq⟩
    all_goals first
      | (cases e; done)
      | (exfalso; simp_all; done)

set_option maxRecDepth 100000 in
set_option maxHeartbeats 4000000 in
theorem may_20_F0t (N M : Nat → Prop) (B : Nat) (nm : ByteArray) (ia na ma pa : Option Addr) (il ic ncap mcap pcap : Nat) (qs : List Nat) (ps : List Ty) (ns : List ByteArray) (ms : List Bool) (m : Int) (w : World) (h : MayH N M B nm (.slice na ns.length ncap) (.slice ma ms.length mcap) (.slice pa qs.length pcap) qs ps ns ms m w) (hN : ¬ (ns.length : Int) + ms.length = 0)(ht : nm.toList = []) :
    Calls Tryz.prog 24 #[typV 20 0 nm (.slice ia il ic) (.slice na ns.length ncap) (.slice ma ms.length mcap), .slice pa qs.length pcap] w (MayR (Ty.mk 20 0 nm ps ns ms) w) := by
  have HX : Hid _ := Lib.hid h
  have hnl : (ns.length : Int) ≤ 1000000000 ∧ (ms.length : Int) ≤ 1000000000 ∧ (qs.length : Int) ≤ 1000000000 := by
    obtain ⟨_, _, _, _, h1⟩ := h.names.form
    obtain ⟨_, _, _, _, h2⟩ := h.marks.form
    obtain ⟨_, _, _, _, h3⟩ := h.row.form
    rw [List.length_map] at h1 h2 h3
    omega
  clear h
  have hp1 : Hid (qs.length = 1 → ∃ q p g off, pa = some ⟨g, off, none⟩ ∧ w.cell? ⟨g, off + 0, none⟩ = some (.pointer (some ⟨q, 0, none⟩)) ∧ g < w.heap.size ∧ w.cell? ⟨q, 0, none⟩ = some (.int .i64 p.kind) ∧ q < w.heap.size ∧ ps = [p]) := fun hq => by
    obtain ⟨p, hp⟩ := HX.out.one hq
    obtain ⟨q, hq0⟩ : ∃ q, qs[0]? = some q := ⟨_, List.getElem?_eq_getElem (by omega)⟩
    obtain ⟨g, off, cap', e, hc, hgl, _⟩ := HX.out.row.at_ (j := 0) (u := ptrV q) (by rw [List.getElem?_map, hq0]; rfl)
    injection e with e1 e2 e3
    have ht := HX.out.tys 0 q p hq0 (by rw [hp]; rfl)
    exact ⟨q, p, g, off, e1, hc, hgl, kind_cell ht, ht.lt, hp⟩
  by_cases hq1 : qs.length = 1
  · obtain ⟨q, p, g, off, rfl, y0, yg, y1, yq, hp⟩ := hp1.out hq1
    have hp1 : Hid (ps = [p]) := hp
    rw [Nat.add_zero] at y0
    have hq2 : (qs.length : Int) = 1 := by omega
    by_cases hk1 : p.kind = 19
    · have hkb : (p.kind == 19) = true := by simp [hk1]
      rw [hk1] at y1
      clear hp
      go_enter Tryz.func24, Tryz.ntmps24
      go_wp2_with fail
      go_quiet (fail)
      go_wp2_with (first | (go_at_call 37; refine (HX.out.name _ (show Up w _ from uq)).mono ?_; (rintro e w2 ⟨⟨(_ | _), rfl, hk⟩, hu2⟩ <;> (have HK := Lib.hid hk; clear hk))))
      all_goals (try go_quiet (fail))
      all_goals (try go_wp2_with (first | (go_at_call 37; refine (HX.out.name _ (show Up w _ from uq)).mono ?_; (rintro e w2 ⟨⟨(_ | _), rfl, hk⟩, hu2⟩ <;> (have HK := Lib.hid hk; clear hk)))))
      all_goals go_ret
      all_goals refine ⟨⟨_, rfl, fun e => ?_⟩, uq⟩
      all_goals first
        | (cases e; done)
        | ((try simp only [decide_eq_true_eq, Bool.and_eq_true, beq_iff_eq] at e); exact valid_case HX.out hN hp1.out hk1 (by omega) (by omega) (HK.out trivial))
    · have hkb : (p.kind == 19) = false := by simp [hk1]
      clear hp
      go_enter Tryz.func24, Tryz.ntmps24
      go_wp2_with fail
      go_quiet (fail)
      go_wp2_with (first | (go_at_call 37; refine (HX.out.name _ (show Up w _ from uq)).mono ?_; (rintro e w2 ⟨⟨(_ | _), rfl, hk⟩, hu2⟩ <;> (have HK := Lib.hid hk; clear hk))))
      all_goals (try go_quiet (fail))
      all_goals (try go_wp2_with (first | (go_at_call 37; refine (HX.out.name _ (show Up w _ from uq)).mono ?_; (rintro e w2 ⟨⟨(_ | _), rfl, hk⟩, hu2⟩ <;> (have HK := Lib.hid hk; clear hk)))))
      all_goals go_ret
      all_goals refine ⟨⟨_, rfl, fun e => ?_⟩, uq⟩
      all_goals first
        | (cases e; done)
        | (exfalso; simp_all; done)
  · have hq2 : ¬ (qs.length : Int) = 1 := by omega
    clear hp1
    go_enter Tryz.func24, Tryz.ntmps24
    go_wp2_with fail
    go_quiet (fail)
    go_wp2_with (first | (go_at_call 37; refine (HX.out.name _ (show Up w _ from uq)).mono ?_; (rintro e w2 ⟨⟨(_ | _), rfl, hk⟩, hu2⟩ <;> (have HK := Lib.hid hk; clear hk))))
    all_goals (try go_quiet (fail))
    all_goals (try go_wp2_with (first | (go_at_call 37; refine (HX.out.name _ (show Up w _ from uq)).mono ?_; (rintro e w2 ⟨⟨(_ | _), rfl, hk⟩, hu2⟩ <;> (have HK := Lib.hid hk; clear hk)))))
    all_goals go_ret
    all_goals refine ⟨⟨_, rfl, fun e => ?_⟩, uq⟩
    all_goals first
      | (cases e; done)
      | (exfalso; simp_all; done)

set_option maxRecDepth 100000 in
set_option maxHeartbeats 4000000 in
theorem may_20_F0f (N M : Nat → Prop) (B : Nat) (nm : ByteArray) (ia na ma pa : Option Addr) (il ic ncap mcap pcap : Nat) (qs : List Nat) (ps : List Ty) (ns : List ByteArray) (ms : List Bool) (m : Int) (w : World) (h : MayH N M B nm (.slice na ns.length ncap) (.slice ma ms.length mcap) (.slice pa qs.length pcap) qs ps ns ms m w) (hN : ¬ (ns.length : Int) + ms.length = 0)(ht : ¬ nm.toList = []) :
    Calls Tryz.prog 24 #[typV 20 0 nm (.slice ia il ic) (.slice na ns.length ncap) (.slice ma ms.length mcap), .slice pa qs.length pcap] w (MayR (Ty.mk 20 0 nm ps ns ms) w) := by
  have HX : Hid _ := Lib.hid h
  have hnl : (ns.length : Int) ≤ 1000000000 ∧ (ms.length : Int) ≤ 1000000000 ∧ (qs.length : Int) ≤ 1000000000 := by
    obtain ⟨_, _, _, _, h1⟩ := h.names.form
    obtain ⟨_, _, _, _, h2⟩ := h.marks.form
    obtain ⟨_, _, _, _, h3⟩ := h.row.form
    rw [List.length_map] at h1 h2 h3
    omega
  clear h
  have hp1 : Hid (qs.length = 1 → ∃ q p g off, pa = some ⟨g, off, none⟩ ∧ w.cell? ⟨g, off + 0, none⟩ = some (.pointer (some ⟨q, 0, none⟩)) ∧ g < w.heap.size ∧ w.cell? ⟨q, 0, none⟩ = some (.int .i64 p.kind) ∧ q < w.heap.size ∧ ps = [p]) := fun hq => by
    obtain ⟨p, hp⟩ := HX.out.one hq
    obtain ⟨q, hq0⟩ : ∃ q, qs[0]? = some q := ⟨_, List.getElem?_eq_getElem (by omega)⟩
    obtain ⟨g, off, cap', e, hc, hgl, _⟩ := HX.out.row.at_ (j := 0) (u := ptrV q) (by rw [List.getElem?_map, hq0]; rfl)
    injection e with e1 e2 e3
    have ht := HX.out.tys 0 q p hq0 (by rw [hp]; rfl)
    exact ⟨q, p, g, off, e1, hc, hgl, kind_cell ht, ht.lt, hp⟩
  by_cases hq1 : qs.length = 1
  · obtain ⟨q, p, g, off, rfl, y0, yg, y1, yq, hp⟩ := hp1.out hq1
    have hp1 : Hid (ps = [p]) := hp
    rw [Nat.add_zero] at y0
    have hq2 : (qs.length : Int) = 1 := by omega
    by_cases hk1 : p.kind = 19
    · have hkb : (p.kind == 19) = true := by simp [hk1]
      rw [hk1] at y1
      clear hp
      go_enter Tryz.func24, Tryz.ntmps24
      go_wp2_with fail
      go_quiet (fail)
      go_wp2_with (first | (go_at_call 37; refine (HX.out.name _ (show Up w _ from uq)).mono ?_; (rintro e w2 ⟨⟨(_ | _), rfl, hk⟩, hu2⟩ <;> (have HK := Lib.hid hk; clear hk))))
      all_goals (try go_quiet (fail))
      all_goals (try go_wp2_with (first | (go_at_call 37; refine (HX.out.name _ (show Up w _ from uq)).mono ?_; (rintro e w2 ⟨⟨(_ | _), rfl, hk⟩, hu2⟩ <;> (have HK := Lib.hid hk; clear hk)))))
      all_goals go_ret
      all_goals refine ⟨⟨_, rfl, fun e => ?_⟩, uq⟩
      all_goals first
        | (cases e; done)
        | ((try simp only [decide_eq_true_eq, Bool.and_eq_true, beq_iff_eq] at e); exact valid_case HX.out hN hp1.out hk1 (by omega) (by omega) (HK.out trivial))
    · have hkb : (p.kind == 19) = false := by simp [hk1]
      clear hp
      go_enter Tryz.func24, Tryz.ntmps24
      go_wp2_with fail
      go_quiet (fail)
      go_wp2_with (first | (go_at_call 37; refine (HX.out.name _ (show Up w _ from uq)).mono ?_; (rintro e w2 ⟨⟨(_ | _), rfl, hk⟩, hu2⟩ <;> (have HK := Lib.hid hk; clear hk))))
      all_goals (try go_quiet (fail))
      all_goals (try go_wp2_with (first | (go_at_call 37; refine (HX.out.name _ (show Up w _ from uq)).mono ?_; (rintro e w2 ⟨⟨(_ | _), rfl, hk⟩, hu2⟩ <;> (have HK := Lib.hid hk; clear hk)))))
      all_goals go_ret
      all_goals refine ⟨⟨_, rfl, fun e => ?_⟩, uq⟩
      all_goals first
        | (cases e; done)
        | (exfalso; simp_all; done)
  · have hq2 : ¬ (qs.length : Int) = 1 := by omega
    clear hp1
    go_enter Tryz.func24, Tryz.ntmps24
    go_wp2_with fail
    go_quiet (fail)
    go_wp2_with (first | (go_at_call 37; refine (HX.out.name _ (show Up w _ from uq)).mono ?_; (rintro e w2 ⟨⟨(_ | _), rfl, hk⟩, hu2⟩ <;> (have HK := Lib.hid hk; clear hk))))
    all_goals (try go_quiet (fail))
    all_goals (try go_wp2_with (first | (go_at_call 37; refine (HX.out.name _ (show Up w _ from uq)).mono ?_; (rintro e w2 ⟨⟨(_ | _), rfl, hk⟩, hu2⟩ <;> (have HK := Lib.hid hk; clear hk)))))
    all_goals go_ret
    all_goals refine ⟨⟨_, rfl, fun e => ?_⟩, uq⟩
    all_goals first
      | (cases e; done)
      | (exfalso; simp_all; done)

end Go.Proofs.YtbghpkoimbmijaaGreatDoor
