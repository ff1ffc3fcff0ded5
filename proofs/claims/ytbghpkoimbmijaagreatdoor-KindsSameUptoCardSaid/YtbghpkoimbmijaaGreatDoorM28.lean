import Derived.Test.YtbghpkoimbmijaaGreatDoorM25
/- YtbghpkoimbmijaaGreatDoorM28: lemmas of the proof, in order: Y21, Y22, Y23, Y00. -/
/- Walks: whether a type of kind 21 may be (printed by gen_may.py). -/
namespace Go.Proofs.YtbghpkoimbmijaaGreatDoor
open Go.RowKit
set_option linter.unusedSimpArgs false
set_option linter.unusedVariables false

set_option maxRecDepth 100000 in
set_option maxHeartbeats 4000000 in
theorem may_21_Tn (N M : Nat → Prop) (B : Nat) (nm : ByteArray) (ia na ma pa : Option Addr) (il ic ncap mcap pcap : Nat) (qs : List Nat) (ps : List Ty) (ns : List ByteArray) (ms : List Bool) (m : Int) (w : World) (h : MayH N M B nm (.slice na ns.length ncap) (.slice ma ms.length mcap) (.slice pa qs.length pcap) qs ps ns ms m w) (n : Int) (hn1 : -9223372036854775808 ≤ n) (hn2 : n ≤ 9223372036854775807) (hN : (ns.length : Int) + ms.length = 0)(hz : ¬ n = 0) :
    Calls Tryz.prog 24 #[typV 21 n nm (.slice ia il ic) (.slice na ns.length ncap) (.slice ma ms.length mcap), .slice pa qs.length pcap] w (MayR (Ty.mk 21 n nm ps ns ms) w) := by
  have HX : Hid _ := Lib.hid h
  have hnl : (ns.length : Int) ≤ 1000000000 ∧ (ms.length : Int) ≤ 1000000000 ∧ (qs.length : Int) ≤ 1000000000 := by
    obtain ⟨_, _, _, _, h1⟩ := h.names.form
    obtain ⟨_, _, _, _, h2⟩ := h.marks.form
    obtain ⟨_, _, _, _, h3⟩ := h.row.form
    rw [List.length_map] at h1 h2 h3
    omega
  clear h
  go_enter Tryz.func24, Tryz.ntmps24
  go_wp2_with fail
  go_quiet (fail)
  go_wp2_with (first | (go_at_call 37; refine (HX.out.name _ (show Up w _ from uq)).mono ?_; (rintro e w2 ⟨⟨(_ | _), rfl, hk⟩, hu2⟩ <;> (have HK := Lib.hid hk; clear hk))))
  all_goals (try go_quiet (fail))
  all_goals (try go_wp2_with (first | (go_at_call 37; refine (HX.out.name _ (show Up w _ from uq)).mono ?_; (rintro e w2 ⟨⟨(_ | _), rfl, hk⟩, hu2⟩ <;> (have HK := Lib.hid hk; clear hk)))))
  all_goals go_ret
  all_goals refine ⟨⟨_, rfl, fun e => ?_⟩, uq⟩
  all_goals first
    | (cases e; done)
    | ((try simp only [decide_eq_true_eq, Bool.and_eq_true, beq_iff_eq] at e); exact valid_named HX.out (by decide) hN (by first | omega | (simp [*]; done)) (by omega) (by omega) (HK.out trivial))

set_option maxRecDepth 100000 in
set_option maxHeartbeats 4000000 in
theorem may_21_T0t (N M : Nat → Prop) (B : Nat) (nm : ByteArray) (ia na ma pa : Option Addr) (il ic ncap mcap pcap : Nat) (qs : List Nat) (ps : List Ty) (ns : List ByteArray) (ms : List Bool) (m : Int) (w : World) (h : MayH N M B nm (.slice na ns.length ncap) (.slice ma ms.length mcap) (.slice pa qs.length pcap) qs ps ns ms m w) (hN : (ns.length : Int) + ms.length = 0)(ht : nm.toList = []) :
    Calls Tryz.prog 24 #[typV 21 0 nm (.slice ia il ic) (.slice na ns.length ncap) (.slice ma ms.length mcap), .slice pa qs.length pcap] w (MayR (Ty.mk 21 0 nm ps ns ms) w) := by
  have HX : Hid _ := Lib.hid h
  have hnl : (ns.length : Int) ≤ 1000000000 ∧ (ms.length : Int) ≤ 1000000000 ∧ (qs.length : Int) ≤ 1000000000 := by
    obtain ⟨_, _, _, _, h1⟩ := h.names.form
    obtain ⟨_, _, _, _, h2⟩ := h.marks.form
    obtain ⟨_, _, _, _, h3⟩ := h.row.form
    rw [List.length_map] at h1 h2 h3
    omega
  clear h
  go_enter Tryz.func24, Tryz.ntmps24
  go_wp2_with fail
  go_quiet (fail)
  go_wp2_with (first | (go_at_call 37; refine (HX.out.name _ (show Up w _ from uq)).mono ?_; (rintro e w2 ⟨⟨(_ | _), rfl, hk⟩, hu2⟩ <;> (have HK := Lib.hid hk; clear hk))))
  all_goals (try go_quiet (fail))
  all_goals (try go_wp2_with (first | (go_at_call 37; refine (HX.out.name _ (show Up w _ from uq)).mono ?_; (rintro e w2 ⟨⟨(_ | _), rfl, hk⟩, hu2⟩ <;> (have HK := Lib.hid hk; clear hk)))))
  all_goals go_ret
  all_goals refine ⟨⟨_, rfl, fun e => ?_⟩, uq⟩
  all_goals first
    | (cases e; done)
    | ((try simp only [decide_eq_true_eq, Bool.and_eq_true, beq_iff_eq] at e); exact valid_named HX.out (by decide) hN (by first | omega | (simp [*]; done)) (by omega) (by omega) (HK.out trivial))

set_option maxRecDepth 100000 in
set_option maxHeartbeats 4000000 in
theorem may_21_T0f (N M : Nat → Prop) (B : Nat) (nm : ByteArray) (ia na ma pa : Option Addr) (il ic ncap mcap pcap : Nat) (qs : List Nat) (ps : List Ty) (ns : List ByteArray) (ms : List Bool) (m : Int) (w : World) (h : MayH N M B nm (.slice na ns.length ncap) (.slice ma ms.length mcap) (.slice pa qs.length pcap) qs ps ns ms m w) (hN : (ns.length : Int) + ms.length = 0)(ht : ¬ nm.toList = []) :
    Calls Tryz.prog 24 #[typV 21 0 nm (.slice ia il ic) (.slice na ns.length ncap) (.slice ma ms.length mcap), .slice pa qs.length pcap] w (MayR (Ty.mk 21 0 nm ps ns ms) w) := by
  have HX : Hid _ := Lib.hid h
  have hnl : (ns.length : Int) ≤ 1000000000 ∧ (ms.length : Int) ≤ 1000000000 ∧ (qs.length : Int) ≤ 1000000000 := by
    obtain ⟨_, _, _, _, h1⟩ := h.names.form
    obtain ⟨_, _, _, _, h2⟩ := h.marks.form
    obtain ⟨_, _, _, _, h3⟩ := h.row.form
    rw [List.length_map] at h1 h2 h3
    omega
  clear h
  go_enter Tryz.func24, Tryz.ntmps24
  go_wp2_with fail
  go_quiet (fail)
  go_wp2_with (first | (go_at_call 37; refine (HX.out.name _ (show Up w _ from uq)).mono ?_; (rintro e w2 ⟨⟨(_ | _), rfl, hk⟩, hu2⟩ <;> (have HK := Lib.hid hk; clear hk))))
  all_goals (try go_quiet (fail))
  all_goals (try go_wp2_with (first | (go_at_call 37; refine (HX.out.name _ (show Up w _ from uq)).mono ?_; (rintro e w2 ⟨⟨(_ | _), rfl, hk⟩, hu2⟩ <;> (have HK := Lib.hid hk; clear hk)))))
  all_goals go_ret
  all_goals refine ⟨⟨_, rfl, fun e => ?_⟩, uq⟩
  all_goals first
    | (cases e; done)
    | ((try simp only [decide_eq_true_eq, Bool.and_eq_true, beq_iff_eq] at e); exact valid_named HX.out (by decide) hN (by first | omega | (simp [*]; done)) (by omega) (by omega) (HK.out trivial))

set_option maxRecDepth 100000 in
set_option maxHeartbeats 4000000 in
theorem may_21_Fn (N M : Nat → Prop) (B : Nat) (nm : ByteArray) (ia na ma pa : Option Addr) (il ic ncap mcap pcap : Nat) (qs : List Nat) (ps : List Ty) (ns : List ByteArray) (ms : List Bool) (m : Int) (w : World) (h : MayH N M B nm (.slice na ns.length ncap) (.slice ma ms.length mcap) (.slice pa qs.length pcap) qs ps ns ms m w) (n : Int) (hn1 : -9223372036854775808 ≤ n) (hn2 : n ≤ 9223372036854775807) (hN : ¬ (ns.length : Int) + ms.length = 0)(hz : ¬ n = 0) :
    Calls Tryz.prog 24 #[typV 21 n nm (.slice ia il ic) (.slice na ns.length ncap) (.slice ma ms.length mcap), .slice pa qs.length pcap] w (MayR (Ty.mk 21 n nm ps ns ms) w) := by
  have HX : Hid _ := Lib.hid h
  have hnl : (ns.length : Int) ≤ 1000000000 ∧ (ms.length : Int) ≤ 1000000000 ∧ (qs.length : Int) ≤ 1000000000 := by
    obtain ⟨_, _, _, _, h1⟩ := h.names.form
    obtain ⟨_, _, _, _, h2⟩ := h.marks.form
    obtain ⟨_, _, _, _, h3⟩ := h.row.form
    rw [List.length_map] at h1 h2 h3
    omega
  clear h
  go_enter Tryz.func24, Tryz.ntmps24
  go_wp2_with fail
  go_quiet (fail)
  go_wp2_with (first | (go_at_call 37; refine (HX.out.name _ (show Up w _ from uq)).mono ?_; (rintro e w2 ⟨⟨(_ | _), rfl, hk⟩, hu2⟩ <;> (have HK := Lib.hid hk; clear hk))))
  all_goals (try go_quiet (fail))
  all_goals (try go_wp2_with (first | (go_at_call 37; refine (HX.out.name _ (show Up w _ from uq)).mono ?_; (rintro e w2 ⟨⟨(_ | _), rfl, hk⟩, hu2⟩ <;> (have HK := Lib.hid hk; clear hk)))))
  all_goals go_ret
  all_goals refine ⟨⟨_, rfl, fun e => ?_⟩, uq⟩
  all_goals first
    | (cases e; done)
    | ((try simp only [decide_eq_true_eq, Bool.and_eq_true, beq_iff_eq] at e); exact valid_named HX.out (by decide) hN (by first | omega | (simp [*]; done)) (by omega) (by omega) (HK.out trivial))

set_option maxRecDepth 100000 in
set_option maxHeartbeats 4000000 in
theorem may_21_F0t (N M : Nat → Prop) (B : Nat) (nm : ByteArray) (ia na ma pa : Option Addr) (il ic ncap mcap pcap : Nat) (qs : List Nat) (ps : List Ty) (ns : List ByteArray) (ms : List Bool) (m : Int) (w : World) (h : MayH N M B nm (.slice na ns.length ncap) (.slice ma ms.length mcap) (.slice pa qs.length pcap) qs ps ns ms m w) (hN : ¬ (ns.length : Int) + ms.length = 0)(ht : nm.toList = []) :
    Calls Tryz.prog 24 #[typV 21 0 nm (.slice ia il ic) (.slice na ns.length ncap) (.slice ma ms.length mcap), .slice pa qs.length pcap] w (MayR (Ty.mk 21 0 nm ps ns ms) w) := by
  have HX : Hid _ := Lib.hid h
  have hnl : (ns.length : Int) ≤ 1000000000 ∧ (ms.length : Int) ≤ 1000000000 ∧ (qs.length : Int) ≤ 1000000000 := by
    obtain ⟨_, _, _, _, h1⟩ := h.names.form
    obtain ⟨_, _, _, _, h2⟩ := h.marks.form
    obtain ⟨_, _, _, _, h3⟩ := h.row.form
    rw [List.length_map] at h1 h2 h3
    omega
  clear h
  go_enter Tryz.func24, Tryz.ntmps24
  go_wp2_with fail
  go_quiet (fail)
  go_wp2_with (first | (go_at_call 37; refine (HX.out.name _ (show Up w _ from uq)).mono ?_; (rintro e w2 ⟨⟨(_ | _), rfl, hk⟩, hu2⟩ <;> (have HK := Lib.hid hk; clear hk))))
  all_goals (try go_quiet (fail))
  all_goals (try go_wp2_with (first | (go_at_call 37; refine (HX.out.name _ (show Up w _ from uq)).mono ?_; (rintro e w2 ⟨⟨(_ | _), rfl, hk⟩, hu2⟩ <;> (have HK := Lib.hid hk; clear hk)))))
  all_goals go_ret
  all_goals refine ⟨⟨_, rfl, fun e => ?_⟩, uq⟩
  all_goals first
    | (cases e; done)
    | ((try simp only [decide_eq_true_eq, Bool.and_eq_true, beq_iff_eq] at e); exact valid_named HX.out (by decide) hN (by first | omega | (simp [*]; done)) (by omega) (by omega) (HK.out trivial))

set_option maxRecDepth 100000 in
set_option maxHeartbeats 4000000 in
theorem may_21_F0f (N M : Nat → Prop) (B : Nat) (nm : ByteArray) (ia na ma pa : Option Addr) (il ic ncap mcap pcap : Nat) (qs : List Nat) (ps : List Ty) (ns : List ByteArray) (ms : List Bool) (m : Int) (w : World) (h : MayH N M B nm (.slice na ns.length ncap) (.slice ma ms.length mcap) (.slice pa qs.length pcap) qs ps ns ms m w) (hN : ¬ (ns.length : Int) + ms.length = 0)(ht : ¬ nm.toList = []) :
    Calls Tryz.prog 24 #[typV 21 0 nm (.slice ia il ic) (.slice na ns.length ncap) (.slice ma ms.length mcap), .slice pa qs.length pcap] w (MayR (Ty.mk 21 0 nm ps ns ms) w) := by
  have HX : Hid _ := Lib.hid h
  have hnl : (ns.length : Int) ≤ 1000000000 ∧ (ms.length : Int) ≤ 1000000000 ∧ (qs.length : Int) ≤ 1000000000 := by
    obtain ⟨_, _, _, _, h1⟩ := h.names.form
    obtain ⟨_, _, _, _, h2⟩ := h.marks.form
    obtain ⟨_, _, _, _, h3⟩ := h.row.form
    rw [List.length_map] at h1 h2 h3
    omega
  clear h
  go_enter Tryz.func24, Tryz.ntmps24
  go_wp2_with fail
  go_quiet (fail)
  go_wp2_with (first | (go_at_call 37; refine (HX.out.name _ (show Up w _ from uq)).mono ?_; (rintro e w2 ⟨⟨(_ | _), rfl, hk⟩, hu2⟩ <;> (have HK := Lib.hid hk; clear hk))))
  all_goals (try go_quiet (fail))
  all_goals (try go_wp2_with (first | (go_at_call 37; refine (HX.out.name _ (show Up w _ from uq)).mono ?_; (rintro e w2 ⟨⟨(_ | _), rfl, hk⟩, hu2⟩ <;> (have HK := Lib.hid hk; clear hk)))))
  all_goals go_ret
  all_goals refine ⟨⟨_, rfl, fun e => ?_⟩, uq⟩
  all_goals first
    | (cases e; done)
    | ((try simp only [decide_eq_true_eq, Bool.and_eq_true, beq_iff_eq] at e); exact valid_named HX.out (by decide) hN (by first | omega | (simp [*]; done)) (by omega) (by omega) (HK.out trivial))

end Go.Proofs.YtbghpkoimbmijaaGreatDoor

/- Walks: whether a type of kind 22 may be (printed by gen_may.py). -/
namespace Go.Proofs.YtbghpkoimbmijaaGreatDoor
open Go.RowKit
set_option linter.unusedSimpArgs false
set_option linter.unusedVariables false

set_option maxRecDepth 100000 in
set_option maxHeartbeats 4000000 in
theorem may_22_Tn (N M : Nat → Prop) (B : Nat) (nm : ByteArray) (ia na ma pa : Option Addr) (il ic ncap mcap pcap : Nat) (qs : List Nat) (ps : List Ty) (ns : List ByteArray) (ms : List Bool) (m : Int) (w : World) (h : MayH N M B nm (.slice na ns.length ncap) (.slice ma ms.length mcap) (.slice pa qs.length pcap) qs ps ns ms m w) (n : Int) (hn1 : -9223372036854775808 ≤ n) (hn2 : n ≤ 9223372036854775807) (hN : (ns.length : Int) + ms.length = 0)(hz : ¬ n = 0) :
    Calls Tryz.prog 24 #[typV 22 n nm (.slice ia il ic) (.slice na ns.length ncap) (.slice ma ms.length mcap), .slice pa qs.length pcap] w (MayR (Ty.mk 22 n nm ps ns ms) w) := by
  have HX : Hid _ := Lib.hid h
  have hnl : (ns.length : Int) ≤ 1000000000 ∧ (ms.length : Int) ≤ 1000000000 ∧ (qs.length : Int) ≤ 1000000000 := by
    obtain ⟨_, _, _, _, h1⟩ := h.names.form
    obtain ⟨_, _, _, _, h2⟩ := h.marks.form
    obtain ⟨_, _, _, _, h3⟩ := h.row.form
    rw [List.length_map] at h1 h2 h3
    omega
  clear h
  go_enter Tryz.func24, Tryz.ntmps24
  go_wp2_with fail
  go_quiet (fail)
  go_wp2_with (first | (go_at_call 37; refine (HX.out.name _ (show Up w _ from uq)).mono ?_; (rintro e w2 ⟨⟨(_ | _), rfl, hk⟩, hu2⟩ <;> (have HK := Lib.hid hk; clear hk))))
  all_goals (try go_quiet (fail))
  all_goals (try go_wp2_with (first | (go_at_call 37; refine (HX.out.name _ (show Up w _ from uq)).mono ?_; (rintro e w2 ⟨⟨(_ | _), rfl, hk⟩, hu2⟩ <;> (have HK := Lib.hid hk; clear hk)))))
  all_goals go_ret
  all_goals refine ⟨⟨_, rfl, fun e => ?_⟩, uq⟩
  all_goals first
    | (cases e; done)
    | ((try simp only [decide_eq_true_eq, Bool.and_eq_true, beq_iff_eq] at e); exact valid_named HX.out (by decide) hN (by first | omega | (simp [*]; done)) (by omega) (by omega) (HK.out trivial))

set_option maxRecDepth 100000 in
set_option maxHeartbeats 4000000 in
theorem may_22_T0t (N M : Nat → Prop) (B : Nat) (nm : ByteArray) (ia na ma pa : Option Addr) (il ic ncap mcap pcap : Nat) (qs : List Nat) (ps : List Ty) (ns : List ByteArray) (ms : List Bool) (m : Int) (w : World) (h : MayH N M B nm (.slice na ns.length ncap) (.slice ma ms.length mcap) (.slice pa qs.length pcap) qs ps ns ms m w) (hN : (ns.length : Int) + ms.length = 0)(ht : nm.toList = []) :
    Calls Tryz.prog 24 #[typV 22 0 nm (.slice ia il ic) (.slice na ns.length ncap) (.slice ma ms.length mcap), .slice pa qs.length pcap] w (MayR (Ty.mk 22 0 nm ps ns ms) w) := by
  have HX : Hid _ := Lib.hid h
  have hnl : (ns.length : Int) ≤ 1000000000 ∧ (ms.length : Int) ≤ 1000000000 ∧ (qs.length : Int) ≤ 1000000000 := by
    obtain ⟨_, _, _, _, h1⟩ := h.names.form
    obtain ⟨_, _, _, _, h2⟩ := h.marks.form
    obtain ⟨_, _, _, _, h3⟩ := h.row.form
    rw [List.length_map] at h1 h2 h3
    omega
  clear h
  go_enter Tryz.func24, Tryz.ntmps24
  go_wp2_with fail
  go_quiet (fail)
  go_wp2_with (first | (go_at_call 37; refine (HX.out.name _ (show Up w _ from uq)).mono ?_; (rintro e w2 ⟨⟨(_ | _), rfl, hk⟩, hu2⟩ <;> (have HK := Lib.hid hk; clear hk))))
  all_goals (try go_quiet (fail))
  all_goals (try go_wp2_with (first | (go_at_call 37; refine (HX.out.name _ (show Up w _ from uq)).mono ?_; (rintro e w2 ⟨⟨(_ | _), rfl, hk⟩, hu2⟩ <;> (have HK := Lib.hid hk; clear hk)))))
  all_goals go_ret
  all_goals refine ⟨⟨_, rfl, fun e => ?_⟩, uq⟩
  all_goals first
    | (cases e; done)
    | ((try simp only [decide_eq_true_eq, Bool.and_eq_true, beq_iff_eq] at e); exact valid_named HX.out (by decide) hN (by first | omega | (simp [*]; done)) (by omega) (by omega) (HK.out trivial))

set_option maxRecDepth 100000 in
set_option maxHeartbeats 4000000 in
theorem may_22_T0f (N M : Nat → Prop) (B : Nat) (nm : ByteArray) (ia na ma pa : Option Addr) (il ic ncap mcap pcap : Nat) (qs : List Nat) (ps : List Ty) (ns : List ByteArray) (ms : List Bool) (m : Int) (w : World) (h : MayH N M B nm (.slice na ns.length ncap) (.slice ma ms.length mcap) (.slice pa qs.length pcap) qs ps ns ms m w) (hN : (ns.length : Int) + ms.length = 0)(ht : ¬ nm.toList = []) :
    Calls Tryz.prog 24 #[typV 22 0 nm (.slice ia il ic) (.slice na ns.length ncap) (.slice ma ms.length mcap), .slice pa qs.length pcap] w (MayR (Ty.mk 22 0 nm ps ns ms) w) := by
  have HX : Hid _ := Lib.hid h
  have hnl : (ns.length : Int) ≤ 1000000000 ∧ (ms.length : Int) ≤ 1000000000 ∧ (qs.length : Int) ≤ 1000000000 := by
    obtain ⟨_, _, _, _, h1⟩ := h.names.form
    obtain ⟨_, _, _, _, h2⟩ := h.marks.form
    obtain ⟨_, _, _, _, h3⟩ := h.row.form
    rw [List.length_map] at h1 h2 h3
    omega
  clear h
  go_enter Tryz.func24, Tryz.ntmps24
  go_wp2_with fail
  go_quiet (fail)
  go_wp2_with (first | (go_at_call 37; refine (HX.out.name _ (show Up w _ from uq)).mono ?_; (rintro e w2 ⟨⟨(_ | _), rfl, hk⟩, hu2⟩ <;> (have HK := Lib.hid hk; clear hk))))
  all_goals (try go_quiet (fail))
  all_goals (try go_wp2_with (first | (go_at_call 37; refine (HX.out.name _ (show Up w _ from uq)).mono ?_; (rintro e w2 ⟨⟨(_ | _), rfl, hk⟩, hu2⟩ <;> (have HK := Lib.hid hk; clear hk)))))
  all_goals go_ret
  all_goals refine ⟨⟨_, rfl, fun e => ?_⟩, uq⟩
  all_goals first
    | (cases e; done)
    | ((try simp only [decide_eq_true_eq, Bool.and_eq_true, beq_iff_eq] at e); exact valid_named HX.out (by decide) hN (by first | omega | (simp [*]; done)) (by omega) (by omega) (HK.out trivial))

set_option maxRecDepth 100000 in
set_option maxHeartbeats 4000000 in
theorem may_22_Fn (N M : Nat → Prop) (B : Nat) (nm : ByteArray) (ia na ma pa : Option Addr) (il ic ncap mcap pcap : Nat) (qs : List Nat) (ps : List Ty) (ns : List ByteArray) (ms : List Bool) (m : Int) (w : World) (h : MayH N M B nm (.slice na ns.length ncap) (.slice ma ms.length mcap) (.slice pa qs.length pcap) qs ps ns ms m w) (n : Int) (hn1 : -9223372036854775808 ≤ n) (hn2 : n ≤ 9223372036854775807) (hN : ¬ (ns.length : Int) + ms.length = 0)(hz : ¬ n = 0) :
    Calls Tryz.prog 24 #[typV 22 n nm (.slice ia il ic) (.slice na ns.length ncap) (.slice ma ms.length mcap), .slice pa qs.length pcap] w (MayR (Ty.mk 22 n nm ps ns ms) w) := by
  have HX : Hid _ := Lib.hid h
  have hnl : (ns.length : Int) ≤ 1000000000 ∧ (ms.length : Int) ≤ 1000000000 ∧ (qs.length : Int) ≤ 1000000000 := by
    obtain ⟨_, _, _, _, h1⟩ := h.names.form
    obtain ⟨_, _, _, _, h2⟩ := h.marks.form
    obtain ⟨_, _, _, _, h3⟩ := h.row.form
    rw [List.length_map] at h1 h2 h3
    omega
  clear h
  go_enter Tryz.func24, Tryz.ntmps24
  go_wp2_with fail
  go_quiet (fail)
  go_wp2_with (first | (go_at_call 37; refine (HX.out.name _ (show Up w _ from uq)).mono ?_; (rintro e w2 ⟨⟨(_ | _), rfl, hk⟩, hu2⟩ <;> (have HK := Lib.hid hk; clear hk))))
  all_goals (try go_quiet (fail))
  all_goals (try go_wp2_with (first | (go_at_call 37; refine (HX.out.name _ (show Up w _ from uq)).mono ?_; (rintro e w2 ⟨⟨(_ | _), rfl, hk⟩, hu2⟩ <;> (have HK := Lib.hid hk; clear hk)))))
  all_goals go_ret
  all_goals refine ⟨⟨_, rfl, fun e => ?_⟩, uq⟩
  all_goals first
    | (cases e; done)
    | ((try simp only [decide_eq_true_eq, Bool.and_eq_true, beq_iff_eq] at e); exact valid_named HX.out (by decide) hN (by first | omega | (simp [*]; done)) (by omega) (by omega) (HK.out trivial))

set_option maxRecDepth 100000 in
set_option maxHeartbeats 4000000 in
theorem may_22_F0t (N M : Nat → Prop) (B : Nat) (nm : ByteArray) (ia na ma pa : Option Addr) (il ic ncap mcap pcap : Nat) (qs : List Nat) (ps : List Ty) (ns : List ByteArray) (ms : List Bool) (m : Int) (w : World) (h : MayH N M B nm (.slice na ns.length ncap) (.slice ma ms.length mcap) (.slice pa qs.length pcap) qs ps ns ms m w) (hN : ¬ (ns.length : Int) + ms.length = 0)(ht : nm.toList = []) :
    Calls Tryz.prog 24 #[typV 22 0 nm (.slice ia il ic) (.slice na ns.length ncap) (.slice ma ms.length mcap), .slice pa qs.length pcap] w (MayR (Ty.mk 22 0 nm ps ns ms) w) := by
  have HX : Hid _ := Lib.hid h
  have hnl : (ns.length : Int) ≤ 1000000000 ∧ (ms.length : Int) ≤ 1000000000 ∧ (qs.length : Int) ≤ 1000000000 := by
    obtain ⟨_, _, _, _, h1⟩ := h.names.form
    obtain ⟨_, _, _, _, h2⟩ := h.marks.form
    obtain ⟨_, _, _, _, h3⟩ := h.row.form
    rw [List.length_map] at h1 h2 h3
    omega
  clear h
  go_enter Tryz.func24, Tryz.ntmps24
  go_wp2_with fail
  go_quiet (fail)
  go_wp2_with (first | (go_at_call 37; refine (HX.out.name _ (show Up w _ from uq)).mono ?_; (rintro e w2 ⟨⟨(_ | _), rfl, hk⟩, hu2⟩ <;> (have HK := Lib.hid hk; clear hk))))
  all_goals (try go_quiet (fail))
  all_goals (try go_wp2_with (first | (go_at_call 37; refine (HX.out.name _ (show Up w _ from uq)).mono ?_; (rintro e w2 ⟨⟨(_ | _), rfl, hk⟩, hu2⟩ <;> (have HK := Lib.hid hk; clear hk)))))
  all_goals go_ret
  all_goals refine ⟨⟨_, rfl, fun e => ?_⟩, uq⟩
  all_goals first
    | (cases e; done)
    | ((try simp only [decide_eq_true_eq, Bool.and_eq_true, beq_iff_eq] at e); exact valid_named HX.out (by decide) hN (by first | omega | (simp [*]; done)) (by omega) (by omega) (HK.out trivial))

set_option maxRecDepth 100000 in
set_option maxHeartbeats 4000000 in
theorem may_22_F0f (N M : Nat → Prop) (B : Nat) (nm : ByteArray) (ia na ma pa : Option Addr) (il ic ncap mcap pcap : Nat) (qs : List Nat) (ps : List Ty) (ns : List ByteArray) (ms : List Bool) (m : Int) (w : World) (h : MayH N M B nm (.slice na ns.length ncap) (.slice ma ms.length mcap) (.slice pa qs.length pcap) qs ps ns ms m w) (hN : ¬ (ns.length : Int) + ms.length = 0)(ht : ¬ nm.toList = []) :
    Calls Tryz.prog 24 #[typV 22 0 nm (.slice ia il ic) (.slice na ns.length ncap) (.slice ma ms.length mcap), .slice pa qs.length pcap] w (MayR (Ty.mk 22 0 nm ps ns ms) w) := by
  have HX : Hid _ := Lib.hid h
  have hnl : (ns.length : Int) ≤ 1000000000 ∧ (ms.length : Int) ≤ 1000000000 ∧ (qs.length : Int) ≤ 1000000000 := by
    obtain ⟨_, _, _, _, h1⟩ := h.names.form
    obtain ⟨_, _, _, _, h2⟩ := h.marks.form
    obtain ⟨_, _, _, _, h3⟩ := h.row.form
    rw [List.length_map] at h1 h2 h3
    omega
  clear h
  go_enter Tryz.func24, Tryz.ntmps24
  go_wp2_with fail
  go_quiet (fail)
  go_wp2_with (first | (go_at_call 37; refine (HX.out.name _ (show Up w _ from uq)).mono ?_; (rintro e w2 ⟨⟨(_ | _), rfl, hk⟩, hu2⟩ <;> (have HK := Lib.hid hk; clear hk))))
  all_goals (try go_quiet (fail))
  all_goals (try go_wp2_with (first | (go_at_call 37; refine (HX.out.name _ (show Up w _ from uq)).mono ?_; (rintro e w2 ⟨⟨(_ | _), rfl, hk⟩, hu2⟩ <;> (have HK := Lib.hid hk; clear hk)))))
  all_goals go_ret
  all_goals refine ⟨⟨_, rfl, fun e => ?_⟩, uq⟩
  all_goals first
    | (cases e; done)
    | ((try simp only [decide_eq_true_eq, Bool.and_eq_true, beq_iff_eq] at e); exact valid_named HX.out (by decide) hN (by first | omega | (simp [*]; done)) (by omega) (by omega) (HK.out trivial))

end Go.Proofs.YtbghpkoimbmijaaGreatDoor

/- Walks: whether a type of kind 23 may be (printed by gen_may.py). -/
namespace Go.Proofs.YtbghpkoimbmijaaGreatDoor
open Go.RowKit
set_option linter.unusedSimpArgs false
set_option linter.unusedVariables false

set_option maxRecDepth 100000 in
set_option maxHeartbeats 4000000 in
theorem may_23_Tn (N M : Nat → Prop) (B : Nat) (nm : ByteArray) (ia na ma pa : Option Addr) (il ic ncap mcap pcap : Nat) (qs : List Nat) (ps : List Ty) (ns : List ByteArray) (ms : List Bool) (m : Int) (w : World) (h : MayH N M B nm (.slice na ns.length ncap) (.slice ma ms.length mcap) (.slice pa qs.length pcap) qs ps ns ms m w) (n : Int) (hn1 : -9223372036854775808 ≤ n) (hn2 : n ≤ 9223372036854775807) (hN : (ns.length : Int) + ms.length = 0)(hz : ¬ n = 0) :
    Calls Tryz.prog 24 #[typV 23 n nm (.slice ia il ic) (.slice na ns.length ncap) (.slice ma ms.length mcap), .slice pa qs.length pcap] w (MayR (Ty.mk 23 n nm ps ns ms) w) := by
  have HX : Hid _ := Lib.hid h
  have hnl : (ns.length : Int) ≤ 1000000000 ∧ (ms.length : Int) ≤ 1000000000 ∧ (qs.length : Int) ≤ 1000000000 := by
    obtain ⟨_, _, _, _, h1⟩ := h.names.form
    obtain ⟨_, _, _, _, h2⟩ := h.marks.form
    obtain ⟨_, _, _, _, h3⟩ := h.row.form
    rw [List.length_map] at h1 h2 h3
    omega
  clear h
  go_enter Tryz.func24, Tryz.ntmps24
  go_wp2_with fail
  go_quiet (fail)
  go_wp2_with (first | (go_at_call 37; refine (HX.out.name _ (show Up w _ from uq)).mono ?_; (rintro e w2 ⟨⟨(_ | _), rfl, hk⟩, hu2⟩ <;> (have HK := Lib.hid hk; clear hk))))
  all_goals (try go_quiet (fail))
  all_goals (try go_wp2_with (first | (go_at_call 37; refine (HX.out.name _ (show Up w _ from uq)).mono ?_; (rintro e w2 ⟨⟨(_ | _), rfl, hk⟩, hu2⟩ <;> (have HK := Lib.hid hk; clear hk)))))
  all_goals go_ret
  all_goals refine ⟨⟨_, rfl, fun e => ?_⟩, uq⟩
  all_goals first
    | (cases e; done)
    | ((try simp only [decide_eq_true_eq, Bool.and_eq_true, beq_iff_eq] at e); exact valid_named HX.out (by decide) hN (by first | omega | (simp [*]; done)) (by omega) (by omega) (HK.out trivial))

set_option maxRecDepth 100000 in
set_option maxHeartbeats 4000000 in
theorem may_23_T0t (N M : Nat → Prop) (B : Nat) (nm : ByteArray) (ia na ma pa : Option Addr) (il ic ncap mcap pcap : Nat) (qs : List Nat) (ps : List Ty) (ns : List ByteArray) (ms : List Bool) (m : Int) (w : World) (h : MayH N M B nm (.slice na ns.length ncap) (.slice ma ms.length mcap) (.slice pa qs.length pcap) qs ps ns ms m w) (hN : (ns.length : Int) + ms.length = 0)(ht : nm.toList = []) :
    Calls Tryz.prog 24 #[typV 23 0 nm (.slice ia il ic) (.slice na ns.length ncap) (.slice ma ms.length mcap), .slice pa qs.length pcap] w (MayR (Ty.mk 23 0 nm ps ns ms) w) := by
  have HX : Hid _ := Lib.hid h
  have hnl : (ns.length : Int) ≤ 1000000000 ∧ (ms.length : Int) ≤ 1000000000 ∧ (qs.length : Int) ≤ 1000000000 := by
    obtain ⟨_, _, _, _, h1⟩ := h.names.form
    obtain ⟨_, _, _, _, h2⟩ := h.marks.form
    obtain ⟨_, _, _, _, h3⟩ := h.row.form
    rw [List.length_map] at h1 h2 h3
    omega
  clear h
  go_enter Tryz.func24, Tryz.ntmps24
  go_wp2_with fail
  go_quiet (fail)
  go_wp2_with (first | (go_at_call 37; refine (HX.out.name _ (show Up w _ from uq)).mono ?_; (rintro e w2 ⟨⟨(_ | _), rfl, hk⟩, hu2⟩ <;> (have HK := Lib.hid hk; clear hk))))
  all_goals (try go_quiet (fail))
  all_goals (try go_wp2_with (first | (go_at_call 37; refine (HX.out.name _ (show Up w _ from uq)).mono ?_; (rintro e w2 ⟨⟨(_ | _), rfl, hk⟩, hu2⟩ <;> (have HK := Lib.hid hk; clear hk)))))
  all_goals go_ret
  all_goals refine ⟨⟨_, rfl, fun e => ?_⟩, uq⟩
  all_goals first
    | (cases e; done)
    | ((try simp only [decide_eq_true_eq, Bool.and_eq_true, beq_iff_eq] at e); exact valid_named HX.out (by decide) hN (by first | omega | (simp [*]; done)) (by omega) (by omega) (HK.out trivial))

set_option maxRecDepth 100000 in
set_option maxHeartbeats 4000000 in
theorem may_23_T0f (N M : Nat → Prop) (B : Nat) (nm : ByteArray) (ia na ma pa : Option Addr) (il ic ncap mcap pcap : Nat) (qs : List Nat) (ps : List Ty) (ns : List ByteArray) (ms : List Bool) (m : Int) (w : World) (h : MayH N M B nm (.slice na ns.length ncap) (.slice ma ms.length mcap) (.slice pa qs.length pcap) qs ps ns ms m w) (hN : (ns.length : Int) + ms.length = 0)(ht : ¬ nm.toList = []) :
    Calls Tryz.prog 24 #[typV 23 0 nm (.slice ia il ic) (.slice na ns.length ncap) (.slice ma ms.length mcap), .slice pa qs.length pcap] w (MayR (Ty.mk 23 0 nm ps ns ms) w) := by
  have HX : Hid _ := Lib.hid h
  have hnl : (ns.length : Int) ≤ 1000000000 ∧ (ms.length : Int) ≤ 1000000000 ∧ (qs.length : Int) ≤ 1000000000 := by
    obtain ⟨_, _, _, _, h1⟩ := h.names.form
    obtain ⟨_, _, _, _, h2⟩ := h.marks.form
    obtain ⟨_, _, _, _, h3⟩ := h.row.form
    rw [List.length_map] at h1 h2 h3
    omega
  clear h
  go_enter Tryz.func24, Tryz.ntmps24
  go_wp2_with fail
  go_quiet (fail)
  go_wp2_with (first | (go_at_call 37; refine (HX.out.name _ (show Up w _ from uq)).mono ?_; (rintro e w2 ⟨⟨(_ | _), rfl, hk⟩, hu2⟩ <;> (have HK := Lib.hid hk; clear hk))))
  all_goals (try go_quiet (fail))
  all_goals (try go_wp2_with (first | (go_at_call 37; refine (HX.out.name _ (show Up w _ from uq)).mono ?_; (rintro e w2 ⟨⟨(_ | _), rfl, hk⟩, hu2⟩ <;> (have HK := Lib.hid hk; clear hk)))))
  all_goals go_ret
  all_goals refine ⟨⟨_, rfl, fun e => ?_⟩, uq⟩
  all_goals first
    | (cases e; done)
    | ((try simp only [decide_eq_true_eq, Bool.and_eq_true, beq_iff_eq] at e); exact valid_named HX.out (by decide) hN (by first | omega | (simp [*]; done)) (by omega) (by omega) (HK.out trivial))

set_option maxRecDepth 100000 in
set_option maxHeartbeats 4000000 in
theorem may_23_Fn (N M : Nat → Prop) (B : Nat) (nm : ByteArray) (ia na ma pa : Option Addr) (il ic ncap mcap pcap : Nat) (qs : List Nat) (ps : List Ty) (ns : List ByteArray) (ms : List Bool) (m : Int) (w : World) (h : MayH N M B nm (.slice na ns.length ncap) (.slice ma ms.length mcap) (.slice pa qs.length pcap) qs ps ns ms m w) (n : Int) (hn1 : -9223372036854775808 ≤ n) (hn2 : n ≤ 9223372036854775807) (hN : ¬ (ns.length : Int) + ms.length = 0)(hz : ¬ n = 0) :
    Calls Tryz.prog 24 #[typV 23 n nm (.slice ia il ic) (.slice na ns.length ncap) (.slice ma ms.length mcap), .slice pa qs.length pcap] w (MayR (Ty.mk 23 n nm ps ns ms) w) := by
  have HX : Hid _ := Lib.hid h
  have hnl : (ns.length : Int) ≤ 1000000000 ∧ (ms.length : Int) ≤ 1000000000 ∧ (qs.length : Int) ≤ 1000000000 := by
    obtain ⟨_, _, _, _, h1⟩ := h.names.form
    obtain ⟨_, _, _, _, h2⟩ := h.marks.form
    obtain ⟨_, _, _, _, h3⟩ := h.row.form
    rw [List.length_map] at h1 h2 h3
    omega
  clear h
  go_enter Tryz.func24, Tryz.ntmps24
  go_wp2_with fail
  go_quiet (fail)
  go_wp2_with (first | (go_at_call 37; refine (HX.out.name _ (show Up w _ from uq)).mono ?_; (rintro e w2 ⟨⟨(_ | _), rfl, hk⟩, hu2⟩ <;> (have HK := Lib.hid hk; clear hk))))
  all_goals (try go_quiet (fail))
  all_goals (try go_wp2_with (first | (go_at_call 37; refine (HX.out.name _ (show Up w _ from uq)).mono ?_; (rintro e w2 ⟨⟨(_ | _), rfl, hk⟩, hu2⟩ <;> (have HK := Lib.hid hk; clear hk)))))
  all_goals go_ret
  all_goals refine ⟨⟨_, rfl, fun e => ?_⟩, uq⟩
  all_goals first
    | (cases e; done)
    | ((try simp only [decide_eq_true_eq, Bool.and_eq_true, beq_iff_eq] at e); exact valid_named HX.out (by decide) hN (by first | omega | (simp [*]; done)) (by omega) (by omega) (HK.out trivial))

set_option maxRecDepth 100000 in
set_option maxHeartbeats 4000000 in
theorem may_23_F0t (N M : Nat → Prop) (B : Nat) (nm : ByteArray) (ia na ma pa : Option Addr) (il ic ncap mcap pcap : Nat) (qs : List Nat) (ps : List Ty) (ns : List ByteArray) (ms : List Bool) (m : Int) (w : World) (h : MayH N M B nm (.slice na ns.length ncap) (.slice ma ms.length mcap) (.slice pa qs.length pcap) qs ps ns ms m w) (hN : ¬ (ns.length : Int) + ms.length = 0)(ht : nm.toList = []) :
    Calls Tryz.prog 24 #[typV 23 0 nm (.slice ia il ic) (.slice na ns.length ncap) (.slice ma ms.length mcap), .slice pa qs.length pcap] w (MayR (Ty.mk 23 0 nm ps ns ms) w) := by
  have HX : Hid _ := Lib.hid h
  have hnl : (ns.length : Int) ≤ 1000000000 ∧ (ms.length : Int) ≤ 1000000000 ∧ (qs.length : Int) ≤ 1000000000 := by
    obtain ⟨_, _, _, _, h1⟩ := h.names.form
    obtain ⟨_, _, _, _, h2⟩ := h.marks.form
    obtain ⟨_, _, _, _, h3⟩ := h.row.form
    rw [List.length_map] at h1 h2 h3
    omega
  clear h
  go_enter Tryz.func24, Tryz.ntmps24
  go_wp2_with fail
  go_quiet (fail)
  go_wp2_with (first | (go_at_call 37; refine (HX.out.name _ (show Up w _ from uq)).mono ?_; (rintro e w2 ⟨⟨(_ | _), rfl, hk⟩, hu2⟩ <;> (have HK := Lib.hid hk; clear hk))))
  all_goals (try go_quiet (fail))
  all_goals (try go_wp2_with (first | (go_at_call 37; refine (HX.out.name _ (show Up w _ from uq)).mono ?_; (rintro e w2 ⟨⟨(_ | _), rfl, hk⟩, hu2⟩ <;> (have HK := Lib.hid hk; clear hk)))))
  all_goals go_ret
  all_goals refine ⟨⟨_, rfl, fun e => ?_⟩, uq⟩
  all_goals first
    | (cases e; done)
    | ((try simp only [decide_eq_true_eq, Bool.and_eq_true, beq_iff_eq] at e); exact valid_named HX.out (by decide) hN (by first | omega | (simp [*]; done)) (by omega) (by omega) (HK.out trivial))

set_option maxRecDepth 100000 in
set_option maxHeartbeats 4000000 in
theorem may_23_F0f (N M : Nat → Prop) (B : Nat) (nm : ByteArray) (ia na ma pa : Option Addr) (il ic ncap mcap pcap : Nat) (qs : List Nat) (ps : List Ty) (ns : List ByteArray) (ms : List Bool) (m : Int) (w : World) (h : MayH N M B nm (.slice na ns.length ncap) (.slice ma ms.length mcap) (.slice pa qs.length pcap) qs ps ns ms m w) (hN : ¬ (ns.length : Int) + ms.length = 0)(ht : ¬ nm.toList = []) :
    Calls Tryz.prog 24 #[typV 23 0 nm (.slice ia il ic) (.slice na ns.length ncap) (.slice ma ms.length mcap), .slice pa qs.length pcap] w (MayR (Ty.mk 23 0 nm ps ns ms) w) := by
  have HX : Hid _ := Lib.hid h
  have hnl : (ns.length : Int) ≤ 1000000000 ∧ (ms.length : Int) ≤ 1000000000 ∧ (qs.length : Int) ≤ 1000000000 := by
    obtain ⟨_, _, _, _, h1⟩ := h.names.form
    obtain ⟨_, _, _, _, h2⟩ := h.marks.form
    obtain ⟨_, _, _, _, h3⟩ := h.row.form
    rw [List.length_map] at h1 h2 h3
    omega
  clear h
  go_enter Tryz.func24, Tryz.ntmps24
  go_wp2_with fail
  go_quiet (fail)
  go_wp2_with (first | (go_at_call 37; refine (HX.out.name _ (show Up w _ from uq)).mono ?_; (rintro e w2 ⟨⟨(_ | _), rfl, hk⟩, hu2⟩ <;> (have HK := Lib.hid hk; clear hk))))
  all_goals (try go_quiet (fail))
  all_goals (try go_wp2_with (first | (go_at_call 37; refine (HX.out.name _ (show Up w _ from uq)).mono ?_; (rintro e w2 ⟨⟨(_ | _), rfl, hk⟩, hu2⟩ <;> (have HK := Lib.hid hk; clear hk)))))
  all_goals go_ret
  all_goals refine ⟨⟨_, rfl, fun e => ?_⟩, uq⟩
  all_goals first
    | (cases e; done)
    | ((try simp only [decide_eq_true_eq, Bool.and_eq_true, beq_iff_eq] at e); exact valid_named HX.out (by decide) hN (by first | omega | (simp [*]; done)) (by omega) (by omega) (HK.out trivial))

end Go.Proofs.YtbghpkoimbmijaaGreatDoor

/- Walks: whether a type of kind 0 may be (printed by gen_may.py). -/
namespace Go.Proofs.YtbghpkoimbmijaaGreatDoor
open Go.RowKit
set_option linter.unusedSimpArgs false
set_option linter.unusedVariables false

set_option maxRecDepth 100000 in
set_option maxHeartbeats 4000000 in
theorem may_0_Tn (N M : Nat → Prop) (B : Nat) (nm : ByteArray) (ia na ma pa : Option Addr) (il ic ncap mcap pcap : Nat) (qs : List Nat) (ps : List Ty) (ns : List ByteArray) (ms : List Bool) (m : Int) (w : World) (h : MayH N M B nm (.slice na ns.length ncap) (.slice ma ms.length mcap) (.slice pa qs.length pcap) qs ps ns ms m w) (k : Int) (hk : k ≠ 11 ∧ k ≠ 12 ∧ k ≠ 13 ∧ k ≠ 14 ∧ k ≠ 15 ∧ k ≠ 17 ∧ k ≠ 18 ∧ k ≠ 19 ∧ k ≠ 20 ∧ k ≠ 21 ∧ k ≠ 22 ∧ k ≠ 23) (n : Int) (hn1 : -9223372036854775808 ≤ n) (hn2 : n ≤ 9223372036854775807) (hN : (ns.length : Int) + ms.length = 0)(hz : ¬ n = 0) :
    Calls Tryz.prog 24 #[typV k n nm (.slice ia il ic) (.slice na ns.length ncap) (.slice ma ms.length mcap), .slice pa qs.length pcap] w (MayR (Ty.mk k n nm ps ns ms) w) := by
  have HX : Hid _ := Lib.hid h
  have hnl : (ns.length : Int) ≤ 1000000000 ∧ (ms.length : Int) ≤ 1000000000 ∧ (qs.length : Int) ≤ 1000000000 := by
    obtain ⟨_, _, _, _, h1⟩ := h.names.form
    obtain ⟨_, _, _, _, h2⟩ := h.marks.form
    obtain ⟨_, _, _, _, h3⟩ := h.row.form
    rw [List.length_map] at h1 h2 h3
    omega
  clear h
  go_enter Tryz.func24, Tryz.ntmps24
  go_wp2_with fail
  go_quiet (fail)
  go_wp2_with fail
  all_goals (try go_quiet (fail))
  all_goals (try go_wp2_with fail)
  all_goals go_ret
  all_goals refine ⟨⟨_, rfl, fun e => ?_⟩, uq⟩
  all_goals first
    | (cases e; done)
    | ((try simp only [decide_eq_true_eq, Bool.and_eq_true, beq_iff_eq] at e); exact valid_basic HX.out (by omega) (by omega) hN (by first | omega | (simp [*]; done)) ht)

set_option maxRecDepth 100000 in
set_option maxHeartbeats 4000000 in
theorem may_0_T0t (N M : Nat → Prop) (B : Nat) (nm : ByteArray) (ia na ma pa : Option Addr) (il ic ncap mcap pcap : Nat) (qs : List Nat) (ps : List Ty) (ns : List ByteArray) (ms : List Bool) (m : Int) (w : World) (h : MayH N M B nm (.slice na ns.length ncap) (.slice ma ms.length mcap) (.slice pa qs.length pcap) qs ps ns ms m w) (k : Int) (hk : k ≠ 11 ∧ k ≠ 12 ∧ k ≠ 13 ∧ k ≠ 14 ∧ k ≠ 15 ∧ k ≠ 17 ∧ k ≠ 18 ∧ k ≠ 19 ∧ k ≠ 20 ∧ k ≠ 21 ∧ k ≠ 22 ∧ k ≠ 23) (hN : (ns.length : Int) + ms.length = 0)(ht : nm.toList = []) :
    Calls Tryz.prog 24 #[typV k 0 nm (.slice ia il ic) (.slice na ns.length ncap) (.slice ma ms.length mcap), .slice pa qs.length pcap] w (MayR (Ty.mk k 0 nm ps ns ms) w) := by
  have HX : Hid _ := Lib.hid h
  have hnl : (ns.length : Int) ≤ 1000000000 ∧ (ms.length : Int) ≤ 1000000000 ∧ (qs.length : Int) ≤ 1000000000 := by
    obtain ⟨_, _, _, _, h1⟩ := h.names.form
    obtain ⟨_, _, _, _, h2⟩ := h.marks.form
    obtain ⟨_, _, _, _, h3⟩ := h.row.form
    rw [List.length_map] at h1 h2 h3
    omega
  clear h
  go_enter Tryz.func24, Tryz.ntmps24
  go_wp2_with fail
  go_quiet (fail)
  go_wp2_with fail
  all_goals (try go_quiet (fail))
  all_goals (try go_wp2_with fail)
  all_goals go_ret
  all_goals refine ⟨⟨_, rfl, fun e => ?_⟩, uq⟩
  all_goals first
    | (cases e; done)
    | ((try simp only [decide_eq_true_eq, Bool.and_eq_true, beq_iff_eq] at e); exact valid_basic HX.out (by omega) (by omega) hN (by first | omega | (simp [*]; done)) ht)

set_option maxRecDepth 100000 in
set_option maxHeartbeats 4000000 in
theorem may_0_T0f (N M : Nat → Prop) (B : Nat) (nm : ByteArray) (ia na ma pa : Option Addr) (il ic ncap mcap pcap : Nat) (qs : List Nat) (ps : List Ty) (ns : List ByteArray) (ms : List Bool) (m : Int) (w : World) (h : MayH N M B nm (.slice na ns.length ncap) (.slice ma ms.length mcap) (.slice pa qs.length pcap) qs ps ns ms m w) (k : Int) (hk : k ≠ 11 ∧ k ≠ 12 ∧ k ≠ 13 ∧ k ≠ 14 ∧ k ≠ 15 ∧ k ≠ 17 ∧ k ≠ 18 ∧ k ≠ 19 ∧ k ≠ 20 ∧ k ≠ 21 ∧ k ≠ 22 ∧ k ≠ 23) (hN : (ns.length : Int) + ms.length = 0)(ht : ¬ nm.toList = []) :
    Calls Tryz.prog 24 #[typV k 0 nm (.slice ia il ic) (.slice na ns.length ncap) (.slice ma ms.length mcap), .slice pa qs.length pcap] w (MayR (Ty.mk k 0 nm ps ns ms) w) := by
  have HX : Hid _ := Lib.hid h
  have hnl : (ns.length : Int) ≤ 1000000000 ∧ (ms.length : Int) ≤ 1000000000 ∧ (qs.length : Int) ≤ 1000000000 := by
    obtain ⟨_, _, _, _, h1⟩ := h.names.form
    obtain ⟨_, _, _, _, h2⟩ := h.marks.form
    obtain ⟨_, _, _, _, h3⟩ := h.row.form
    rw [List.length_map] at h1 h2 h3
    omega
  clear h
  go_enter Tryz.func24, Tryz.ntmps24
  go_wp2_with fail
  go_quiet (fail)
  go_wp2_with fail
  all_goals (try go_quiet (fail))
  all_goals (try go_wp2_with fail)
  all_goals go_ret
  all_goals refine ⟨⟨_, rfl, fun e => ?_⟩, uq⟩
  all_goals first
    | (cases e; done)
    | ((try simp only [decide_eq_true_eq, Bool.and_eq_true, beq_iff_eq] at e); exact valid_basic HX.out (by omega) (by omega) hN (by first | omega | (simp [*]; done)) ht)

set_option maxRecDepth 100000 in
set_option maxHeartbeats 4000000 in
theorem may_0_Fn (N M : Nat → Prop) (B : Nat) (nm : ByteArray) (ia na ma pa : Option Addr) (il ic ncap mcap pcap : Nat) (qs : List Nat) (ps : List Ty) (ns : List ByteArray) (ms : List Bool) (m : Int) (w : World) (h : MayH N M B nm (.slice na ns.length ncap) (.slice ma ms.length mcap) (.slice pa qs.length pcap) qs ps ns ms m w) (k : Int) (hk : k ≠ 11 ∧ k ≠ 12 ∧ k ≠ 13 ∧ k ≠ 14 ∧ k ≠ 15 ∧ k ≠ 17 ∧ k ≠ 18 ∧ k ≠ 19 ∧ k ≠ 20 ∧ k ≠ 21 ∧ k ≠ 22 ∧ k ≠ 23) (n : Int) (hn1 : -9223372036854775808 ≤ n) (hn2 : n ≤ 9223372036854775807) (hN : ¬ (ns.length : Int) + ms.length = 0)(hz : ¬ n = 0) :
    Calls Tryz.prog 24 #[typV k n nm (.slice ia il ic) (.slice na ns.length ncap) (.slice ma ms.length mcap), .slice pa qs.length pcap] w (MayR (Ty.mk k n nm ps ns ms) w) := by
  have HX : Hid _ := Lib.hid h
  have hnl : (ns.length : Int) ≤ 1000000000 ∧ (ms.length : Int) ≤ 1000000000 ∧ (qs.length : Int) ≤ 1000000000 := by
    obtain ⟨_, _, _, _, h1⟩ := h.names.form
    obtain ⟨_, _, _, _, h2⟩ := h.marks.form
    obtain ⟨_, _, _, _, h3⟩ := h.row.form
    rw [List.length_map] at h1 h2 h3
    omega
  clear h
  go_enter Tryz.func24, Tryz.ntmps24
  go_wp2_with fail
  go_quiet (fail)
  go_wp2_with fail
  all_goals (try go_quiet (fail))
  all_goals (try go_wp2_with fail)
  all_goals go_ret
  all_goals refine ⟨⟨_, rfl, fun e => ?_⟩, uq⟩
  all_goals first
    | (cases e; done)
    | ((try simp only [decide_eq_true_eq, Bool.and_eq_true, beq_iff_eq] at e); exact valid_basic HX.out (by omega) (by omega) hN (by first | omega | (simp [*]; done)) ht)

set_option maxRecDepth 100000 in
set_option maxHeartbeats 4000000 in
theorem may_0_F0t (N M : Nat → Prop) (B : Nat) (nm : ByteArray) (ia na ma pa : Option Addr) (il ic ncap mcap pcap : Nat) (qs : List Nat) (ps : List Ty) (ns : List ByteArray) (ms : List Bool) (m : Int) (w : World) (h : MayH N M B nm (.slice na ns.length ncap) (.slice ma ms.length mcap) (.slice pa qs.length pcap) qs ps ns ms m w) (k : Int) (hk : k ≠ 11 ∧ k ≠ 12 ∧ k ≠ 13 ∧ k ≠ 14 ∧ k ≠ 15 ∧ k ≠ 17 ∧ k ≠ 18 ∧ k ≠ 19 ∧ k ≠ 20 ∧ k ≠ 21 ∧ k ≠ 22 ∧ k ≠ 23) (hN : ¬ (ns.length : Int) + ms.length = 0)(ht : nm.toList = []) :
    Calls Tryz.prog 24 #[typV k 0 nm (.slice ia il ic) (.slice na ns.length ncap) (.slice ma ms.length mcap), .slice pa qs.length pcap] w (MayR (Ty.mk k 0 nm ps ns ms) w) := by
  have HX : Hid _ := Lib.hid h
  have hnl : (ns.length : Int) ≤ 1000000000 ∧ (ms.length : Int) ≤ 1000000000 ∧ (qs.length : Int) ≤ 1000000000 := by
    obtain ⟨_, _, _, _, h1⟩ := h.names.form
    obtain ⟨_, _, _, _, h2⟩ := h.marks.form
    obtain ⟨_, _, _, _, h3⟩ := h.row.form
    rw [List.length_map] at h1 h2 h3
    omega
  clear h
  go_enter Tryz.func24, Tryz.ntmps24
  go_wp2_with fail
  go_quiet (fail)
  go_wp2_with fail
  all_goals (try go_quiet (fail))
  all_goals (try go_wp2_with fail)
  all_goals go_ret
  all_goals refine ⟨⟨_, rfl, fun e => ?_⟩, uq⟩
  all_goals first
    | (cases e; done)
    | ((try simp only [decide_eq_true_eq, Bool.and_eq_true, beq_iff_eq] at e); exact valid_basic HX.out (by omega) (by omega) hN (by first | omega | (simp [*]; done)) ht)

set_option maxRecDepth 100000 in
set_option maxHeartbeats 4000000 in
theorem may_0_F0f (N M : Nat → Prop) (B : Nat) (nm : ByteArray) (ia na ma pa : Option Addr) (il ic ncap mcap pcap : Nat) (qs : List Nat) (ps : List Ty) (ns : List ByteArray) (ms : List Bool) (m : Int) (w : World) (h : MayH N M B nm (.slice na ns.length ncap) (.slice ma ms.length mcap) (.slice pa qs.length pcap) qs ps ns ms m w) (k : Int) (hk : k ≠ 11 ∧ k ≠ 12 ∧ k ≠ 13 ∧ k ≠ 14 ∧ k ≠ 15 ∧ k ≠ 17 ∧ k ≠ 18 ∧ k ≠ 19 ∧ k ≠ 20 ∧ k ≠ 21 ∧ k ≠ 22 ∧ k ≠ 23) (hN : ¬ (ns.length : Int) + ms.length = 0)(ht : ¬ nm.toList = []) :
    Calls Tryz.prog 24 #[typV k 0 nm (.slice ia il ic) (.slice na ns.length ncap) (.slice ma ms.length mcap), .slice pa qs.length pcap] w (MayR (Ty.mk k 0 nm ps ns ms) w) := by
  have HX : Hid _ := Lib.hid h
  have hnl : (ns.length : Int) ≤ 1000000000 ∧ (ms.length : Int) ≤ 1000000000 ∧ (qs.length : Int) ≤ 1000000000 := by
    obtain ⟨_, _, _, _, h1⟩ := h.names.form
    obtain ⟨_, _, _, _, h2⟩ := h.marks.form
    obtain ⟨_, _, _, _, h3⟩ := h.row.form
    rw [List.length_map] at h1 h2 h3
    omega
  clear h
  go_enter Tryz.func24, Tryz.ntmps24
  go_wp2_with fail
  go_quiet (fail)
  go_wp2_with fail
  all_goals (try go_quiet (fail))
  all_goals (try go_wp2_with fail)
  all_goals go_ret
  all_goals refine ⟨⟨_, rfl, fun e => ?_⟩, uq⟩
  all_goals first
    | (cases e; done)
    | ((try simp only [decide_eq_true_eq, Bool.and_eq_true, beq_iff_eq] at e); exact valid_basic HX.out (by omega) (by omega) hN (by first | omega | (simp [*]; done)) ht)

end Go.Proofs.YtbghpkoimbmijaaGreatDoor
