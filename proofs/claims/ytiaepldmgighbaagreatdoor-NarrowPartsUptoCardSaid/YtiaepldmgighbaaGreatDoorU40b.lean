import Derived.Test.YtiaepldmgighbaaGreatDoorU39
import Derived.Test.YtiaepldmgighbaaGreatDoorU28
import Derived.Test.YtiaepldmgighbaaGreatDoorU32
import Derived.Test.YtiaepldmgighbaaGreatDoorU38
namespace Go.Proofs.YtiaepldmgighbaaGreatDoor
open Go.RowKit
set_option linter.unusedSimpArgs false
set_option maxHeartbeats 3200000
set_option maxRecDepth 100000
set_option linter.unusedVariables false
set_option maxHeartbeats 40000000
theorem may_11 (N M : Nat → Prop) (B : Nat) (n : Int) (nm : ByteArray) (ia na ma pa : Option Addr) (il ic ncap mcap pcap : Nat) (qs : List Nat) (ps : List Ty) (ns : List ByteArray) (ms : List Bool) (m : Int) (w : World) (h : MayH N M B nm (.slice na ns.length ncap) (.slice ma ms.length mcap) (.slice pa qs.length pcap) qs ps ns ms m w) (hn1 : -9223372036854775808 ≤ n) (hn2 : n ≤ 9223372036854775807) :
  Calls Tryz.prog 56 #[typV 11 n nm (.slice ia il ic) (.slice na ns.length ncap) (.slice ma ms.length mcap), .slice pa qs.length pcap] w (MayR (Ty.mk 11 n nm ps ns ms) w):=by
 have HX : Hid _:=Lib.hid h
 have hnl : (ns.length : Int) ≤ 1000000000 ∧ (ms.length : Int) ≤ 1000000000 ∧ (qs.length : Int) ≤ 1000000000:=by
  obtain ⟨_,_,_,_,h1⟩:=h.names.form
  obtain ⟨_,_,_,_,h2⟩:=h.marks.form
  obtain ⟨_,_,_,_,h3⟩:=h.row.form
  rw [List.length_map] at h1 h2 h3
  omega
 clear h
 all_goals by_cases hN : (ns.length : Int) + ms.length = 0
 all_goals by_cases hz : n = 0
 all_goals (first | (subst hz;clear hn1 hn2;by_cases ht : nm.toList = []) | skip)
 all_goals (go_enter Tryz.func56,Tryz.ntmps56
            go_wp2_with fail
            go_quiet (fail)
            go_wp2_with fail
            all_goals (try go_quiet (fail))
            all_goals (try go_wp2_with fail)
            all_goals go_ret
            all_goals refine ⟨⟨_,rfl,fun e => ?_⟩,uq⟩
            all_goals first
             | (cases e;done)
             | ((try simp only [decide_eq_true_eq,Bool.and_eq_true,beq_iff_eq] at e);exact jks HX.out hN (by first | omega | (simp [*];done)) (by first | assumption | (simp [*];done)) (by omega) (by omega)))
theorem may_12 (N M : Nat → Prop) (B : Nat) (n : Int) (nm : ByteArray) (ia na ma pa : Option Addr) (il ic ncap mcap pcap : Nat) (qs : List Nat) (ps : List Ty) (ns : List ByteArray) (ms : List Bool) (m : Int) (w : World) (h : MayH N M B nm (.slice na ns.length ncap) (.slice ma ms.length mcap) (.slice pa qs.length pcap) qs ps ns ms m w) (hn1 : -9223372036854775808 ≤ n) (hn2 : n ≤ 9223372036854775807) :
  Calls Tryz.prog 56 #[typV 12 n nm (.slice ia il ic) (.slice na ns.length ncap) (.slice ma ms.length mcap), .slice pa qs.length pcap] w (MayR (Ty.mk 12 n nm ps ns ms) w):=by
 have HX : Hid _:=Lib.hid h
 have hnl : (ns.length : Int) ≤ 1000000000 ∧ (ms.length : Int) ≤ 1000000000 ∧ (qs.length : Int) ≤ 1000000000:=by
  obtain ⟨_,_,_,_,h1⟩:=h.names.form
  obtain ⟨_,_,_,_,h2⟩:=h.marks.form
  obtain ⟨_,_,_,_,h3⟩:=h.row.form
  rw [List.length_map] at h1 h2 h3
  omega
 clear h
 all_goals by_cases hN : (ns.length : Int) + ms.length = 0
 all_goals by_cases hz : n = 0
 all_goals (first | (subst hz;clear hn1 hn2;by_cases ht : nm.toList = []) | skip)
 all_goals (go_enter Tryz.func56,Tryz.ntmps56
            go_wp2_with fail
            go_quiet (fail)
            go_wp2_with (first | (go_at_call 98;refine (HX.out.good _ (show Up w _ from uq)).mono ?_;(rintro e w2 ⟨⟨(_ | _),rfl,hk⟩,hu2⟩ <;> (have HK:=Lib.hid hk;clear hk))))
            all_goals (try go_quiet (fail))
            all_goals (try go_wp2_with (first | (go_at_call 98;refine (HX.out.good _ (show Up w _ from uq)).mono ?_;(rintro e w2 ⟨⟨(_ | _),rfl,hk⟩,hu2⟩ <;> (have HK:=Lib.hid hk;clear hk)))))
            all_goals go_ret
            all_goals refine ⟨⟨_,rfl,fun e => ?_⟩,uq⟩
            all_goals first
             | (cases e;done)
             | ((try simp only [decide_eq_true_eq,Bool.and_eq_true,beq_iff_eq] at e);exact jkp HX.out hN (by first | omega | (simp [*];done)) (HK.out trivial)))
theorem may_13 (N M : Nat → Prop) (B : Nat) (n : Int) (nm : ByteArray) (ia na ma pa : Option Addr) (il ic ncap mcap pcap : Nat) (qs : List Nat) (ps : List Ty) (ns : List ByteArray) (ms : List Bool) (m : Int) (w : World) (h : MayH N M B nm (.slice na ns.length ncap) (.slice ma ms.length mcap) (.slice pa qs.length pcap) qs ps ns ms m w) (hn1 : -9223372036854775808 ≤ n) (hn2 : n ≤ 9223372036854775807) :
  Calls Tryz.prog 56 #[typV 13 n nm (.slice ia il ic) (.slice na ns.length ncap) (.slice ma ms.length mcap), .slice pa qs.length pcap] w (MayR (Ty.mk 13 n nm ps ns ms) w):=by
 have HX : Hid _:=Lib.hid h
 have hnl : (ns.length : Int) ≤ 1000000000 ∧ (ms.length : Int) ≤ 1000000000 ∧ (qs.length : Int) ≤ 1000000000:=by
  obtain ⟨_,_,_,_,h1⟩:=h.names.form
  obtain ⟨_,_,_,_,h2⟩:=h.marks.form
  obtain ⟨_,_,_,_,h3⟩:=h.row.form
  rw [List.length_map] at h1 h2 h3
  omega
 clear h
 all_goals by_cases hN : (ns.length : Int) + ms.length = 0
 all_goals by_cases hz : n = 0
 all_goals (first | (subst hz;clear hn1 hn2;by_cases ht : nm.toList = []) | skip)
 all_goals (go_enter Tryz.func56,Tryz.ntmps56
            go_wp2_with fail
            go_quiet (fail)
            go_wp2_with fail
            all_goals (try go_quiet (fail))
            all_goals (try go_wp2_with fail)
            all_goals go_ret
            all_goals refine ⟨⟨_,rfl,fun e => ?_⟩,uq⟩
            all_goals first
             | (cases e;done)
             | ((try simp only [decide_eq_true_eq,Bool.and_eq_true,beq_iff_eq] at e);exact jkt HX.out hN (by first | omega | (simp [*];done)) ht))
theorem may_14 (N M : Nat → Prop) (B : Nat) (n : Int) (nm : ByteArray) (ia na ma pa : Option Addr) (il ic ncap mcap pcap : Nat) (qs : List Nat) (ps : List Ty) (ns : List ByteArray) (ms : List Bool) (m : Int) (w : World) (h : MayH N M B nm (.slice na ns.length ncap) (.slice ma ms.length mcap) (.slice pa qs.length pcap) qs ps ns ms m w) (hn1 : -9223372036854775808 ≤ n) (hn2 : n ≤ 9223372036854775807) :
  Calls Tryz.prog 56 #[typV 14 n nm (.slice ia il ic) (.slice na ns.length ncap) (.slice ma ms.length mcap), .slice pa qs.length pcap] w (MayR (Ty.mk 14 n nm ps ns ms) w):=by
 have HX : Hid _:=Lib.hid h
 have hnl : (ns.length : Int) ≤ 1000000000 ∧ (ms.length : Int) ≤ 1000000000 ∧ (qs.length : Int) ≤ 1000000000:=by
  obtain ⟨_,_,_,_,h1⟩:=h.names.form
  obtain ⟨_,_,_,_,h2⟩:=h.marks.form
  obtain ⟨_,_,_,_,h3⟩:=h.row.form
  rw [List.length_map] at h1 h2 h3
  omega
 clear h
 all_goals by_cases hN : (ns.length : Int) + ms.length = 0
 all_goals by_cases hz : n = 0
 all_goals (first | (subst hz;clear hn1 hn2;by_cases ht : nm.toList = []) | skip)
 all_goals (go_enter Tryz.func56,Tryz.ntmps56
            go_wp2_with fail
            go_quiet (fail)
            go_wp2_with (first | (go_at_call 99;refine (HX.out.named _ (show Up w _ from uq)).mono ?_;(rintro e w2 ⟨⟨(_ | _),rfl,hk⟩,hu2⟩ <;> (have HK:=Lib.hid hk;clear hk))))
            all_goals (try go_quiet (fail))
            all_goals (try go_wp2_with (first | (go_at_call 99;refine (HX.out.named _ (show Up w _ from uq)).mono ?_;(rintro e w2 ⟨⟨(_ | _),rfl,hk⟩,hu2⟩ <;> (have HK:=Lib.hid hk;clear hk)))))
            all_goals go_ret
            all_goals refine ⟨⟨_,rfl,fun e => ?_⟩,uq⟩
            all_goals first
             | (cases e;done)
             | ((try simp only [decide_eq_true_eq,Bool.and_eq_true,beq_iff_eq] at e);exact jkr HX.out ht (by omega) (by omega) (HK.out trivial)))
end Go.Proofs.YtiaepldmgighbaaGreatDoor
