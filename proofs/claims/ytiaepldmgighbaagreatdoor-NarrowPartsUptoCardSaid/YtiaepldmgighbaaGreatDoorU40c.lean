import Derived.Test.YtiaepldmgighbaaGreatDoorU39
import Derived.Test.YtiaepldmgighbaaGreatDoorU28
import Derived.Test.YtiaepldmgighbaaGreatDoorU32
import Derived.Test.YtiaepldmgighbaaGreatDoorU38
namespace Go.Proofs.YtiaepldmgighbaaGreatDoor
open Go.RowKit
set_option linter.unusedSimpArgs false
set_option maxHeartbeats 40000000
set_option maxRecDepth 100000
theorem may_15 (N M : Nat → Prop) (B : Nat) (n : Int) (nm : ByteArray) (ia na ma pa : Option Addr) (il ic ncap mcap pcap : Nat) (qs : List Nat) (ps : List Ty) (ns : List ByteArray) (ms : List Bool) (m : Int) (w : World) (h : MayH N M B nm (.slice na ns.length ncap) (.slice ma ms.length mcap) (.slice pa qs.length pcap) qs ps ns ms m w) (hn1 : -9223372036854775808 ≤ n) (hn2 : n ≤ 9223372036854775807) :
  Calls Tryz.prog 56 #[typV 15 n nm (.slice ia il ic) (.slice na ns.length ncap) (.slice ma ms.length mcap), .slice pa qs.length pcap] w (MayR (Ty.mk 15 n nm ps ns ms) w):=by
 have HX : Hid _:=Lib.hid h
 have hnl : (ns.length : Int) ≤ 1000000000 ∧ (ms.length : Int) ≤ 1000000000 ∧ (qs.length : Int) ≤ 1000000000:=by
  obtain ⟨_,_,_,_,h1⟩:=h.names.form
  obtain ⟨_,_,_,_,h2⟩:=h.marks.form
  obtain ⟨_,_,_,_,h3⟩:=h.row.form
  rw [List.length_map] at h1 h2 h3
  omega
 clear h
 all_goals by_cases hN : (ns.length : Int) + ms.length = 0
 all_goals by_cases hz : n = 0
 all_goals (first | (subst hz;clear hn1 hn2;by_cases ht : nm.toList = []) | skip)
 all_goals (go_enter Tryz.func56,Tryz.ntmps56
            go_wp2_with fail
            go_quiet (fail)
            go_wp2_with (first | (go_at_call 100;refine (HX.out.optional _ (show Up w _ from uq)).mono ?_;(rintro e w2 ⟨⟨(_ | _),rfl,hk⟩,hu2⟩ <;> (have HK:=Lib.hid hk;clear hk))))
            all_goals (try go_quiet (fail))
            all_goals (try go_wp2_with (first | (go_at_call 100;refine (HX.out.optional _ (show Up w _ from uq)).mono ?_;(rintro e w2 ⟨⟨(_ | _),rfl,hk⟩,hu2⟩ <;> (have HK:=Lib.hid hk;clear hk)))))
            all_goals go_ret
            all_goals refine ⟨⟨_,rfl,fun e => ?_⟩,uq⟩
            all_goals first
             | (cases e;done)
             | ((try simp only [decide_eq_true_eq,Bool.and_eq_true,beq_iff_eq] at e);exact jm0 HX.out ht (by omega) (by first | omega | (simp [*];done)) (by omega) (HK.out trivial)))
theorem may_17 (N M : Nat → Prop) (B : Nat) (n : Int) (nm : ByteArray) (ia na ma pa : Option Addr) (il ic ncap mcap pcap : Nat) (qs : List Nat) (ps : List Ty) (ns : List ByteArray) (ms : List Bool) (m : Int) (w : World) (h : MayH N M B nm (.slice na ns.length ncap) (.slice ma ms.length mcap) (.slice pa qs.length pcap) qs ps ns ms m w) (hn1 : -9223372036854775808 ≤ n) (hn2 : n ≤ 9223372036854775807) :
  Calls Tryz.prog 56 #[typV 17 n nm (.slice ia il ic) (.slice na ns.length ncap) (.slice ma ms.length mcap), .slice pa qs.length pcap] w (MayR (Ty.mk 17 n nm ps ns ms) w):=by
 have HX : Hid _:=Lib.hid h
 have hnl : (ns.length : Int) ≤ 1000000000 ∧ (ms.length : Int) ≤ 1000000000 ∧ (qs.length : Int) ≤ 1000000000:=by
  obtain ⟨_,_,_,_,h1⟩:=h.names.form
  obtain ⟨_,_,_,_,h2⟩:=h.marks.form
  obtain ⟨_,_,_,_,h3⟩:=h.row.form
  rw [List.length_map] at h1 h2 h3
  omega
 clear h
 all_goals by_cases hN : (ns.length : Int) + ms.length = 0
 all_goals by_cases hz : n = 0
 all_goals (first | (subst hz;clear hn1 hn2;by_cases ht : nm.toList = []) | skip)
 all_goals (go_enter Tryz.func56,Tryz.ntmps56
            go_wp2_with fail
            go_quiet (fail)
            go_wp2_with (first | (go_at_call 74;refine (HX.out.name _ (show Up w _ from uq)).mono ?_;(rintro e w2 ⟨⟨(_ | _),rfl,hk⟩,hu2⟩ <;> (have HK:=Lib.hid hk;clear hk))))
            all_goals (try go_quiet (fail))
            all_goals (try go_wp2_with (first | (go_at_call 74;refine (HX.out.name _ (show Up w _ from uq)).mono ?_;(rintro e w2 ⟨⟨(_ | _),rfl,hk⟩,hu2⟩ <;> (have HK:=Lib.hid hk;clear hk)))))
            all_goals go_ret
            all_goals refine ⟨⟨_,rfl,fun e => ?_⟩,uq⟩
            all_goals first
             | (cases e;done)
             | ((try simp only [decide_eq_true_eq,Bool.and_eq_true,beq_iff_eq] at e);exact jkq HX.out hN (by omega) (by omega) (HK.out trivial)))
theorem may_18 (N M : Nat → Prop) (B : Nat) (k : Int) (hk : k = 18 ∨ k = 19 ∨ k = 21 ∨ k = 22 ∨ k = 23) (n : Int) (nm : ByteArray) (ia na ma pa : Option Addr) (il ic ncap mcap pcap : Nat) (qs : List Nat) (ps : List Ty) (ns : List ByteArray) (ms : List Bool) (m : Int) (w : World) (h : MayH N M B nm (.slice na ns.length ncap) (.slice ma ms.length mcap) (.slice pa qs.length pcap) qs ps ns ms m w) (hn1 : -9223372036854775808 ≤ n) (hn2 : n ≤ 9223372036854775807) :
  Calls Tryz.prog 56 #[typV k n nm (.slice ia il ic) (.slice na ns.length ncap) (.slice ma ms.length mcap), .slice pa qs.length pcap] w (MayR (Ty.mk k n nm ps ns ms) w):=by
 have HX : Hid _:=Lib.hid h
 have hnl : (ns.length : Int) ≤ 1000000000 ∧ (ms.length : Int) ≤ 1000000000 ∧ (qs.length : Int) ≤ 1000000000:=by
  obtain ⟨_,_,_,_,h1⟩:=h.names.form
  obtain ⟨_,_,_,_,h2⟩:=h.marks.form
  obtain ⟨_,_,_,_,h3⟩:=h.row.form
  rw [List.length_map] at h1 h2 h3
  omega
 clear h
 rcases hk with rfl | rfl | rfl | rfl | rfl
 all_goals by_cases hN : (ns.length : Int) + ms.length = 0
 all_goals by_cases hz : n = 0
 all_goals (first | (subst hz;clear hn1 hn2;by_cases ht : nm.toList = []) | skip)
 all_goals (go_enter Tryz.func56,Tryz.ntmps56
            go_wp2_with fail
            go_quiet (fail)
            go_wp2_with (first | (go_at_call 74;refine (HX.out.name _ (show Up w _ from uq)).mono ?_;(rintro e w2 ⟨⟨(_ | _),rfl,hk⟩,hu2⟩ <;> (have HK:=Lib.hid hk;clear hk))))
            all_goals (try go_quiet (fail))
            all_goals (try go_wp2_with (first | (go_at_call 74;refine (HX.out.name _ (show Up w _ from uq)).mono ?_;(rintro e w2 ⟨⟨(_ | _),rfl,hk⟩,hu2⟩ <;> (have HK:=Lib.hid hk;clear hk)))))
            all_goals go_ret
            all_goals refine ⟨⟨_,rfl,fun e => ?_⟩,uq⟩
            all_goals first
             | (cases e;done)
             | ((try simp only [decide_eq_true_eq,Bool.and_eq_true,beq_iff_eq] at e);exact jhQ HX.out (by decide) hN (by first | omega | (simp [*];done)) (by omega) (by omega) (HK.out trivial)))
theorem may_20 (N M : Nat → Prop) (B : Nat) (n : Int) (nm : ByteArray) (ia na ma pa : Option Addr) (il ic ncap mcap pcap : Nat) (qs : List Nat) (ps : List Ty) (ns : List ByteArray) (ms : List Bool) (m : Int) (w : World) (h : MayH N M B nm (.slice na ns.length ncap) (.slice ma ms.length mcap) (.slice pa qs.length pcap) qs ps ns ms m w) (hn1 : -9223372036854775808 ≤ n) (hn2 : n ≤ 9223372036854775807) :
  Calls Tryz.prog 56 #[typV 20 n nm (.slice ia il ic) (.slice na ns.length ncap) (.slice ma ms.length mcap), .slice pa qs.length pcap] w (MayR (Ty.mk 20 n nm ps ns ms) w):=by
 have HX : Hid _:=Lib.hid h
 have hnl : (ns.length : Int) ≤ 1000000000 ∧ (ms.length : Int) ≤ 1000000000 ∧ (qs.length : Int) ≤ 1000000000:=by
  obtain ⟨_,_,_,_,h1⟩:=h.names.form
  obtain ⟨_,_,_,_,h2⟩:=h.marks.form
  obtain ⟨_,_,_,_,h3⟩:=h.row.form
  rw [List.length_map] at h1 h2 h3
  omega
 clear h
 have hp1 : Hid (qs.length = 1 → ∃ q p g off,pa = some ⟨g,off,none⟩ ∧ w.cell? ⟨g,off + 0,none⟩ = some (.pointer (some ⟨q,0,none⟩)) ∧ g < w.heap.size ∧ w.cell? ⟨q,0,none⟩ = some (.int .i64 p.kind) ∧ q < w.heap.size ∧ ps = [p]):=fun hq => by
  obtain ⟨p,hp⟩:=HX.out.one hq
  obtain ⟨q,hq0⟩ : ∃ q,qs[0]? = some q:=⟨_,List.getElem?_eq_getElem (by omega)⟩
  obtain ⟨g,off,cap',e,hc,hgl,_⟩:=HX.out.row.at_ (j:=0) (u:=ptrV q) (by rw [List.getElem?_map,hq0];rfl)
  injection e with e1 e2 e3
  have ht:=HX.out.tys 0 q p hq0 (by rw [hp];rfl)
  exact ⟨q,p,g,off,e1,hc,hgl,jlc ht,ht.lt,hp⟩
 all_goals by_cases hN : (ns.length : Int) + ms.length = 0
 all_goals by_cases hz : n = 0
 all_goals (first | (subst hz;clear hn1 hn2;by_cases ht : nm.toList = []) | skip)
 all_goals by_cases hq1 : qs.length = 1
 all_goals (first | (have hq2 : ¬ (qs.length : Int) = 1:=by omega
                     clear hp1) | skip)
 all_goals (first
  | (obtain ⟨q,p,g,off,rfl,y0,yg,y1,yq,hp⟩:=hp1.out hq1
     have hp1 : Hid (ps = [p]):=hp
     rw [Nat.add_zero] at y0
     have hq2 : (qs.length : Int) = 1:=by omega
     by_cases hk1 : p.kind = 19)
  | skip)
 all_goals (first
  | (have hkb : (p.kind == 19) = true:=by simp [hk1]
     rw [hk1] at y1
     clear hp)
  | (have hkb : (p.kind == 19) = false:=by simp [hk1]
     clear hp)
  | skip)
 all_goals (go_enter Tryz.func56,Tryz.ntmps56
            go_wp2_with fail
            go_quiet (fail)
            go_wp2_with (first | (go_at_call 74;refine (HX.out.name _ (show Up w _ from uq)).mono ?_;(rintro e w2 ⟨⟨(_ | _),rfl,hk⟩,hu2⟩ <;> (have HK:=Lib.hid hk;clear hk))))
            all_goals (try go_quiet (fail))
            all_goals (try go_wp2_with (first | (go_at_call 74;refine (HX.out.name _ (show Up w _ from uq)).mono ?_;(rintro e w2 ⟨⟨(_ | _),rfl,hk⟩,hu2⟩ <;> (have HK:=Lib.hid hk;clear hk)))))
            all_goals go_ret
            all_goals refine ⟨⟨_,rfl,fun e => ?_⟩,uq⟩
            all_goals first
             | (cases e;done)
             | ((try simp only [decide_eq_true_eq,Bool.and_eq_true,beq_iff_eq] at e);exact jjp HX.out hN hp1.out hk1 (by omega) (by omega) (HK.out trivial))
             | (exfalso;simp_all;done))
theorem may_0 (N M : Nat → Prop) (B : Nat) (k : Int) (hk : k ≠ 11 ∧ k ≠ 12 ∧ k ≠ 13 ∧ k ≠ 14 ∧ k ≠ 15 ∧ k ≠ 17 ∧ k ≠ 18 ∧ k ≠ 19 ∧ k ≠ 20 ∧ k ≠ 21 ∧ k ≠ 22 ∧ k ≠ 23) (n : Int) (nm : ByteArray) (ia na ma pa : Option Addr) (il ic ncap mcap pcap : Nat) (qs : List Nat) (ps : List Ty) (ns : List ByteArray) (ms : List Bool) (m : Int) (w : World) (h : MayH N M B nm (.slice na ns.length ncap) (.slice ma ms.length mcap) (.slice pa qs.length pcap) qs ps ns ms m w) (hn1 : -9223372036854775808 ≤ n) (hn2 : n ≤ 9223372036854775807) :
  Calls Tryz.prog 56 #[typV k n nm (.slice ia il ic) (.slice na ns.length ncap) (.slice ma ms.length mcap), .slice pa qs.length pcap] w (MayR (Ty.mk k n nm ps ns ms) w):=by
 have HX : Hid _:=Lib.hid h
 have hnl : (ns.length : Int) ≤ 1000000000 ∧ (ms.length : Int) ≤ 1000000000 ∧ (qs.length : Int) ≤ 1000000000:=by
  obtain ⟨_,_,_,_,h1⟩:=h.names.form
  obtain ⟨_,_,_,_,h2⟩:=h.marks.form
  obtain ⟨_,_,_,_,h3⟩:=h.row.form
  rw [List.length_map] at h1 h2 h3
  omega
 clear h
 all_goals by_cases hN : (ns.length : Int) + ms.length = 0
 all_goals by_cases hz : n = 0
 all_goals (first | (subst hz;clear hn1 hn2;by_cases ht : nm.toList = []) | skip)
 all_goals (go_enter Tryz.func56,Tryz.ntmps56
            go_wp2_with fail
            go_quiet (fail)
            go_wp2_with fail
            all_goals (try go_quiet (fail))
            all_goals (try go_wp2_with fail)
            all_goals go_ret
            all_goals refine ⟨⟨_,rfl,fun e => ?_⟩,uq⟩
            all_goals first
             | (cases e;done)
             | ((try simp only [decide_eq_true_eq,Bool.and_eq_true,beq_iff_eq] at e);exact jhR HX.out (by omega) (by omega) hN (by first | omega | (simp [*];done)) ht))
end Go.Proofs.YtiaepldmgighbaaGreatDoor
