import Derived.Test.YtiaepldmgighbaaGreatDoorU36
import Derived.Test.YtiaepldmgighbaaGreatDoorU34
namespace Go.Proofs.YtiaepldmgighbaaGreatDoor
open Go.RowKit
set_option linter.unusedSimpArgs false
def dgB (X : Int) : Bool:=decide (48 ≤ X ∧ X ≤ 57)
def ltB (X : Int) : Bool:=decide ((97 ≤ X ∧ X ≤ 122) ∨ (65 ≤ X ∧ X ≤ 90) ∨ X = 95 ∨ X = 36)
theorem jdH (X : Int) (w : World) : Calls Tryz.prog 113 #[.int .u8 X] w fun e w' => e = .returned (.bool (dgB X)) ∧ w' = w:=by
 go_enter Tryz.func113,Tryz.ntmps113
 go_wp2_with fail
 all_goals (refine jba (by (simp [results,Tryz.results113,go_sem, *]) <;> rfl) rfl ?_ ⟨rfl,rfl⟩)
 all_goals (refine congrArg Value.bool ?_;unfold dgB;rw [Bool.eq_iff_iff];simp;omega)
theorem je1 (X : Int) (w : World) : Calls Tryz.prog 115 #[.int .u8 X] w fun e w' => e = .returned (.bool (ltB X)) ∧ w' = w:=by
 go_enter Tryz.func115,Tryz.ntmps115
 go_wp2_with fail
 all_goals (refine jba (by (simp [results,Tryz.results115,go_sem, *]) <;> rfl) rfl ?_ ⟨rfl,rfl⟩)
 all_goals (refine congrArg Value.bool ?_;unfold ltB;rw [Bool.eq_iff_iff];simp <;> omega)
set_option maxRecDepth 100000
theorem jhH (s : ByteArray) (hs : s.size ≤ 1000000000) (m : Int) (w : World) (hm : w.cell? ⟨0,0,none⟩ = some (.int .i64 m)) : Calls Tryz.prog 114 #[.string s] w fun e w' => (∃ b,e = .returned (.bool b)) ∧ w' = w:=by
 go_enter Tryz.func114,Tryz.ntmps114
 go_wp2_with (first | (go_at_call 163;refine (Tryz.strings_Contains _ _ m _ (of_decide_eq_true (by kernel_rfl)) hm).mono ?_;rintro e w2 ⟨rfl,rfl⟩))
 go_ret
 exact ⟨⟨_,rfl⟩,rfl⟩
theorem jnn (s : ByteArray) (j : Nat) (h : j < s.size) : (tb s)[j]? = some (s[j]'h):=by
 have h2 : j < s.data.toList.length:=by simpa using h
 show s.data.toList[j]? = _
 rw [List.getElem?_eq_getElem h2]
 simp [ByteArray.getElem_eq_getElem_data]
theorem jnm {c : UInt8} (h : ltB (c.toNat : Int) = true) : isL c = true:=by
 unfold ltB at h
 unfold isL
 simp only [decide_eq_true_eq] at h ⊢
 omega
theorem isD_of {c : UInt8} (h : dgB (c.toNat : Int) = true) : isD c = true:=by
 unfold dgB at h
 unfold isD
 simp only [decide_eq_true_eq] at h ⊢
 omega
theorem jnZ {s : ByteArray} (hs : 0 < s.size) (h0 : dgB ((s[0]'hs).toNat : Int) = false) (hall : ∀ j (h : j < s.size),ltB ((s[j]'h).toNat : Int) = true ∨ dgB ((s[j]'h).toNat : Int) = true) : NameOk s where
 first:=by
  have h1:=jnn s 0 hs
  cases hl : tb s with
  | nil => rw [hl] at h1;cases h1
  | cons c r =>
    rw [hl] at h1
    simp only [gQz,Option.some.injEq] at h1
    refine ⟨c,r,rfl,?_⟩
    rcases hall 0 hs with h | h
    ·rw [h1];exact jnm h
    ·rw [h0] at h;cases h
 all c hc:=by
  obtain ⟨j,hj⟩:=List.getElem?_of_mem hc
  have hjs : j < s.size:=by
   have:=(List.getElem?_eq_some_iff.1 hj).1
   simpa [tb] using this
  rw [jnn s j hjs] at hj
  cases hj
  unfold isN
  rcases hall j hjs with h | h
  ·rw [jnm h];rfl
  ·rw [isD_of h];simp
set_option maxHeartbeats 2000000
theorem jjl (s : ByteArray) (hs : s.size ≤ 1000000000) (m : Int) (w : World) (hm : w.cell? ⟨0,0,none⟩ = some (.int .i64 m)) : Calls Tryz.prog 74 #[.string s] w fun e w' => (∃ b,e = .returned (.bool b) ∧ (b = true → NameOk s)) ∧ Up w w':=by
 by_cases he : s.toList = []
 ·go_enter Tryz.func74,Tryz.ntmps74
  go_wp2_with fail
  go_ret
  exact ⟨⟨false,rfl,fun e => by cases e⟩,uq⟩
 ·have hne : (s.toList == []) = false:=by simp [he]
  have hsz : 0 < s.size:=by
   rw [ByteArray.toList_eq] at he
   have : s.data.toList.length = s.size:=by simp
   have h2 : 0 < s.data.toList.length:=List.length_pos_iff.2 he
   omega
  cases hd0 : dgB ((s[0]'hsz).toNat : Int) with
  | true =>
    go_enter Tryz.func74,Tryz.ntmps74
    go_wp2_with (first | (go_at_call 113;refine (jdH _ _).mono ?_;rintro e w2 ⟨rfl,rfl⟩))
    all_goals go_ret
    all_goals exact ⟨⟨false,rfl,fun e => by cases e⟩,uq⟩
  | false =>
    have hR:=jhH s hs m w hm
    clear hm
    go_enter Tryz.func74,Tryz.ntmps74
    go_wp2_with (first | (go_at_call 113;refine (jdH _ _).mono ?_;rintro e w2 ⟨rfl,rfl⟩) | (go_at_call 114;refine hR.mono ?_;rintro e w2 ⟨⟨(_ | _),rfl⟩,rfl⟩))
    rotate_left
    ·go_ret
     exact ⟨⟨false,rfl,fun e => by cases e⟩,uq⟩
    ·go_loopw [17] (fun i wr => ∃ j : Nat,j ≤ s.size ∧ i = .int .i64 j ∧ Hid (∀ k,k < j → ∀ h : k < s.size,ltB ((s[k]'h).toNat : Int) = true ∨ dgB ((s[k]'h).toNat : Int) = true) ∧ Up w2 wr) (fun i _ => s.size - (intOf i).toNat)
     case atStart => exact ⟨0,Nat.zero_le _,rfl,(fun k hk => by omega),uq⟩
     case round =>
      obtain ⟨j,hj,rfl,hX,hup⟩:=hrel
      by_cases hlt : j < s.size
      ·have hji : (j : Int) < s.size:=by omega
       have hnx : (ltB ((s[j]'hlt).toNat : Int) = true ∨ dgB ((s[j]'hlt).toNat : Int) = true) → Hid (∀ k,k < j + 1 → ∀ h : k < s.size,ltB ((s[k]'h).toNat : Int) = true ∨ dgB ((s[k]'h).toNat : Int) = true):=fun h k hk hks => by
        by_cases e : k = j
        ·subst e;exact h
        ·exact hX.out k (by omega) hks
       have HN:=Lib.hid hnx
       clear hnx
       cases hl : ltB ((s[j]'hlt).toNat : Int) with
       | true =>
         have hnx2:=HN.out (.inl hl)
         go_wp2_with (first | (go_at_call 115;refine (je1 _ _).mono ?_;rintro e w3 ⟨rfl,rfl⟩))
         go_roundw
         case rel => exact ⟨j + 1,by omega,by congr 1,hnx2,uq⟩
         case measure => simp [intOf];omega
       | false =>
         cases hd : dgB ((s[j]'hlt).toNat : Int) with
         | true =>
           have hnx2:=HN.out (.inr hd)
           go_wp2_with (first | (go_at_call 115;refine (je1 _ _).mono ?_;rintro e w3 ⟨rfl,rfl⟩) | (go_at_call 113;refine (jdH _ _).mono ?_;rintro e w3 ⟨rfl,rfl⟩))
           go_roundw
           case rel => exact ⟨j + 1,by omega,by congr 1,hnx2,uq⟩
           case measure => simp [intOf];omega
         | false =>
           go_wp2_with (first | (go_at_call 115;refine (je1 _ _).mono ?_;rintro e w3 ⟨rfl,rfl⟩) | (go_at_call 113;refine (jdH _ _).mono ?_;rintro e w3 ⟨rfl,rfl⟩))
           go_ret
           exact ⟨⟨false,rfl,fun e => by cases e⟩,uq⟩
      ·obtain rfl : j = s.size:=by omega
       go_wp2_with fail
       go_ret
       exact ⟨⟨true,rfl,fun _ => jnZ hsz hd0 fun k hk => hX.out k hk hk⟩,uq⟩
attribute [local go_sem] Oper.semAt_some je0
theorem ji8 (sa : Option Addr) (cap : Nat) (l : List UInt8) (w : World) (h : BytesAt w sa l) (hi : 0 < l.length) (hcap : l.length ≤ cap) :
  Calls Tryz.prog 147 #[.slice sa l.length cap, .int .i64 0] w fun e w' => (∃ g,e = .returned (decV (decS l).1 (decS l).2 g) ∧ (g = true → decS l ≠ badS)) ∧ w' = w:=by
 have HB:=Lib.hid h
 have hm:=h.1
 obtain ⟨b,off,X,rfl,hc,hX,hx0,hx1⟩:=h.byte 0 hi
 rw [Nat.add_zero] at hc
 have hb:=jaj hc
 clear h
 obtain ⟨x,hx⟩ : ∃ x : Nat,x = (l.getD 0 0).toNat:=⟨_,rfl⟩
 rw [← hx] at hX
 subst hX
 rcases hq : jby x with ⟨n,v0,ls⟩
 have hbd:=jgE (by omega) hq
 have hw:=Lib.hid (jng x (by omega))
 rw [hq] at hw
 dsimp only at hw
 obtain ⟨len,hlen⟩ : ∃ len,Hid (l.length = len):=⟨_,rfl⟩
 obtain ⟨d,hd⟩ : ∃ d,Hid (decS l = d):=⟨_,rfl⟩
 rw [hd.out]
 have HI:=Lib.hid hi
 rw [hlen.out] at hi hm hcap ⊢
 have HX:=Lib.hid (And.intro hx hq)
 clear hx hq
 by_cases hn : n = 0
 ·subst hn
  have hd2 : Hid (d = badS):=by
   unfold Hid
   rw [← hd.out]
   have:=jf9 l 0 v0 ls HI.out (by rw [← HX.out.1];exact HX.out.2)
   simpa using this
  clear hbd
  go_enter Tryz.func147,Tryz.ntmps147
  go_wp2_with (first | (go_at_call 175;refine (hw.out _).mono ?_;rintro e w2 ⟨rfl,rfl⟩))
  refine bodyPost_ret (v:=decV 65533 1 false) (by simp [results,Tryz.results147,go_sem, *]) rfl ⟨⟨false,by rw [hd2.out];rfl,fun e => by cases e⟩,rfl⟩
 ·have hD:=Lib.hid (jc3 l 0 n v0 ls HI.out (by rw [← HX.out.1];exact HX.out.2) hn)
  have hn0 : ¬ (n : Int) = 0:=by omega
  have hn4 : n ≤ 4:=by omega
  by_cases hnl : len < n
  ·have hd2 : Hid (d = badS):=by
    unfold Hid
    rw [← hd.out]
    have h1:=hD.out
    rw [jdQ _ _ _ (by rw [List.length_drop,hlen.out];omega)] at h1
    simpa [jfa] using h1
   have hnl2 : (len : Int) < (n : Int):=by omega
   clear hbd hnl hn
   go_enter Tryz.func147,Tryz.ntmps147
   go_wp2_with (first | (go_at_call 175;refine (hw.out _).mono ?_;rintro e w2 ⟨rfl,rfl⟩))
   refine bodyPost_ret (v:=decV 65533 1 false) (by simp [results,Tryz.results147,go_sem, *]) rfl ⟨⟨false,by rw [hd2.out];rfl,fun e => by cases e⟩,rfl⟩
  ·have hnl2 : (n : Int) ≤ (len : Int):=by omega
   have hnl3 : n ≤ len:=by omega
   have hn1 : 1 ≤ n:=by omega
   have HN:=Lib.hid (And.intro hbd (And.intro hn hnl))
   clear hbd hn
   have hnz : ((n : Int) == 0) = false:=by simpa using hn0
   by_cases hone : n = 1
   ·subst hone
    have hd1 : Hid (d = jfa 1 ls (some v0)):=by
     unfold Hid
     rw [← hd.out]
     simpa [runS] using hD.out
    have hd2 : Hid (d = if fitS 1 v0 = true then (v0,1) else badS):=by
     unfold Hid
     rw [hd1.out]
     exact jdF HX.out.2 (by omega) (.inl ⟨rfl,by rcases HN.out.1 with h | h | h | h | h <;> omega⟩)
    have hv : Hid (d = (v0,1)):=hd2.out
    clear hn0 hn4 hnl2 hnl3 hn1 hd1 hd2
    go_enter Tryz.func147,Tryz.ntmps147
    go_wp2_with (first | (go_at_call 175;refine (hw.out _).mono ?_;rintro e w2 ⟨rfl,rfl⟩))
    all_goals
     refine wp_loop_rounds 1 ?_
     rw [rounds_succ]
     go_wp2_with (first | (go_at_call 176;refine (jfQ v0 1 v0 rfl (.inl rfl) _).mono ?_;rintro e w2 ⟨rfl,rfl⟩;rw [show fitS 1 v0 = true from rfl]))
    all_goals refine bodyPost_ret (v:=decV v0 1 true) (by simp [results,Tryz.results147,go_sem, *]) rfl ⟨⟨true,by rw [hv.out];rfl,fun _ => by rw [hv.out];intro e;have:=HN.out.1;simp only [badS,Prod.mk.injEq] at e;omega⟩,rfl⟩
   ·have hc1 : ¬ cap = 1:=by omega
    go_enter Tryz.func147,Tryz.ntmps147
    go_wp2_with (first | (go_at_call 175;refine (hw.out _).mono ?_;rintro e w2 ⟨rfl,rfl⟩))
    go_loopw [8,10,45] (fun r _ i wr => ∃ (j u : Nat),j + 1 ≤ n ∧ r = .int .i32 u ∧ i = .int .i64 j ∧ Hid (runS v0 (n - 1) (l.drop 1) = runS u (n - 1 - j) (l.drop (1 + j))) ∧ Dig n j u ∧ wr = w) (fun _ _ i _ => n - (intOf i).toNat)
    case atStart => exact ⟨0,v0,by omega,rfl,rfl,rfl,by have:=HN.out.1;unfold Dig;omega,rfl⟩
    case round =>
     obtain ⟨j,u,hj,rfl,rfl,hrun,hdg,rfl⟩:=hrel
     have hub : u < 33554432:=by unfold Dig at hdg;omega
     have HG:=Lib.hid hdg
     clear hdg
     by_cases hlt : j < n - 1
     ·obtain ⟨b',off',Z,hbe,hZc,hZ,hz0,hz1⟩:=HB.out.byte (1 + j) (by rw [hlen.out];omega)
      obtain ⟨rfl,rfl⟩ : b = b' ∧ off = off':=by simpa using hbe
      obtain ⟨z,hz⟩ : ∃ z : Nat,z = (l.getD (1 + j) 0).toNat:=⟨_,rfl⟩
      rw [← hz] at hZ
      subst hZ
      have HZ:=Lib.hid hz
      clear hz hbe
      rw [← Nat.add_assoc] at hZc
      by_cases hz2 : z / 64 = 2
      ·have hz3 : ((z : Int) / 64 == 2) = true:=by simp;omega
       go_wp2_with fail
       go_roundw
       case rel =>
        refine ⟨j + 1,u * 64 + z % 64,by omega,by congr 1,by congr 1,?_,?_,trivial⟩
        ·unfold Hid
         have h1 : 128 ≤ (l.getD (1 + j) 0).toNat:=by rw [← HZ.out];omega
         have h2 : (l.getD (1 + j) 0).toNat ≤ 191:=by rw [← HZ.out];omega
         rw [hrun.out,show n - 1 - j = (n - 1 - (j + 1)) + 1 by omega,jct u (n - 1 - (j + 1)) (1 + j) l (by rw [hlen.out];omega) h1 h2, ← HZ.out]
         congr 1
         omega
        ·have:=HG.out
         unfold Dig at this ⊢
         omega
       case measure => simp [intOf];omega
      ·have hz3 : ((z : Int) / 64 == 2) = false:=by simp;omega
       have hd2 : Hid (d = badS):=by
        unfold Hid
        have h1:=hD.out
        rw [List.drop_zero,hd.out,Nat.zero_add,hrun.out,show n - 1 - j = (n - 1 - (j + 1)) + 1 by omega,jcs u (n - 1 - (j + 1)) (1 + j) l (by rw [← HZ.out];omega)] at h1
        exact h1
       go_wp2_with fail
       refine bodyPost_ret (v:=decV 65533 1 false) (by simp [results,Tryz.results147,go_sem, *]) rfl ⟨⟨false,by rw [hd2.out];rfl,fun e => by cases e⟩,rfl⟩
     ·obtain rfl : j = n - 1:=by omega
      have hd2 : Hid (d = if fitS n u = true then (u,n) else badS):=by
       unfold Hid
       have h1:=hD.out
       rw [List.drop_zero,hd.out,Nat.zero_add,hrun.out,Nat.sub_self] at h1
       rw [h1]
       simp only [runS]
       refine jdF HX.out.2 (by omega) ?_
       have:=HG.out
       unfold Dig at this
       omega
      cases hft : fitS n u
      ·have hd3 : Hid (d = badS):=by unfold Hid;simp [hd2.out,hft]
       go_wp2_with (first | (go_at_call 176;refine (jfQ u n u rfl (by omega) _).mono ?_;rintro e w2 ⟨rfl,rfl⟩;rw [hft]))
       refine bodyPost_ret (v:=decV 65533 1 false) (by simp [results,Tryz.results147,go_sem, *]) rfl ⟨⟨false,by rw [hd3.out];rfl,fun e => by cases e⟩,rfl⟩
      ·have hd3 : Hid (d = (u,n)):=by unfold Hid;simp [hd2.out,hft]
       go_wp2_with (first | (go_at_call 176;refine (jfQ u n u rfl (by omega) _).mono ?_;rintro e w2 ⟨rfl,rfl⟩;rw [hft]))
       refine bodyPost_ret (v:=decV u n true) (by simp [results,Tryz.results147,go_sem, *]) rfl ⟨⟨true,by rw [hd3.out],fun _ => by rw [hd3.out];intro e;simp only [badS,Prod.mk.injEq] at e;omega⟩,rfl⟩
theorem jgi (q : Nat) (cap : Nat) (s : ByteArray) (w : World) (h : BytesAt w (some ⟨q,0,none⟩) s.data.toList) (hi : 0 < s.size) (hcap : s.size ≤ cap) :
  Calls Tryz.prog 147 #[.slice (some ⟨q,0,none⟩) s.size cap, .int .i64 0] w fun e w' => (∃ g,e = .returned (decV (decS s.data.toList).1 (decS s.data.toList).2 g) ∧ (g = true → decS s.data.toList ≠ badS)) ∧ w' = w:=by
 have e : s.data.toList.length = s.size:=by simp
 have:=ji8 (some ⟨q,0,none⟩) cap s.data.toList w h (by omega) (by omega)
 rw [e] at this
 exact this
end Go.Proofs.YtiaepldmgighbaaGreatDoor
namespace Go.Proofs.YtiaepldmgighbaaGreatDoor
open Go.RowKit
set_option linter.unusedSimpArgs false
attribute [local go_sem] Oper.semAt_some je0
set_option maxRecDepth 100000
set_option maxHeartbeats 2000000
theorem jmH (s : ByteArray) (hs : s.size ≤ 1000000000) (w : World) : Calls Tryz.prog 98 #[.string s] w fun e w' => (∃ b,e = .returned (.bool b) ∧ (b = true → jeg s)) ∧ Up w w':=by
 go_enter Tryz.func98,Tryz.ntmps98
 go_wp2_with fail
 go_loopw [3] (fun i wr => ∃ a : Nat,a ≤ s.size ∧ i = .int .i64 a ∧ Hid (encL (jdm (tb s) a) = (tb s).drop a → jeg s) ∧ Up w wr) (fun i _ => s.size - (intOf i).toNat)
 case atStart => exact ⟨0,Nat.zero_le _,rfl,fun h => jmI h,uq⟩
 case round =>
  obtain ⟨a,ha,rfl,hG,hup⟩:=hrel
  by_cases hlt : a < s.size
  ·obtain ⟨M,hM,hM2⟩ : ∃ M : Nat,(min (s.size : Int) ((a : Int) + 4)).toNat = M ∧ M = min s.size (a + 4):=⟨_,rfl,by omega⟩
   obtain ⟨s4,hs4⟩ : ∃ s4,s.extract a M = s4:=⟨_,rfl⟩
   have hsz4 : s4.size = M - a:=by
    have h1 : s4.data.toList.length = s4.size:=by simp
    have h2 : s.data.toList.length = s.size:=by simp
    rw [← h1, ← hs4,jbS,List.length_take,List.length_drop]
    omega
   have hl4 : s4.data.toList = (s.data.toList.drop a).take 4:=by
    rw [← hs4,jbS,hM2]
    have : s.data.toList.length = s.size:=by simp
    rw [List.take_eq_take_iff,List.length_drop]
    omega
   have hd : decS s4.data.toList = decS (s.data.toList.drop a):=by rw [hl4,jhC]
   have hz4 : 0 < s4.size ∧ s4.size ≤ 4:=by
    have h1 : s4.data.toList.length = s4.size:=by simp
    have h2 : s.data.toList.length = s.size:=by simp
    rw [← h1,hl4,List.length_take,List.length_drop]
    omega
   obtain ⟨hr1,hr2,hr3⟩:=jen s.data.toList a (by simpa using hlt)
   have hgs:=jlm (tb s) a (by simpa [tb] using hlt)
   rw [show (tb s).drop a = s.data.toList.drop a from rfl, ← hd] at hgs
   rw [← hd] at hr1 hr2 hr3
   obtain ⟨r,n,hrn⟩ : ∃ r n,decS s4.data.toList = (r,n):=⟨_,_,rfl⟩
   rw [hrn] at hr1 hr2 hr3 hgs
   dsimp only at hr1 hr2 hr3 hgs
   have hD:=fun W1 (h : BytesAt W1 (some ⟨wr.heap.size,0,none⟩) s4.data.toList) => jgi wr.heap.size (grownCap wr s4.size 0 5) s4 W1 h hz4.1 (grownCap_ge _ _ _ _)
   rw [hrn] at hD
   dsimp only at hD
   have hn3 : a + n ≤ s.size:=by simpa using hr3
   have HGS:=Lib.hid hgs
   clear hr1 hr3 hl4 hd hgs
   have hHD:=Lib.hid hD
   have hzz:=hz4.2
   have hM3 : min M s.size - a = s4.size:=by omega
   clear hD hM2 hsz4
   rcases Nat.lt_or_ge (a + 4) s.size with hc | hc
   ·have hci : (a : Int) + 4 < s.size:=by omega
    go_wp2_with (first | (go_at_call 147;refine (hHD.out _ (jbf wr s4 (by omega))).mono ?_;(rintro e w2 ⟨⟨(_ | _),rfl,hgk⟩,rfl⟩ <;> (have HK:=Lib.hid hgk;clear hgk))))
    ·go_ret
     exact ⟨⟨false,rfl,fun e => by cases e⟩,hup.trans (jaE wr s4)⟩
    ·go_roundw
     case rel => exact ⟨a + n,hn3,by congr 1,fun hgx => hG.out (HGS.out (HK.out trivial) hgx),hup.trans (jaE wr s4)⟩
     case measure => simp [intOf];omega
   ·have hci : (s.size : Int) ≤ (a : Int) + 4:=by omega
    go_wp2_with (first | (go_at_call 147;refine (hHD.out _ (jbf wr s4 (by omega))).mono ?_;(rintro e w2 ⟨⟨(_ | _),rfl,hgk⟩,rfl⟩ <;> (have HK:=Lib.hid hgk;clear hgk))))
    ·go_ret
     exact ⟨⟨false,rfl,fun e => by cases e⟩,hup.trans (jaE wr s4)⟩
    ·go_roundw
     case rel => exact ⟨a + n,hn3,by congr 1,fun hgx => hG.out (HGS.out (HK.out trivial) hgx),hup.trans (jaE wr s4)⟩
     case measure => simp [intOf];omega
  ·obtain rfl : a = s.size:=by omega
   go_wp2_with fail
   go_ret
   exact ⟨⟨true,rfl,fun _ => hG.out (jmG _ _ (by simp [tb]))⟩,uq⟩
end Go.Proofs.YtiaepldmgighbaaGreatDoor
namespace Go.Proofs.YtiaepldmgighbaaGreatDoor
open Go.RowKit
set_option linter.unusedSimpArgs false
theorem RowOf.at_ {T : TypeId} {N : Nat → Prop} {w : World} {v : Value} {us : List Value} (h : RowOf T N w v us) {j : Nat} {u : Value} (hu : us[j]? = some u) : ∃ g off cap,v = .slice (some ⟨g,off,none⟩) us.length cap ∧ w.cell? ⟨g,off + j,none⟩ = some u ∧ g < w.heap.size ∧ N g:=by
 obtain ⟨a,cap,rfl,_,_,h3⟩:=h
 obtain ⟨g,off,cs,fz,rfl,q2,q3,q4⟩:=h3 j u hu
 exact ⟨g,off,cap,rfl,(ja1 q3 _).trans q4,ja0 q3,q2⟩
theorem RowOf.form {T : TypeId} {N : Nat → Prop} {w : World} {v : Value} {us : List Value} (h : RowOf T N w v us) : ∃ a cap,v = .slice a us.length cap ∧ us.length ≤ cap ∧ us.length ≤ 1000000000:=by
 obtain ⟨a,cap,e,h1,h2,_⟩:=h
 exact ⟨a,cap,e,h1,h2⟩
def RowV (N : Nat → Prop) (w : World) (v : Value) (us : List Value) : Prop := ∃ T,RowOf T N w v us
theorem RowV.at_ {N : Nat → Prop} {w : World} {v : Value} {us : List Value} (h : RowV N w v us) {j : Nat} {u : Value} (hu : us[j]? = some u) : ∃ g off cap,v = .slice (some ⟨g,off,none⟩) us.length cap ∧ w.cell? ⟨g,off + j,none⟩ = some u ∧ g < w.heap.size ∧ N g:=by
 obtain ⟨T,h⟩:=h
 exact h.at_ hu
theorem RowV.form {N : Nat → Prop} {w : World} {v : Value} {us : List Value} (h : RowV N w v us) : ∃ a cap,v = .slice a us.length cap ∧ us.length ≤ cap ∧ us.length ≤ 1000000000:=by
 obtain ⟨T,h⟩:=h
 exact h.form
theorem RowV.nil (N : Nat → Prop) (w : World) : RowV N w (.slice none 0 0) []:=⟨StrT,RowOf.nil _ _ _⟩
theorem Name_w (s : ByteArray) (hs : s.size ≤ 1000000000) (m : Int) (w W : World) (hu : Up w W) (hm : w.cell? ⟨0,0,none⟩ = some (.int .i64 m)) : Calls Tryz.prog 74 #[.string s] W fun e w' => (∃ b,e = .returned (.bool b) ∧ (b = true → NameOk s)) ∧ Up W w' :=
 jjl s hs m W ((hu.cells _ _ (jaj hm)).trans hm)
theorem jl4 {a b c : ByteArray} (h : ltS a b = true) (k : ltS b c = true) : ltS a c = true:=by
 rcases ltS_tot.neg a c b h with q | q
 ·exact q
 ·rw [ltS_tot.asymm _ _ k] at q;cases q
theorem jkQ {l : List ByteArray} {j : Nat} {s t : ByteArray} (h : jc5 (l.take (j + 1))) (h1 : l[j]? = some s) (h2 : l[j + 1]? = some t) (hlt : ltS s t = true) : jc5 (l.take (j + 2)):=by
 rw [List.take_add_one,h2,Option.toList_some]
 unfold jc5 at h ⊢
 rw [List.pairwise_append]
 refine ⟨h,by simp,fun a ha b hb => ?_⟩
 rw [List.mem_singleton.1 hb]
 rw [List.take_add_one,h1,Option.toList_some] at ha h
 rw [List.pairwise_append] at h
 rcases List.mem_append.1 ha with q | q
 ·exact jl4 (h.2.2 a q s (by simp)) hlt
 ·rw [List.mem_singleton.1 q];exact hlt
theorem jmp {l : List Bool} {j : Nat} {s t : Bool} (h : jbu (l.take (j + 1))) (h1 : l[j]? = some s) (h2 : l[j + 1]? = some t) (hlt : s = true → t = true) : jbu (l.take (j + 2)):=by
 rw [List.take_add_one,h2,Option.toList_some]
 unfold jbu at h ⊢
 rw [List.pairwise_append]
 refine ⟨h,by simp,fun a ha b hb => ?_⟩
 rw [List.mem_singleton.1 hb]
 rw [List.take_add_one,h1,Option.toList_some] at ha h
 rw [List.pairwise_append] at h
 rcases List.mem_append.1 ha with q | q
 ·exact fun e => hlt (h.2.2 a q s (by simp) e)
 ·rw [List.mem_singleton.1 q];exact hlt
set_option maxRecDepth 100000
set_option maxHeartbeats 2000000
theorem jl0 (N : Nat → Prop) (v : Value) (l : List ByteArray) (w : World) (hr : RowV N w v (l.map .string)) (hs : ∀ s ∈ l,s.size ≤ 1000000000) (m : Int) (hm : w.cell? ⟨0,0,none⟩ = some (.int .i64 m)) :
  Calls Tryz.prog 99 #[v] w fun e w' => (∃ b,e = .returned (.bool b) ∧ (b = true → (∀ s ∈ l,NameOk s) ∧ jc5 l)) ∧ Up w w':=by
 obtain ⟨a,cap,rfl,hcap,hlen⟩:=hr.form
 rw [List.length_map] at hcap hlen ⊢
 have HR:=Lib.hid (And.intro hr (And.intro hs hm))
 clear hr hs hm
 go_enter Tryz.func99,Tryz.ntmps99
 go_wp2_with fail
 go_loopw [7] (fun i wr => ∃ j : Nat,j ≤ l.length ∧ i = .int .i64 j ∧ Hid ((∀ s ∈ l.take j,NameOk s) ∧ jc5 (l.take j)) ∧ Up w wr) (fun i _ => l.length - (intOf i).toNat)
 case atStart => exact ⟨0,Nat.zero_le _,rfl,⟨fun s h => by simp at h,List.Pairwise.nil⟩,uq⟩
 case round =>
  obtain ⟨j,hj,rfl,hX,hup⟩:=hrel
  by_cases hlt : j < l.length
  ·have hji : (j : Int) < l.length:=by omega
   obtain ⟨s,hsj⟩ : ∃ s,l[j]? = some s:=⟨_,List.getElem?_eq_getElem hlt⟩
   obtain ⟨g,off,cap',e,hc,hgl,_⟩:=HR.out.1.at_ (j:=j) (u := .string s) (by rw [List.getElem?_map,hsj];rfl)
   injection e with e1 e2 e3
   subst e1 e3
   have y0:=(hup.cells _ _ hgl).trans hc
   have yl:=Nat.lt_of_lt_of_le hgl hup.size
   have hNm:=Lib.hid (fun W hW => Name_w s (HR.out.2.1 s (List.mem_of_getElem? hsj)) m w W hW HR.out.2.2)
   have hnx : Hid (NameOk s → jc5 (l.take (j + 1)) → (∀ s ∈ l.take (j + 1),NameOk s) ∧ jc5 (l.take (j + 1))):=fun h1 h2 => ⟨fun x hx => by
    rw [List.take_add_one,hsj,Option.toList_some] at hx
    rcases List.mem_append.1 hx with q | q
    ·exact hX.out.1 x q
    ·rw [List.mem_singleton.1 q];exact h1,h2⟩
   have HSJ:=Lib.hid hsj
   clear hsj hc e2 hlt
   rcases Nat.eq_zero_or_pos j with rfl | hj0
   ·rw [show ((0 : Nat) : Int) = 0 from rfl]
    rw [Nat.add_zero] at y0
    have hri : jc5 (l.take (0 + 1)):=by
     rw [List.take_add_one,List.take_zero,HSJ.out]
     exact List.pairwise_singleton _ _
    have HRI:=Lib.hid hri
    clear hri
    go_wp2_with (first | (go_at_call 74;refine (hNm.out _ (show Up w _ from uq)).mono ?_;(rintro e w2 ⟨⟨(_ | _),rfl,hk⟩,hu2⟩ <;> (have HK:=Lib.hid hk;clear hk))))
    ·go_ret
     exact ⟨⟨false,rfl,fun e => by cases e⟩,uq⟩
    ·exact ⟨⟨1,by omega,rfl,hnx.out (HK.out trivial) HRI.out,uq⟩,by simp [intOf];omega⟩
   ·obtain ⟨k,rfl⟩ : ∃ k,j = k + 1:=⟨j - 1,by omega⟩
    obtain ⟨t,htk⟩ : ∃ t,l[k]? = some t:=⟨_,List.getElem?_eq_getElem (by omega)⟩
    obtain ⟨g',off',cap',e,hc,hgl',_⟩:=HR.out.1.at_ (j:=k) (u := .string t) (by rw [List.getElem?_map,htk];rfl)
    injection e with e1 e2 e3
    injection e1 with e1
    injection e1 with e1 e4 _
    subst e1 e4
    have y1:=(hup.cells _ _ hgl).trans hc
    have hri : ltS t s = true → jc5 (l.take (k + 1 + 1)):=fun h => jkQ hX.out.2 htk HSJ.out h
    have HRI:=Lib.hid hri
    have hj1 : (0 : Int) < (k : Int) + 1:=by omega
    rw [show ((k + 1 : Nat) : Int) = (k : Int) + 1 by omega] at *
    clear htk hc e2 e3 hri
    have hkk : Hid (Op.bytesLess s.toList t.toList = false ∧ (s.toList == t.toList) = false → ltS t s = true):=fun ⟨h1,h2⟩ => by
     cases hlt : ltS t s with
     | true => rfl
     | false =>
       have e:=ltS_tot.tri _ _ h1 hlt
       subst e
       simp at h2
    go_wp2_with (first | (go_at_call 74;refine (hNm.out _ (show Up w _ from uq)).mono ?_;(rintro e w2 ⟨⟨(_ | _),rfl,hk⟩,hu2⟩ <;> (have HK:=Lib.hid hk;have y1:=(hu2.cells _ _ yl).trans y1;clear hk))))
    ·go_ret
     exact ⟨⟨false,rfl,fun e => by cases e⟩,uq⟩
    ·go_ret
     exact ⟨⟨false,rfl,fun e => by cases e⟩,uq⟩
    ·rename_i hcd
     exact ⟨⟨k + 1 + 1,by omega,by simp,hnx.out (HK.out trivial) (HRI.out (hkk.out hcd)),uq⟩,by simp [intOf];omega⟩
  ·obtain rfl : j = l.length:=by omega
   go_wp2_with fail
   go_ret
   exact ⟨⟨true,rfl,fun _ => by have:=hX.out;rw [List.take_length] at this;exact this⟩,uq⟩
theorem jhf (N : Nat → Prop) (v : Value) (l : List Bool) (w : World) (hr : RowV N w v (l.map .bool)) :
  Calls Tryz.prog 100 #[v] w fun e w' => (∃ b,e = .returned (.bool b) ∧ (b = true → jbu l)) ∧ Up w w':=by
 obtain ⟨a,cap,rfl,hcap,hlen⟩:=hr.form
 rw [List.length_map] at hcap hlen ⊢
 have HR:=Lib.hid hr
 clear hr
 go_enter Tryz.func100,Tryz.ntmps100
 go_wp2_with fail
 go_loopw [6] (fun i wr => ∃ j : Nat,j ≤ l.length ∧ i = .int .i64 j ∧ Hid (jbu (l.take j)) ∧ Up w wr) (fun i _ => l.length - (intOf i).toNat)
 case atStart => exact ⟨0,Nat.zero_le _,rfl,List.Pairwise.nil,uq⟩
 case round =>
  obtain ⟨j,hj,rfl,hX,hup⟩:=hrel
  by_cases hlt : j < l.length
  ·have hji : (j : Int) < l.length:=by omega
   obtain ⟨s,hsj⟩ : ∃ s,l[j]? = some s:=⟨_,List.getElem?_eq_getElem hlt⟩
   obtain ⟨g,off,cap',e,hc,hgl,_⟩:=HR.out.at_ (j:=j) (u := .bool s) (by rw [List.getElem?_map,hsj];rfl)
   injection e with e1 e2 e3
   subst e1 e3
   have y0:=(hup.cells _ _ hgl).trans hc
   have yl:=Nat.lt_of_lt_of_le hgl hup.size
   have HSJ:=Lib.hid hsj
   clear hsj hc e2 hlt
   rcases Nat.eq_zero_or_pos j with rfl | hj0
   ·rw [show ((0 : Nat) : Int) = 0 from rfl]
    rw [Nat.add_zero] at y0
    have HRI : Hid (jbu (l.take (0 + 1))):=by
     unfold Hid
     rw [List.take_add_one,List.take_zero,HSJ.out]
     exact List.pairwise_singleton _ _
    go_wp2_with fail
    exact ⟨⟨1,by omega,rfl,HRI.out,uq⟩,by simp [intOf];omega⟩
   ·obtain ⟨k,rfl⟩ : ∃ k,j = k + 1:=⟨j - 1,by omega⟩
    obtain ⟨t,htk⟩ : ∃ t,l[k]? = some t:=⟨_,List.getElem?_eq_getElem (by omega)⟩
    obtain ⟨g',off',cap',e,hc,hgl',_⟩:=HR.out.at_ (j:=k) (u := .bool t) (by rw [List.getElem?_map,htk];rfl)
    injection e with e1 e2 e3
    injection e1 with e1
    injection e1 with e1 e4 _
    subst e1 e4
    have y1:=(hup.cells _ _ hgl).trans hc
    have HRI : Hid ((t = true → s = true) → jbu (l.take (k + 1 + 1))):=fun h => jmp hX.out htk HSJ.out h
    have hj1 : (0 : Int) < (k : Int) + 1:=by omega
    rw [show ((k + 1 : Nat) : Int) = (k : Int) + 1 by omega] at *
    clear htk hc e2 e3
    cases t <;> cases s
    all_goals (go_wp2_with fail)
    ·exact ⟨⟨k + 1 + 1,by omega,by simp,HRI.out (fun e => e),uq⟩,by simp [intOf];omega⟩
    ·exact ⟨⟨k + 1 + 1,by omega,by simp,HRI.out (fun _ => rfl),uq⟩,by simp [intOf];omega⟩
    ·go_ret
     exact ⟨.inl rfl,uq⟩
    ·exact ⟨⟨k + 1 + 1,by omega,by simp,HRI.out (fun e => e),uq⟩,by simp [intOf];omega⟩
  ·obtain rfl : j = l.length:=by omega
   go_wp2_with fail
   go_ret
   exact ⟨⟨true,rfl,fun _ => by have:=hX.out;rw [List.take_length] at this;exact this⟩,uq⟩
set_option linter.unusedVariables false
abbrev typV (k n : Int) (nm : ByteArray) (ids nv mv : Value) : Value := .agg #[.int .i64 k, .int .i64 n, .string nm,ids,nv,mv]
def MayR (t : Ty) (w : World) (e : Ending) (w' : World) : Prop:=(∃ b,e = .returned (.bool b) ∧ (b = true → t.Valid)) ∧ Up w w'
structure MayH (N M : Nat → Prop) (B : Nat) (nm : ByteArray) (nv mv pv : Value) (qs : List Nat) (ps : List Ty) (ns : List ByteArray) (ms : List Bool) (m : Int) (w : World) : Prop where
 row : RowOf TpT (fun _ => True) w pv (qs.map ptrV)
 len : qs.length = ps.length
 tys : ∀ (j q : Nat) (p : Ty),qs[j]? = some q → ps[j]? = some p → TyAt N B w q p
 val : ∀ p ∈ ps,p.Valid
 names : RowV M w nv (ns.map .string)
 marks : RowV M w mv (ms.map .bool)
 small : ∀ s ∈ ns,s.size ≤ 1000000000
 nm : nm.size ≤ 1000000000
 max : w.cell? ⟨0,0,none⟩ = some (.int .i64 m)
theorem RowOf.up {T : TypeId} {N : Nat → Prop} {w w' : World} {v : Value} {us : List Value} (h : RowOf T N w v us) (k : Up w w') : RowOf T N w' v us:=h.keep fun _ _ _ q1 q2 => ⟨q1,k.get q2⟩
theorem RowV.up {N : Nat → Prop} {w w' : World} {v : Value} {us : List Value} (h : RowV N w v us) (k : Up w w') : RowV N w' v us:=let ⟨T,h⟩:=h; ⟨T,h.up k⟩
section
variable {N M : Nat → Prop} {B : Nat} {nm : ByteArray} {nv mv pv : Value} {qs : List Nat} {ps : List Ty} {ns : List ByteArray} {ms : List Bool} {m : Int} {w w' : World}
theorem MayH.up (h : MayH N M B nm nv mv pv qs ps ns ms m w) (k : Up w w') : MayH N M B nm nv mv pv qs ps ns ms m w' :=
 ⟨h.row.up k,h.len,fun j q p h1 h2 => (h.tys j q p h1 h2).up k,h.val,h.names.up k,h.marks.up k,h.small,h.nm,(k.cells _ _ (jaj h.max)).trans h.max⟩
theorem MayH.good (h : MayH N M B nm nv mv pv qs ps ns ms m w) (W : World) (_ : Up w W) :
  Calls Tryz.prog 98 #[.string nm] W fun e w' => (∃ b,e = .returned (.bool b) ∧ (b = true → jeg nm)) ∧ Up W w':=jmH nm h.nm W
theorem MayH.name (h : MayH N M B nm nv mv pv qs ps ns ms m w) (W : World) (hu : Up w W) :
  Calls Tryz.prog 74 #[.string nm] W fun e w' => (∃ b,e = .returned (.bool b) ∧ (b = true → NameOk nm)) ∧ Up W w':=jjl nm h.nm m W (h.up hu).max
theorem MayH.named (h : MayH N M B nm nv mv pv qs ps ns ms m w) (W : World) (hu : Up w W) :
  Calls Tryz.prog 99 #[nv] W fun e w' => (∃ b,e = .returned (.bool b) ∧ (b = true → (∀ s ∈ ns,NameOk s) ∧ jc5 ns)) ∧ Up W w':=jl0 M nv ns W (h.up hu).names h.small m (h.up hu).max
theorem MayH.optional (h : MayH N M B nm nv mv pv qs ps ns ms m w) (W : World) (hu : Up w W) :
  Calls Tryz.prog 100 #[mv] W fun e w' => (∃ b,e = .returned (.bool b) ∧ (b = true → jbu ms)) ∧ Up W w':=jhf M mv ms W (h.up hu).marks
theorem jc2 {s : ByteArray} (h : s.toList = []) : s = ⟨#[]⟩:=toList_inj (by rw [h];simp [ByteArray.toList_eq])
theorem jbs (hN : (ns.length : Int) + ms.length = 0) : ns = [] ∧ ms = []:=⟨List.length_eq_zero_iff.1 (by omega),List.length_eq_zero_iff.1 (by omega)⟩
theorem MayH.nil (h : MayH N M B nm nv mv pv qs ps ns ms m w) (hq : qs.length = 0) : ps = []:=List.length_eq_zero_iff.1 (by rw [← h.len];exact hq)
theorem MayH.one (h : MayH N M B nm nv mv pv qs ps ns ms m w) (hq : qs.length = 1) : ∃ p,ps = [p]:=by
 have:=h.len
 exact List.length_eq_one_iff.1 (by omega)
theorem jks (h : MayH N M B nm nv mv pv qs ps ns ms m w) {n : Int} (hN : (ns.length : Int) + ms.length = 0) (hq : qs.length = 0) (ht : nm.toList = []) (h1 : -9007199254740991 ≤ n) (h2 : n ≤ 9007199254740991) : (Ty.mk 11 n nm ps ns ms).Valid:=by
 obtain ⟨rfl,rfl⟩:=jbs hN
 rw [h.nil hq,jc2 ht]
 exact .num h1 h2
theorem jkp (h : MayH N M B nm nv mv pv qs ps ns ms m w) (hN : (ns.length : Int) + ms.length = 0) (hq : qs.length = 0) (hg : jeg nm) : (Ty.mk 12 0 nm ps ns ms).Valid:=by
 obtain ⟨rfl,rfl⟩:=jbs hN
 rw [h.nil hq]
 exact .str hg
theorem jkt (h : MayH N M B nm nv mv pv qs ps ns ms m w) (hN : (ns.length : Int) + ms.length = 0) (hq : qs.length = 1) (ht : nm.toList = []) : (Ty.mk 13 0 nm ps ns ms).Valid:=by
 obtain ⟨rfl,rfl⟩:=jbs hN
 have hv:=h.val
 obtain ⟨p,rfl⟩:=h.one hq
 rw [jc2 ht]
 exact .arr (hv p (by simp))
theorem zip3 : ∀ (ns : List ByteArray) (ms : List Bool) (ps : List Ty),ns.length = ps.length → ms.length = ps.length → ((ns.zip (ms.zip ps)).map (·.2.2) = ps ∧ (ns.zip (ms.zip ps)).map (·.1) = ns ∧ (ns.zip (ms.zip ps)).map (·.2.1) = ms)
 | [],[],[],_,_ => ⟨rfl,rfl,rfl⟩
 | a :: ns,b :: ms,p :: ps,h1,h2 => by
   obtain ⟨q1,q2,q3⟩:=zip3 ns ms ps (by simpa using h1) (by simpa using h2)
   simp [q1,q2,q3]
 | [],_ :: _,[],_,h | [],[],_ :: _,h,_ | _ :: _,[],[],h,_ | [],_ :: _,_ :: _,h,_ | _ :: _,[],_ :: _,_,h | _ :: _,_ :: _,[],h,_ => by simp at h
theorem jkr (h : MayH N M B nm nv mv pv qs ps ns ms m w) (ht : nm.toList = []) (h1 : ns.length = qs.length) (h2 : ms.length = qs.length) (hk : (∀ s ∈ ns,NameOk s) ∧ jc5 ns) : (Ty.mk 14 0 nm ps ns ms).Valid:=by
 rw [jc2 ht]
 obtain ⟨q1,q2,q3⟩:=zip3 ns ms ps (by rw [h1,h.len]) (by rw [h2,h.len])
 have hb:=Ty.Valid.obj (ns.zip (ms.zip ps)) (fun x hx => hk.1 _ (by rw [← q2];exact List.mem_map_of_mem hx)) (by rw [q2];exact hk.2) (fun x hx => h.val _ (by
  have : x.2.2 ∈ (ns.zip (ms.zip ps)).map (·.2.2):=List.mem_map_of_mem (f:=fun x => x.2.2) hx
  rwa [q1] at this))
 rwa [q1,q2,q3] at hb
theorem jm0 (h : MayH N M B nm nv mv pv qs ps ns ms m w) (ht : nm.toList = []) (h0 : 0 < qs.length) (h1 : ns.length = 0) (h2 : (ms.length : Int) = (qs.length : Int) - 1) (hk : jbu ms) : (Ty.mk 15 0 nm ps ns ms).Valid:=by
 rw [jc2 ht,List.length_eq_zero_iff.1 h1]
 have hl:=h.len
 have hne : ps ≠ []:=fun e => by have q : qs.length = 0:=by { rw [hl,e];rfl };omega
 have hd : (ps.dropLast.zip ms).map (·.1) = ps.dropLast ∧ (ps.dropLast.zip ms).map (·.2) = ms:=by
  have e : ps.dropLast.length = ms.length:=by rw [List.length_dropLast, ← hl];omega
  exact ⟨List.map_fst_zip (by omega),List.map_snd_zip (by omega)⟩
 have hb:=Ty.Valid.fn (ps.dropLast.zip ms) (ps.getLast hne) (by rw [hd.2];exact hk) (fun x hx => h.val _ (List.dropLast_subset _ (by
  have : x.1 ∈ (ps.dropLast.zip ms).map (·.1):=List.mem_map_of_mem (f:=fun x => x.1) hx
  rwa [hd.1] at this))) (h.val _ (List.getLast_mem hne))
 rwa [hd.1,hd.2,List.dropLast_concat_getLast hne] at hb
theorem jhQ (h : MayH N M B nm nv mv pv qs ps ns ms m w) {k n : Int} (hk : k = 18 ∨ k = 19 ∨ k = 21 ∨ k = 22 ∨ k = 23) (hN : (ns.length : Int) + ms.length = 0) (hq : qs.length = 0) (h1 : 0 ≤ n) (h2 : n ≤ 9223372036854775807) (hg : NameOk nm) : (Ty.mk k n nm ps ns ms).Valid:=by
 obtain ⟨rfl,rfl⟩:=jbs hN
 rw [h.nil hq]
 exact .named hk h1 h2 hg
theorem jkq (h : MayH N M B nm nv mv pv qs ps ns ms m w) {n : Int} (hN : (ns.length : Int) + ms.length = 0) (h1 : 0 ≤ n) (h2 : n ≤ 9223372036854775807) (hg : NameOk nm) : (Ty.mk 17 n nm ps ns ms).Valid:=by
 obtain ⟨rfl,rfl⟩:=jbs hN
 exact .ref ps h1 h2 hg h.val
theorem jjp (h : MayH N M B nm nv mv pv qs ps ns ms m w) {n : Int} {p : Ty} (hN : (ns.length : Int) + ms.length = 0) (hp : ps = [p]) (hk : p.kind = 19) (h1 : 0 ≤ n) (h2 : n ≤ 9223372036854775807) (hg : NameOk nm) : (Ty.mk 20 n nm ps ns ms).Valid:=by
 obtain ⟨rfl,rfl⟩:=jbs hN
 have hv:=h.val
 subst hp
 have hv:=hv p (by simp)
 revert hk
 cases hv with
 | named hk' h1' h2' hn' =>
   intro hk
   simp only [Ty.kind] at hk
   subst hk
   exact .case h1 h2 hg h1' h2' hn'
 | basic => intro h;exact absurd h (by simp only [Ty.kind];omega)
 | num => intro h;exact absurd h (by simp only [Ty.kind];omega)
 | str => intro h;exact absurd h (by simp only [Ty.kind];omega)
 | arr => intro h;exact absurd h (by simp only [Ty.kind];omega)
 | obj => intro h;exact absurd h (by simp only [Ty.kind];omega)
 | fn => intro h;exact absurd h (by simp only [Ty.kind];omega)
 | un => intro h;exact absurd h (by simp only [Ty.kind];omega)
 | ref => intro h;exact absurd h (by simp only [Ty.kind];omega)
 | case => intro h;exact absurd h (by simp only [Ty.kind];omega)
theorem jhR (h : MayH N M B nm nv mv pv qs ps ns ms m w) {k : Int} (h1 : 1 ≤ k) (h2 : k ≤ 10) (hN : (ns.length : Int) + ms.length = 0) (hq : qs.length = 0) (ht : nm.toList = []) : (Ty.mk k 0 nm ps ns ms).Valid:=by
 obtain ⟨rfl,rfl⟩:=jbs hN
 rw [h.nil hq,jc2 ht]
 exact .basic h1 h2
end
theorem jlc {N : Nat → Prop} {B : Nat} {w : World} {b : Nat} {t : Ty} (h : TyAt N B w b t) : w.cell? ⟨b,0,none⟩ = some (.int .i64 t.kind):=by
 cases h with
 | mk said pv nv mv qs hB hh => exact ja1 hh 0
end Go.Proofs.YtiaepldmgighbaaGreatDoor
