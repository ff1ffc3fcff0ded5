import Derived.Lib.ItoaNum
import Derived.Lib.Join
import Derived.Test.YtiaepldmgighbaaGreatDoorU21
import Derived.Test.YtiaepldmgighbaaGreatDoorU01
namespace Go.Proofs.YtiaepldmgighbaaGreatDoor
open Go.RowKit
set_option linter.unusedSimpArgs false
theorem je4 (I : World → Prop) (g off n cap b : Nat) (S : Nat → Prop) (cf : Nat → Nat → Int) (ho : SortL.Swo (ltC cf)) (hI : Inv g I) (hC : Cmp I g b S cf) (hb : n ≤ 1000000) (hcap : n ≤ cap) : ∀ (N : Nat) (p q u v : List Nat) (w : World),u.length + v.length ≤ N → u ≠ [] → v ≠ [] → SortL.Sorted (ltC cf) u → SortL.Sorted (ltC cf) v → (∀ z ∈ u ++ v,S z) → RowAt w g off (p ++ u ++ v ++ q) → (p ++ u ++ v ++ q).length = n → I w → ∀ (a0 m0 e0 : Int),a0 = p.length → m0 = (p.length + u.length : Nat) → e0 = (p.length + u.length + v.length : Nat) →
   Calls Tryz.prog 196 #[.slice (some ⟨g,off,none⟩) n cap, .int .i64 a0, .int .i64 m0, .int .i64 e0,cmpV b] w (jeb I g off cf p (u ++ v) q):=by
 intro N
 induction N with
 | zero =>
   intro p q u v w hl hu0
   have:=List.length_pos_iff.2 hu0
   omega
 | succ N ih =>
   intro p q u v w hl hu0 hv0 hu hv hS h hn hi a0 m0 e0 ea em ee
   have hu1:=List.length_pos_iff.2 hu0
   have hv1:=List.length_pos_iff.2 hv0
   rcases Nat.lt_or_ge u.length 2 with h2 | h2
   ·obtain ⟨x,rfl⟩:=List.length_eq_one_iff.1 (show u.length = 1 by omega)
    exact jgd I g off n cap b S cf ho hI hC p q v x w hv (by simpa using hS) (by simpa using h) (by simpa using hn) hb hi a0 m0 e0 ea (by simpa using em) (by simpa using ee)
   ·rcases Nat.lt_or_ge v.length 2 with h3 | h3
    ·obtain ⟨y,rfl⟩:=List.length_eq_one_iff.1 (show v.length = 1 by omega)
     exact jfp I g off n cap b S cf ho hI hC p q u y w hu h2 hS (by simpa using h) (by simpa using hn) hb hi a0 m0 e0 ea em (by simpa using ee)
    ·exact jgT I g off n cap b S cf ho hI hC hb hcap p q u v w hu hv h2 h3 hS h hn hi (fun p q u' v' w hlt => ih p q u' v' w (by omega)) a0 m0 e0 ea em ee
theorem jd5 (v f : Value) (a e0 : Int) (w : World) (h : e0 ≤ a + 1) (hab : 0 ≤ a) (hb : a ≤ 1000000) :
  Calls Tryz.prog 195 #[v, .int .i64 a, .int .i64 e0,f] w fun e w' => e = .returned (.tuple #[]) ∧ w = w':=by
 have h1 : ¬ a + 1 < e0:=by omega
 go_enter Tryz.func195,Tryz.ntmps195
 go_wp2_with fail
 refine wp_loop_rounds 1 ?_
 rw [rounds_succ]
 go_wp2_with fail
 go_end0
 exact ⟨rfl,rfl⟩
def jow (I : World → Prop) (g off : Nat) (cf : Nat → Nat → Int) (s : Nat) (xs : List Nat) (bs : List (List Nat)) (w : World) : Prop :=
 SortL.Blocks s bs ∧ (∀ b ∈ bs,SortL.Sorted (ltC cf) b) ∧ bs.flatten.Perm xs ∧ RowAt w g off bs.flatten ∧ I w
theorem jb6 (bs : List (List Nat)) (z : List Nat) : (bs ++ [z]).flatten = bs.flatten ++ z:=by simp
set_option maxRecDepth 100000
set_option maxHeartbeats 12800000
theorem jjs (I : World → Prop) (g off n cap b : Nat) (S : Nat → Prop) (cf : Nat → Nat → Int) (ho : SortL.Swo (ltC cf)) (hI : Inv g I) (hC : Cmp I g b S cf) (hb : n ≤ 1000000) (hcap : n ≤ cap) (xs : List Nat) (w : World) (hS : ∀ z ∈ xs,S z) (h : RowAt w g off xs) (hn : xs.length = n) (hi : I w) :
  Calls Tryz.prog 173 #[.slice (some ⟨g,off,none⟩) n cap, .int .i64 n,cmpV b] w (jeb I g off cf [] xs []):=by
 have H:=Lib.hid (And.intro h (And.intro hI (And.intro hi (And.intro hC (And.intro ho (And.intro hS hn))))))
 have hni : (n : Int) ≤ 1000000:=by omega
 clear h hI hi hC ho hS hn
 go_enter Tryz.func173,Tryz.ntmps173
 go_wp2_with fail
 go_loopw [7,8] (fun av bv wr => ∃ (A B : Nat) (done : List (List Nat)) (raw : List Nat),av = .int .i64 A ∧ bv = .int .i64 B ∧ Hid (done.flatten.length = A ∧ A + 20 = B ∧ (∀ x ∈ done,x.length = 20) ∧ (∀ x ∈ done,SortL.Sorted (ltC cf) x) ∧ (done.flatten ++ raw).Perm xs) ∧ A ≤ n ∧ B = A + 20 ∧ RowAt wr g off (done.flatten ++ raw) ∧ I wr) (fun av _ _ => n - (intOf av).toNat)
 case atStart => exact ⟨0,20,[],xs,rfl,rfl,⟨rfl,rfl,by simp,by simp,by simp⟩,Nat.zero_le _,rfl,by simpa using H.out.1,H.out.2.2.1⟩
 case round =>
  obtain ⟨A,B,done,raw,rfl,rfl,hh,hA,hB,hrow,hIw⟩:=hrel
  have R:=Lib.hid (And.intro hrow hIw)
  have hlen : Hid (A + raw.length = n):=by
   have q1:=hh.out.2.2.2.2.length_eq
   have q2:=H.out.2.2.2.2.2.2
   have q3:=hh.out.1
   unfold Hid
   simp only [List.length_append] at q1
   omega
  have hSr : Hid (∀ z ∈ raw,S z):=fun z hz => H.out.2.2.2.2.2.1 z (hh.out.2.2.2.2.mem_iff.1 (by simp [hz]))
  clear hrow hIw
  by_cases hlt : A + 20 ≤ n
  ·have hle : (B : Int) ≤ n:=by omega
   obtain ⟨x0,u,hxu⟩ : ∃ x0 u,Hid (raw.take 20 = x0 :: u):=by
    cases hq : raw.take 20 with
    | nil =>
      have q:=congrArg List.length hq
      rw [List.length_take,List.length_nil] at q
      have:=hlen.out
      omega
    | cons x0 u => exact ⟨x0,u,rfl⟩
   obtain ⟨rest,hrs⟩ : ∃ rest,Hid (raw.drop 20 = rest):=⟨_,rfl⟩
   have hrr : Hid (raw = (x0 :: u) ++ rest):=by
    unfold Hid
    rw [← hxu.out, ← hrs.out,List.take_append_drop]
   have hul : Hid ((x0 :: u).length = 20):=by
    unfold Hid
    rw [← hxu.out,List.length_take]
    have:=hlen.out
    omega
   have hul2 : Hid (u.length = 19):=by have:=hul.out;unfold Hid;simpa using this
   have hBd:=Lib.hid hB
   clear hB hlt
   go_wp2_with fail
   refine (jdA I g off n cap b S cf H.out.2.2.2.2.1 H.out.2.1 H.out.2.2.2.1 done.flatten rest x0 u _ (fun z hz => hSr.out z (by rw [hrr.out];simp only [List.mem_append];exact .inl hz)) (by have:=R.out.1;rw [hrr.out] at this;simpa using this) (by have q1:=hlen.out;have q2:=hh.out.1;have q3:=congrArg List.length hrr.out;simp only [List.length_append] at q3 ⊢; omega) hcap hb R.out.2 _ _ (by rw [hh.out.1]) (by have:=hul2.out;have:=hh.out.1;have:=hBd.out;omega)).mono ?_
   rintro e w2 ⟨rfl,⟨z,hz1,hz2,hz3⟩,hi3⟩
   have T:=Lib.hid (And.intro hz1 (And.intro hz2 (And.intro hz3 hi3)))
   clear hz1 hz2 hz3 hi3
   have hzl : Hid (z.length = 20):=by have q1:=T.out.1.length_eq;have q2:=hul.out;unfold Hid;omega
   go_wp2_with fail
   go_roundw
   case rel =>
    refine ⟨B,B + 20,done ++ [z],rest,rfl,by simp,⟨?_,rfl,?_,?_,?_⟩,by omega,rfl,by rw [jb6];exact T.out.2.2.1,T.out.2.2.2⟩
    ·rw [jb6,List.length_append,hh.out.1,hzl.out];exact hBd.out.symm
    ·intro x hx
     rcases List.mem_append.1 hx with hx | hx
     ·exact hh.out.2.2.1 x hx
     ·simp at hx;subst hx;exact hzl.out
    ·intro x hx
     rcases List.mem_append.1 hx with hx | hx
     ·exact hh.out.2.2.2.1 x hx
     ·simp at hx;subst hx;exact T.out.2.1
    ·refine List.Perm.trans ?_ hh.out.2.2.2.2
     rw [jb6,hrr.out,List.append_assoc]
     exact List.Perm.append_left _ (List.Perm.append_right _ T.out.1)
   case measure => have:=hBd.out;simp [intOf] <;> omega
  ·have hle : ¬ (B : Int) ≤ n:=by omega
   have hrl : Hid (raw.length < 20):=by have:=hlen.out;unfold Hid;omega
   have hBd:=Lib.hid hB
   clear hB hlt
   rcases hraw : raw with _ | ⟨x0,u⟩
   all_goals
    have HR:=Lib.hid hraw
    clear hraw
    go_wp2_with fail
    first
    | (refine (jd5 _ _ _ _ _ (by have:=hlen.out;have:=congrArg List.length HR.out;simp only [List.length_nil] at this;omega) (by omega) (by omega)).mono ?_
       rintro e w2 ⟨rfl,rfl⟩
       have T : Hid (jow I g off cf 20 xs done wr):=by
        have q1:=R.out.1
        have q2:=hh.out.2.2.2.2
        rw [HR.out,List.append_nil] at q1 q2
        exact ⟨SortL.blocks_full (by omega) hh.out.2.2.1,hh.out.2.2.2.1,q2,q1,R.out.2⟩)
    | (refine (jdA I g off n cap b S cf H.out.2.2.2.2.1 H.out.2.1 H.out.2.2.2.1 done.flatten [] x0 u _ (fun z hz => hSr.out z (by rw [HR.out];exact hz)) (by have:=R.out.1;rw [HR.out] at this;simpa using this) (by have q1:=hlen.out;have q2:=hh.out.1;rw [HR.out] at q1;simp only [List.length_append,List.length_nil] at q1 ⊢; omega) hcap hb R.out.2 _ _ (by rw [hh.out.1]) (by have q1:=hlen.out;have q2:=hh.out.1;rw [HR.out,List.length_cons] at q1;omega)).mono ?_
       rintro e w2 ⟨rfl,⟨z,hz1,hz2,hz3⟩,hi3⟩
       have T : Hid (jow I g off cf 20 xs (done ++ [z]) w2):=by
        have q1:=hz1.length_eq
        have q2:=hrl.out
        rw [HR.out] at q2
        refine ⟨SortL.blocks_snoc (by rw [q1];simp) (by omega) hh.out.2.2.1,?_,?_,by rw [jb6];simpa using hz3,hi3⟩
        ·intro x hx
         rcases List.mem_append.1 hx with hx | hx
         ·exact hh.out.2.2.2.1 x hx
         ·simp at hx;subst hx;exact hz2
        ·refine List.Perm.trans ?_ hh.out.2.2.2.2
         rw [jb6,HR.out]
         exact List.Perm.append_left _ hz1
       clear hz1 hz2 hz3 hi3)
    go_wp2_with fail
    go_loopw [6,7,8,9] (fun sv _ _ _ wr => ∃ (s : Nat) (bs : List (List Nat)),sv = .int .i64 s ∧ 0 < s ∧ s ≤ 2000000 ∧ jow I g off cf s xs bs wr) (fun sv _ _ _ _ => n - (intOf sv).toNat)
    case atStart => exact ⟨20,_,rfl,by omega,by omega,T.out⟩
    case round =>
     obtain ⟨s,bs,rfl,hs0,hs1,hbk⟩:=hrel
     have K:=Lib.hid hbk
     have hbl : Hid (bs.flatten.length = n):=by have q1:=hbk.2.2.1.length_eq;have q2:=H.out.2.2.2.2.2.2;unfold Hid;omega
     clear hbk
     by_cases hsn : s < n
     ·have hsi : (s : Int) < n:=by omega
      clear hsn
      go_wp2_with fail
      go_loopw [7,8] (fun av bv wr => ∃ (A B : Nat) (dn rest : List (List Nat)),av = .int .i64 A ∧ bv = .int .i64 B ∧ A ≤ n ∧ B = A + 2 * s ∧ Hid (dn.flatten.length = A ∧ (∀ x ∈ dn,x.length = 2 * s) ∧ (∀ x ∈ dn,SortL.Sorted (ltC cf) x) ∧ SortL.Blocks s rest ∧ (∀ x ∈ rest,SortL.Sorted (ltC cf) x) ∧ (dn.flatten ++ rest.flatten).Perm xs) ∧ RowAt wr g off (dn.flatten ++ rest.flatten) ∧ I wr) (fun av _ _ => n - (intOf av).toNat)
      case atStart => exact ⟨0,2 * s,[],bs,rfl,by simp,Nat.zero_le _,by omega,⟨rfl,by simp,by simp,K.out.1,K.out.2.1,by simpa using K.out.2.2.1⟩,by simpa using K.out.2.2.2.1,K.out.2.2.2.2⟩
      case round =>
       obtain ⟨A',B',dn,rest,rfl,rfl,hA',hB',h3,hrow,hIw⟩:=hrel
       have R':=Lib.hid (And.intro hrow hIw)
       have hlen' : Hid (A' + rest.flatten.length = n):=by
        have q1:=h3.out.2.2.2.2.2.length_eq
        have q2:=H.out.2.2.2.2.2.2
        have q3:=h3.out.1
        unfold Hid
        rw [List.length_append] at q1
        omega
       have hSr' : Hid (∀ x ∈ rest,∀ z ∈ x,S z):=fun x hx z hz => H.out.2.2.2.2.2.1 z (h3.out.2.2.2.2.2.mem_iff.1 (by rw [List.mem_append];exact .inr (List.mem_flatten.2 ⟨x,hx,hz⟩)))
       have hBd':=Lib.hid hB'
       clear hrow hIw
       by_cases hlt : A' + 2 * s ≤ n
       ·have hle' : (B' : Int) ≤ n:=by omega
        obtain ⟨b1,b2,r,hr,l1,l2,hbr⟩:=SortL.blocks_two h3.out.2.2.2.1 (by have:=hlen'.out;omega) hs0
        have HX:=Lib.hid (And.intro hr (And.intro l1 (And.intro l2 hbr)))
        have hb1i : A' ≤ 1000000:=by omega
        have hb2i : B' ≤ 1000000:=by omega
        clear hr l1 l2 hbr hB' hlt
        go_wp2_with fail
        refine (je4 I g off n cap b S cf H.out.2.2.2.2.1 H.out.2.1 H.out.2.2.2.1 hb hcap (b1.length + b2.length) dn.flatten r.flatten b1 b2 _ (Nat.le_refl _) (List.length_pos_iff.1 (by have:=HX.out.2.1;omega)) (List.length_pos_iff.1 (by have:=HX.out.2.2.1;omega)) (h3.out.2.2.2.2.1 b1 (by rw [HX.out.1];simp)) (h3.out.2.2.2.2.1 b2 (by rw [HX.out.1];simp)) (fun z hz => by
         rcases List.mem_append.1 hz with hz | hz
         ·exact hSr'.out b1 (by rw [HX.out.1];simp) z hz
         ·exact hSr'.out b2 (by rw [HX.out.1];simp) z hz) (by have:=R'.out.1;rw [HX.out.1] at this;simpa using this) (by have q1:=hlen'.out;have q2:=h3.out.1;rw [HX.out.1] at q1;simp only [List.flatten_cons,List.length_append] at q1 ⊢; omega) R'.out.2 _ _ _ (by rw [h3.out.1]) (by have:=h3.out.1;have:=HX.out.2.1;omega) (by have:=h3.out.1;have:=HX.out.2;have:=hBd'.out;omega)).mono ?_
        rintro e w3 ⟨rfl,⟨z,hz1,hz2,hz3⟩,hi3⟩
        have T3:=Lib.hid (And.intro hz1 (And.intro hz2 (And.intro hz3 hi3)))
        have hzl : Hid (z.length = 2 * s):=by have q1:=hz1.length_eq;have q2:=HX.out;unfold Hid;rw [List.length_append] at q1;omega
        clear hz1 hz2 hz3 hi3
        go_wp2_with fail
        go_roundw
        case rel =>
         refine ⟨B',B' + 2 * s,dn ++ [z],r,rfl,by simp,by omega,rfl,⟨?_,?_,?_,HX.out.2.2.2,?_,?_⟩,by rw [jb6];exact T3.out.2.2.1,T3.out.2.2.2⟩
         ·rw [jb6,List.length_append,h3.out.1,hzl.out];exact hBd'.out.symm
         ·intro x hx
          rcases List.mem_append.1 hx with hx | hx
          ·exact h3.out.2.1 x hx
          ·simp at hx;subst hx;exact hzl.out
         ·intro x hx
          rcases List.mem_append.1 hx with hx | hx
          ·exact h3.out.2.2.1 x hx
          ·simp at hx;subst hx;exact T3.out.2.1
         ·exact fun x hx => h3.out.2.2.2.2.1 x (by rw [HX.out.1];simp [hx])
         ·refine List.Perm.trans ?_ h3.out.2.2.2.2.2
          rw [jb6,HX.out.1,List.flatten_cons,List.flatten_cons,List.append_assoc, ← List.append_assoc b1]
          exact List.Perm.append_left _ (List.Perm.append_right _ T3.out.1)
        case measure => have:=hBd'.out;simp [intOf] <;> omega
       ·have hle' : ¬ (B' : Int) ≤ n:=by omega
        have hb1i : A' ≤ 1000000:=by omega
        have hrl' : Hid (rest.flatten.length < 2 * s):=by have:=hlen'.out;unfold Hid;omega
        clear hB' hlt
        rcases SortL.blocks_less h3.out.2.2.2.1 hrl'.out with er | ⟨x,er,hx1,hx2⟩ | ⟨x,y,er,hx1,hy1,hy2⟩
        ·have hmn : ¬ (A' : Int) + s < n:=by have:=hlen'.out;rw [er] at this;simp at this;omega
         have ER:=Lib.hid er
         clear er
         go_wp2_with fail
         go_roundw
         case rel =>
          refine ⟨2 * s,dn,by simp [Int.mul_comm],by omega,by omega,SortL.blocks_full (by omega) h3.out.2.1,h3.out.2.2.1,?_,?_,R'.out.2⟩
          ·have:=h3.out.2.2.2.2.2;rw [ER.out] at this;simpa using this
          ·have:=R'.out.1;rw [ER.out] at this;simpa using this
         case measure => simp [intOf] <;> omega
        ·have hmn : ¬ (A' : Int) + s < n:=by have:=hlen'.out;rw [er] at this;simp at this;omega
         have ER:=Lib.hid (And.intro er (And.intro hx1 hx2))
         clear er hx1 hx2
         go_wp2_with fail
         go_roundw
         case rel =>
          refine ⟨2 * s,dn ++ [x],by simp [Int.mul_comm],by omega,by omega,SortL.blocks_snoc ER.out.2.1 (by have:=ER.out.2.2;omega) h3.out.2.1,?_,?_,?_,R'.out.2⟩
          ·intro z hz
           rcases List.mem_append.1 hz with hz | hz
           ·exact h3.out.2.2.1 z hz
           ·simp at hz;subst hz;exact h3.out.2.2.2.2.1 z (by rw [ER.out.1];simp)
          ·have:=h3.out.2.2.2.2.2;rw [ER.out.1] at this;simpa using this
          ·have:=R'.out.1;rw [ER.out.1] at this;simpa using this
         case measure => simp [intOf] <;> omega
        ·have hmn : (A' : Int) + s < n:=by have:=hlen'.out;rw [er] at this;simp at this;omega
         have ER:=Lib.hid (And.intro er (And.intro hx1 (And.intro hy1 hy2)))
         clear er hx1 hy1 hy2
         go_wp2_with fail
         refine (je4 I g off n cap b S cf H.out.2.2.2.2.1 H.out.2.1 H.out.2.2.2.1 hb hcap (x.length + y.length) dn.flatten [] x y _ (Nat.le_refl _) (List.length_pos_iff.1 (by have:=ER.out;omega)) (List.length_pos_iff.1 (by have:=ER.out;omega)) (h3.out.2.2.2.2.1 x (by rw [ER.out.1];simp)) (h3.out.2.2.2.2.1 y (by rw [ER.out.1];simp)) (fun z hz => by
          rcases List.mem_append.1 hz with hz | hz
          ·exact hSr'.out x (by rw [ER.out.1];simp) z hz
          ·exact hSr'.out y (by rw [ER.out.1];simp) z hz) (by have:=R'.out.1;rw [ER.out.1] at this;simpa using this) (by have q1:=hlen'.out;have q2:=h3.out.1;rw [ER.out.1] at q1;simp only [List.flatten_cons,List.flatten_nil,List.length_append,List.length_nil] at q1 ⊢; omega) R'.out.2 _ _ _ (by rw [h3.out.1]) (by have:=h3.out.1;have:=ER.out.2.1;omega) (by have q1:=hlen'.out;have q2:=h3.out.1;rw [ER.out.1] at q1;simp only [List.flatten_cons,List.flatten_nil,List.length_append,List.length_nil] at q1;omega)).mono ?_
         rintro e w3 ⟨rfl,⟨z,hz1,hz2,hz3⟩,hi3⟩
         have T3:=Lib.hid (And.intro hz1 (And.intro hz2 (And.intro hz3 hi3)))
         have hzl : Hid (0 < z.length ∧ z.length ≤ 2 * s):=by have q1:=hz1.length_eq;have q2:=ER.out;unfold Hid;rw [List.length_append] at q1;omega
         clear hz1 hz2 hz3 hi3
         go_wp2_with fail
         go_roundw
         case rel =>
          refine ⟨2 * s,dn ++ [z],by simp [Int.mul_comm],by omega,by omega,SortL.blocks_snoc hzl.out.1 hzl.out.2 h3.out.2.1,?_,?_,?_,T3.out.2.2.2⟩
          ·intro t ht
           rcases List.mem_append.1 ht with ht | ht
           ·exact h3.out.2.2.1 t ht
           ·simp at ht;subst ht;exact T3.out.2.1
          ·refine List.Perm.trans ?_ h3.out.2.2.2.2.2
           rw [jb6,ER.out.1,List.flatten_cons,List.flatten_cons,List.flatten_nil,List.append_nil]
           exact List.Perm.append_left _ T3.out.1
          ·rw [jb6];have:=T3.out.2.2.1;simpa using this
         case measure => simp [intOf] <;> omega
     ·have hsi : ¬ (s : Int) < n:=by omega
      clear hsn
      go_wp2_with fail
      go_end0
      rcases SortL.blocks_one K.out.1 (by have:=hbl.out;omega) with e | ⟨x,e⟩
      ·refine ⟨rfl,⟨[],?_,by simp,?_⟩,K.out.2.2.2.2⟩
       ·have:=K.out.2.2.1;rw [e] at this;simpa using this
       ·have:=K.out.2.2.2.1;rw [e] at this;simpa using this
      ·refine ⟨rfl,⟨x,?_,?_,?_⟩,K.out.2.2.2.2⟩
       ·have:=K.out.2.2.1;rw [e] at this;simpa using this
       ·exact K.out.2.1 x (by rw [e];simp)
       ·have:=K.out.2.2.2.1;rw [e] at this;simpa using this
theorem Inv.setCells {g : Nat} {I : World → Prop} (h : Inv g I) : ∀ (vs : List Value) (W : World) (i : Nat),I W → I (W.setCells g i vs)
 | [],_,_,hi => hi
 | v :: vs,W,i,hi => by rw [World.setCells];exact h.setCells vs _ _ (h.set _ _ _ hi)
structure EqC (I : World → Prop) (g b : Nat) (S : Nat → Prop) (eq : Nat → Nat → Bool) : Prop where
 run : ∀ (W : World) (x y : Nat),I W → S x → S y → Calls Tryz.prog 144 #[.pointer (some ⟨x,0,none⟩), .pointer (some ⟨y,0,none⟩), .pointer (some ⟨b,0,none⟩)] W fun e W' => e = .returned (.bool (eq x y)) ∧ I W' ∧ W'.heap[g]? = W.heap[g]?
theorem EqC.of {I : World → Prop} {g b : Nat} {S : Nat → Prop} {eq : Nat → Nat → Bool} (h : EqC I g b S eq) {cs : Array Value} (i : RowW I g cs) {x y : Nat} (hx : S x) (hy : S y) :
  Calls Tryz.prog 144 #[.pointer (some ⟨x,0,none⟩), .pointer (some ⟨y,0,none⟩), .pointer (some ⟨b,0,none⟩)] i.W fun e W' => e = .returned (.bool (eq x y)) ∧ ∃ j : RowW I g cs,W' = j.W :=
 (h.run i.W x y i.inv hx hy).mono fun _ W' ⟨h1,h2,h3⟩ => ⟨h1,⟨W',h2,h3.trans i.row⟩,rfl⟩
abbrev sameV (b : Nat) : Value := .func (.func sameF) #[] #[.pointer (some ⟨b,0,none⟩)]
theorem jfW {eq : Nat → Nat → Bool} : ∀ (l : List Nat) (p x : Nat),SortL.keepL eq p (l ++ [x]) = SortL.keepL eq p l ++ (if eq x (l.getLastD p) = true then [] else [x])
 | [],p,x => by cases hq : eq x p <;> simp [SortL.keepL,hq]
 | y :: r,p,x => by
   have ih:=jfW (eq:=eq) r y x
   rw [List.cons_append,SortL.keepL,SortL.keepL,ih,List.getLastD_cons]
   cases hq : eq y p <;> simp
theorem jgx {eq : Nat → Nat → Bool} {l : List Nat} {p x : Nat} (h : l.getLast? = some p) : SortL.compactL eq (l ++ [x]) = SortL.compactL eq l ++ (if eq x p = true then [] else [x]):=by
 cases l with
 | nil => simp at h
 | cons y r =>
   rw [List.cons_append,SortL.compactL,SortL.compactL,jfW]
   have e : r.getLastD y = p:=by
    rw [List.getLast?_cons] at h
    rw [List.getLastD_eq_getLast?]
    exact Option.some.inj h
   rw [e]
   rfl
theorem jkH {xs : List Nat} {k p : Nat} (hk : 0 < k) (h : xs[k - 1]? = some p) : (xs.take k).getLast? = some p:=by
 have hl:=(List.getElem?_eq_some_iff.1 h).1
 rw [List.getLast?_eq_getElem?,List.length_take,List.getElem?_take,if_pos (by omega)]
 have e : min k xs.length - 1 = k - 1:=by omega
 rw [e]
 exact h
theorem jea {eq : Nat → Nat → Bool} {xs : List Nat} {k p x : Nat} (hk : 0 < k) (hp : xs[k - 1]? = some p) (hx : xs[k]? = some x) : SortL.compactL eq (xs.take (k + 1)) = SortL.compactL eq (xs.take k) ++ (if eq x p = true then [] else [x]):=by
 rw [List.take_add_one,hx]
 exact jgx (jkH hk hp)
theorem jiv (I : World → Prop) (g off n cap b : Nat) (S : Nat → Prop) (eq : Nat → Nat → Bool) (hI : Inv g I) (hC : EqC I g b S eq) (hb : n ≤ 1000000) (hcap : n ≤ cap) (xs : List Nat) (w : World) (hS : ∀ z ∈ xs,S z) (h : RowAt w g off xs) (hn : xs.length = n) (hn0 : 0 < n) (hi : I w) :
  Calls Tryz.prog 143 #[.slice (some ⟨g,off,none⟩) n cap,sameV b] w fun e w' => e = .returned (.slice (some ⟨g,off,none⟩) (SortL.compactL eq xs).length cap) ∧ RowAt w' g off (SortL.compactL eq xs) ∧ I w':=by
 have H:=Lib.hid (And.intro h (And.intro hI (And.intro hi (And.intro hC (And.intro hS hn)))))
 have hni : (n : Int) ≤ 1000000:=by omega
 have hci : (n : Int) ≤ cap:=by omega
 clear h hI hi hC hS hn
 rcases Nat.lt_or_ge n 2 with h2 | h2
 ·have h2i : (n : Int) < 2:=by omega
  go_enter Tryz.func143,Tryz.ntmps143
  go_wp2_with fail
  obtain ⟨x,hx⟩:=List.length_eq_one_iff.1 (show xs.length = 1 by have:=H.out.2.2.2.2.2;omega)
  have e : SortL.compactL eq xs = xs:=by rw [hx];rfl
  rw [e]
  refine bodyPost_ret (v := .slice (some ⟨g,off,none⟩) n cap) (by simp [results,Tryz.results143,go_sem]) rfl ?_
  exact ⟨by rw [H.out.2.2.2.2.2],H.out.1,H.out.2.2.1⟩
 have h2i : ¬ (n : Int) < 2:=by omega
 go_enter Tryz.func143,Tryz.ntmps143
 go_wp2_with fail
 go_loopw [5] (fun kv wr => ∃ k : Nat,kv = .int .i64 ((k : Int) + 1) ∧ k + 1 ≤ n ∧ Hid (SortL.compactL eq (xs.take (k + 1)) = xs.take (k + 1)) ∧ RowAt wr g off xs ∧ I wr) (fun kv _ => n - (intOf kv).toNat)
 case atStart =>
  refine ⟨0,rfl,hn0,?_,H.out.1,H.out.2.2.1⟩
  unfold Hid
  cases hx : xs with
  | nil => rfl
  | cons x r => rfl
 case round =>
  obtain ⟨k,rfl,hk,hh,hrow,hIw⟩:=hrel
  have R:=Lib.hid (And.intro hrow hIw)
  by_cases hlt : k + 1 < n
  ·have hki : (k : Int) + 1 < n:=by omega
   obtain ⟨p,hp⟩ : ∃ p,xs[k]? = some p:=⟨_,List.getElem?_eq_getElem (by have:=H.out.2.2.2.2.2;omega)⟩
   obtain ⟨x,hx⟩ : ∃ x,xs[k + 1]? = some x:=⟨_,List.getElem?_eq_getElem (by have:=H.out.2.2.2.2.2;omega)⟩
   have hsp:=H.out.2.2.2.2.1 p (List.mem_of_getElem? hp)
   have hsx:=H.out.2.2.2.2.1 x (List.mem_of_getElem? hx)
   have hct : Hid (SortL.compactL eq (xs.take (k + 2)) = SortL.compactL eq (xs.take (k + 1)) ++ (if eq x p = true then [] else [x])):=jea (by omega) (by simpa using hp) hx
   have R1:=Lib.hid (And.intro hsp (And.intro hsx (And.intro hp hx)))
   obtain ⟨cs,hcs,hcv⟩:=hrow
   have hId:=H.out.2.1.drew _ hIw
   have q0 : ∀ i : RowW I g cs,i.W.cell? ⟨g,off + k,none⟩ = some (.pointer (some ⟨p,0,none⟩)):=fun i => RowW.cell hcv hp i
   have q1 : ∀ i : RowW I g cs,i.W.cell? ⟨g,off + (k + 1),none⟩ = some (.pointer (some ⟨x,0,none⟩)):=fun i => RowW.cell hcv hx i
   have t1 : ((k : Int) + 1).toNat = k + 1:=by omega
   have l1 : (0 : Int) ≤ (k : Int) + 1:=by omega
   have l2 : (k : Int) < n:=by omega
   have HC:=Lib.hid hcs
   have hw0 : IntKind.i64.wrap (k : Int) = k:=IntWalk.i64_in _ (by omega)
   clear hIw hcv hp hx hsp hsx hlt
   go_wp2_with fail
   haveI : Nonempty (RowW I g cs):=⟨⟨_,hId,hcs⟩⟩
   refine jay I g cs (by kernel_rfl) (by kernel_rfl) hId hcs ?_
   repeat (go_big_quiet_step ((go_at_call 144;rename_i i;exact H.out.2.2.2.1.of i R1.out.2.1 R1.out.1)))
   refine wpQuiet_nil ?_
   intro w2 hw'
   obtain ⟨i2,hw''⟩:=hw'
   have hi2 : I w2:=hw'' ▸ i2.inv
   have hr2 : w2.heap[g]? = some (.cells cs TpT (0,0)):=hw'' ▸ i2.row
   clear hw''
   have R2 : Hid (RowAt w2 g off xs ∧ I w2):=⟨R.out.1.keep (hr2.trans HC.out.symm),hi2⟩
   clear hcs hId q0 q1 hr2 hi2 i2 hw0
   cases hq : eq x p with
   | false =>
     have HQ : Hid (eq x p = false):=hq
     clear hq
     go_wp2_with fail
     go_roundw
     case rel =>
      refine ⟨k + 1,by simp,by omega,?_,R2.out⟩
      unfold Hid
      rw [hct.out,HQ.out,hh.out,List.take_add_one (i:=k + 1),R1.out.2.2.2]
      rfl
     case measure => simp [intOf] <;> omega
   | true =>
     have HQ : Hid (eq x p = true):=hq
     clear hq
     go_wp2_with fail
     go_loopw [5,7] (fun kv jv wr => ∃ (kw j : Nat),kv = .int .i64 kw ∧ jv = .int .i64 ((j : Int) + 1) ∧ k + j + 2 ≤ n ∧ kw ≤ k + j + 1 ∧ Hid ((SortL.compactL eq (xs.take (k + j + 2))).length = kw) ∧ RowAt wr g off (SortL.compactL eq (xs.take (k + j + 2)) ++ xs.drop kw) ∧ I wr) (fun _ jv _ => n - (intOf jv).toNat)
     case atStart =>
      have e : SortL.compactL eq (xs.take (k + 2)) = xs.take (k + 1):=by rw [hct.out,HQ.out,hh.out,if_pos rfl,List.append_nil]
      refine ⟨k + 1,0,by simp,rfl,by omega,by omega,?_,?_,R2.out.2⟩
      ·unfold Hid
       rw [Nat.add_zero,e,List.length_take]
       have:=H.out.2.2.2.2.2
       omega
      ·rw [Nat.add_zero,e,List.take_append_drop]
       exact R2.out.1
     case round =>
      obtain ⟨kw,j,rfl,rfl,hj,hkw,hl2,hrow,hIw⟩:=hrel
      have R3:=Lib.hid (And.intro hrow hIw)
      by_cases hlt : k + j + 2 < n
      ·have hji : (j : Int) + 1 < ((n - (k + 1) : Nat) : Int):=by omega
       obtain ⟨p',hp⟩ : ∃ p,xs[k + j + 1]? = some p:=⟨_,List.getElem?_eq_getElem (by have:=H.out.2.2.2.2.2;omega)⟩
       obtain ⟨x',hx⟩ : ∃ x,xs[k + j + 2]? = some x:=⟨_,List.getElem?_eq_getElem (by have:=H.out.2.2.2.2.2;omega)⟩
       have hsp:=H.out.2.2.2.2.1 p' (List.mem_of_getElem? hp)
       have hsx:=H.out.2.2.2.2.1 x' (List.mem_of_getElem? hx)
       have hct2 : Hid (SortL.compactL eq (xs.take (k + j + 3)) = SortL.compactL eq (xs.take (k + j + 2)) ++ (if eq x' p' = true then [] else [x'])):=jea (k:=k + j + 2) (by omega) (by simpa using hp) hx
       have hrp : (SortL.compactL eq (xs.take (k + j + 2)) ++ xs.drop kw)[k + j + 1]? = some p':=by
        rw [List.getElem?_append_right (by rw [hl2.out];exact hkw),hl2.out,List.getElem?_drop]
        have e : kw + (k + j + 1 - kw) = k + j + 1:=by omega
        rw [e];exact hp
       have hrx : (SortL.compactL eq (xs.take (k + j + 2)) ++ xs.drop kw)[k + j + 2]? = some x':=by
        rw [List.getElem?_append_right (by rw [hl2.out];omega),hl2.out,List.getElem?_drop]
        have e : kw + (k + j + 2 - kw) = k + j + 2:=by omega
        rw [e];exact hx
       have R4:=Lib.hid (And.intro hsp (And.intro hsx (And.intro hp hx)))
       obtain ⟨cs,hcs,hcv⟩:=hrow
       have hId:=H.out.2.1.drew _ hIw
       have q0 : ∀ i : RowW I g cs,i.W.cell? ⟨g,off + (k + 1) + j,none⟩ = some (.pointer (some ⟨p',0,none⟩)):=fun i => by
        have:=RowW.cell hcv hrp i
        have e : off + (k + 1) + j = off + (k + j + 1):=by omega
        rw [e];exact this
       have q1 : ∀ i : RowW I g cs,i.W.cell? ⟨g,off + (k + 1) + (j + 1),none⟩ = some (.pointer (some ⟨x',0,none⟩)):=fun i => by
        have:=RowW.cell hcv hrx i
        have e : off + (k + 1) + (j + 1) = off + (k + j + 2):=by omega
        rw [e];exact this
       have t1 : ((j : Int) + 1).toNat = j + 1:=by omega
       have l1 : (0 : Int) ≤ (j : Int) + 1:=by omega
       have l2 : (j : Int) < ((n - (k + 1) : Nat) : Int):=by omega
       have l3 : (j : Int) + 1 ≤ 1000000:=by omega
       have HC:=Lib.hid hcs
       have hw0 : IntKind.i64.wrap (j : Int) = j:=IntWalk.i64_in _ (by omega)
       have HLT : Hid (k + j + 2 < n ∧ (j : Int) + 1 < ((n - (k + 1) : Nat) : Int) ∧ kw < n):=⟨hlt,hji,by omega⟩
       clear hIw hcv hp hx hsp hsx hrp hrx hlt
       go_wp2_with fail
       haveI : Nonempty (RowW I g cs):=⟨⟨_,hId,hcs⟩⟩
       refine jay I g cs (by kernel_rfl) (by kernel_rfl) hId hcs ?_
       repeat (go_big_quiet_step ((go_at_call 144;rename_i i;exact H.out.2.2.2.1.of i R4.out.2.1 R4.out.1)))
       refine wpQuiet_nil ?_
       intro w3 hw'
       obtain ⟨i2,hw''⟩:=hw'
       have hi2 : I w3:=hw'' ▸ i2.inv
       have hr2 : w3.heap[g]? = some (.cells cs TpT (0,0)):=hw'' ▸ i2.row
       clear hw''
       have R5 : Hid (RowAt w3 g off (SortL.compactL eq (xs.take (k + j + 2)) ++ xs.drop kw) ∧ I w3):=⟨R3.out.1.keep (hr2.trans HC.out.symm),hi2⟩
       clear hcs hId q0 q1 hr2 hi2 i2 hw0 t1 hji l2
       have hjb : (j : Int) ≤ 1000000:=by omega
       clear l3 l1
       cases hq2 : eq x' p' with
       | true =>
         have HQ2 : Hid (eq x' p' = true):=hq2
         clear hq2
         have e : Hid (SortL.compactL eq (xs.take (k + j + 3)) = SortL.compactL eq (xs.take (k + j + 2))):=by
          unfold Hid
          rw [hct2.out,HQ2.out,if_pos rfl,List.append_nil]
         go_wp2_with fail
         go_roundw
         case rel =>
          refine ⟨kw,j + 1,rfl,by simp,by have:=HLT.out;omega,by omega,?_,?_,R5.out.2⟩
          ·have:=e.out;unfold Hid;rw [show k + (j + 1) + 2 = k + j + 3 by omega,this];exact hl2.out
          ·have:=e.out;rw [show k + (j + 1) + 2 = k + j + 3 by omega,this];exact R5.out.1
         case measure => simp [intOf] <;> omega
       | false =>
         have HQ2 : Hid (eq x' p' = false):=hq2
         clear hq2
         have e : Hid (SortL.compactL eq (xs.take (k + j + 3)) = SortL.compactL eq (xs.take (k + j + 2)) ++ [x']):=by
          unfold Hid
          rw [hct2.out,HQ2.out]
          rfl
         obtain ⟨t,ht⟩ : ∃ t,xs[kw]? = some t:=⟨_,List.getElem?_eq_getElem (by have:=H.out.2.2.2.2.2;have:=HLT.out.2.2;omega)⟩
         have ht2 : Hid (xs.drop kw = t :: xs.drop (kw + 1)):=by unfold Hid;rw [List.drop_eq_getElem_cons (List.getElem?_eq_some_iff.1 ht).1,(List.getElem?_eq_some_iff.1 ht).2]
         have c0:=R5.out.1.cell (j:=kw) (x:=t) (by rw [List.getElem?_append_right (by rw [hl2.out];exact Nat.le_refl _),hl2.out,Nat.sub_self,ht2.out];rfl)
         have c1:=R5.out.1.cell (j:=k + j + 2) (x:=x') (by
          rw [List.getElem?_append_right (by rw [hl2.out];omega),hl2.out,List.getElem?_drop]
          have e : kw + (k + j + 2 - kw) = k + j + 2:=by omega
          rw [e];exact R4.out.2.2.2)
         have c2 : w3.cell? ⟨g,off + (k + 1) + (j + 1),none⟩ = some (.pointer (some ⟨x',0,none⟩)):=by
          have e : off + (k + 1) + (j + 1) = off + (k + j + 2):=by omega
          rw [e];exact c1
         have f0:=R5.out.1.ice (off + kw)
         have gl:=R5.out.1.lt
         have hR6 : Hid (RowAt (w3.setCell ⟨g,off + kw,none⟩ (pv x')) g off (SortL.compactL eq (xs.take (k + j + 3)) ++ xs.drop (kw + 1))):=by
          have q:=R5.out.1.set (j:=kw) x' (by rw [List.length_append,hl2.out,ht2.out];simp)
          rw [List.set_append_right _ _ (by rw [hl2.out];exact Nat.le_refl _),hl2.out,Nat.sub_self,ht2.out,List.set_cons_zero] at q
          unfold Hid
          rw [e.out,List.append_assoc]
          exact q
         have hI6 : Hid (I (w3.setCell ⟨g,off + kw,none⟩ (pv x'))):=H.out.2.1.set _ _ _ R5.out.2
         have l4 : (kw : Int) < n:=by have:=HLT.out.2.2;omega
         clear c1 ht
         have hji:=HLT.out.2.1
         have t1 : ((j : Int) + 1).toNat = j + 1:=by omega
         have l1 : (0 : Int) ≤ (j : Int) + 1:=by omega
         go_wp2_with fail
         go_roundw
         case rel =>
          refine ⟨kw + 1,j + 1,by simp,by simp,by have:=HLT.out;omega,by omega,?_,?_,hI6.out⟩
          ·have:=e.out;unfold Hid;rw [show k + (j + 1) + 2 = k + j + 3 by omega,this,List.length_append,hl2.out];rfl
          ·rw [show k + (j + 1) + 2 = k + j + 3 by omega];exact hR6.out
         case measure => simp [intOf] <;> omega
      ·have hji : ¬ (j : Int) + 1 < ((n - (k + 1) : Nat) : Int):=by omega
       have hkn : kw < n:=by omega
       have hkn2 : (kw : Int) ≤ n:=by omega
       have hkn3 : (kw : Int) < n:=by omega
       have hkc : (kw : Int) ≤ cap:=by omega
       have hend : Hid (SortL.compactL eq (xs.take (k + j + 2)) = SortL.compactL eq xs):=by
        unfold Hid
        rw [List.take_of_length_le (by have:=H.out.2.2.2.2.2;omega)]
       obtain ⟨cs,hcs,hcv⟩:=hrow
       have hsz : ∀ t,t < n - kw → off + (kw + t) < cs.size:=fun t ht => by
        have h1 : kw + t < (SortL.compactL eq (xs.take (k + j + 2)) ++ xs.drop kw).length:=by
         rw [List.length_append,hl2.out,List.length_drop]
         have:=H.out.2.2.2.2.2
         omega
        have:=hcv (kw + t) _ (List.getElem?_eq_getElem h1)
        exact (Array.getElem?_eq_some_iff.1 this).1
       have hcl : ∀ ty,(Builtin.clear_ #[99] ty #[.slice (some ⟨g,off + kw,none⟩) (n - kw) (cap - kw)]).run Tryz.prog wr = .ok (.tuple #[]) (wr.setCells g (off + kw) (List.replicate (n - kw) (.pointer none))) :=
        fun ty => Lib.run_clear_slice wr _ _ ty _ Tryz.underlying99 (fun _ => by kernel_rfl) rfl rfl g (off + kw) _ _ (by omega) (fun t ht => by
         rw [ja1 hcs,Array.getElem?_eq_getElem (by have:=hsz t ht;omega)];rfl) (fun t ht => jab hcs _)
       obtain ⟨cs2,hb1,hb2,hb3⟩:=jd3 (i:=off + kw) (List.replicate (n - kw) (.pointer none)) hcs
       have HE:=Lib.hid (And.intro hb1 (And.intro hb2 (And.intro hb3 hcv)))
       clear hIw hcs hcv hsz hb1 hb2 hb3 hlt
       go_wp2_with fail
       refine bodyPost_ret (v := .slice (some ⟨g,off,none⟩) kw cap) (by simp [results,Tryz.results143,go_sem]) rfl ?_
       refine ⟨by rw [← hend.out,hl2.out],⟨cs2,HE.out.1,fun t y hy => ?_⟩,H.out.2.1.setCells _ _ _ R3.out.2⟩
       rw [← hend.out] at hy
       have ht:=(List.getElem?_eq_some_iff.1 hy).1
       rw [hl2.out] at ht
       rw [HE.out.2.2.1 (off + t) (by omega)]
       exact HE.out.2.2.2 t y (by rw [List.getElem?_append_left (by rw [hl2.out];exact ht)];exact hy)
  ·have hki : ¬ (k : Int) + 1 < n:=by omega
   clear hrow hIw
   go_wp2_with fail
   have e : SortL.compactL eq xs = xs:=by
    have q:=hh.out
    rw [List.take_of_length_le (by have:=H.out.2.2.2.2.2;omega)] at q
    exact q
   rw [e]
   refine bodyPost_ret (v := .slice (some ⟨g,off,none⟩) n cap) (by simp [results,Tryz.results143,go_sem]) rfl ?_
   exact ⟨by rw [H.out.2.2.2.2.2],R.out.1,R.out.2⟩
theorem jjh : ∀ a b : List UInt8,Op.bytesLess a b = true → Op.bytesLess b a = false
 | _,[],h => by cases ‹List UInt8› <;> simp [Op.bytesLess] at h
 | [],b :: y,_ => by simp [Op.bytesLess]
 | a :: x,b :: y,h => by
   have ih:=jjh x y
   simp only [Op.bytesLess,Bool.or_eq_true,Bool.and_eq_true,decide_eq_true_eq,beq_iff_eq,Bool.or_eq_false_iff,decide_eq_false_iff_not,Bool.and_eq_false_imp] at h ⊢
   rcases h with h | ⟨rfl,h⟩
   ·rw [UInt8.lt_iff_toNat_lt] at h ⊢
    refine ⟨by omega,fun e => ?_⟩
    subst e
    omega
   ·refine ⟨?_,fun _ => ih h⟩
    rw [UInt8.lt_iff_toNat_lt]
    omega
theorem jnu : ∀ a b c : List UInt8,Op.bytesLess a c = true → Op.bytesLess a b = true ∨ Op.bytesLess b c = true
 | _,_,[],h => by cases ‹List UInt8› <;> simp [Op.bytesLess] at h
 | [],[],z :: c,_ => .inr (by simp [Op.bytesLess])
 | [],y :: b,z :: c,_ => .inl (by simp [Op.bytesLess])
 | x :: a,[],z :: c,_ => .inr (by simp [Op.bytesLess])
 | x :: a,y :: b,z :: c,h => by
   have ih:=jnu a b c
   simp only [Op.bytesLess,Bool.or_eq_true,Bool.and_eq_true,decide_eq_true_eq,beq_iff_eq] at h ⊢
   rcases h with h | ⟨rfl,h⟩
   ·rw [UInt8.lt_iff_toNat_lt] at h
    rcases Nat.lt_trichotomy x.toNat y.toNat with q | q | q
    ·exact .inl (.inl (UInt8.lt_iff_toNat_lt.2 q))
    ·exact .inr (.inl (UInt8.lt_iff_toNat_lt.2 (by omega)))
    ·exact .inr (.inl (UInt8.lt_iff_toNat_lt.2 (by omega)))
   ·rcases Nat.lt_trichotomy x.toNat y.toNat with q | q | q
    ·exact .inl (.inl (UInt8.lt_iff_toNat_lt.2 q))
    ·have e : x = y:=UInt8.toNat_inj.1 q
     rcases ih h with k | k
     ·exact .inl (.inr ⟨e,k⟩)
     ·exact .inr (.inr ⟨e.symm,k⟩)
    ·exact .inr (.inl (UInt8.lt_iff_toNat_lt.2 q))
theorem jnt : ∀ a b : List UInt8,Op.bytesLess a b = false → Op.bytesLess b a = false → a = b
 | [],[],_,_ => rfl
 | [],b :: y,h,_ => by simp [Op.bytesLess] at h
 | a :: x,[],_,h => by simp [Op.bytesLess] at h
 | a :: x,b :: y,h1,h2 => by
   have ih:=jnt x y
   simp only [Op.bytesLess,Bool.or_eq_false_iff,decide_eq_false_iff_not,Bool.and_eq_false_imp,beq_iff_eq] at h1 h2
   rw [UInt8.lt_iff_toNat_lt] at h1 h2
   have e : a = b:=UInt8.toNat_inj.1 (by omega)
   subst e
   rw [ih (h1.2 rfl) (h2.2 rfl)]
theorem toList_inj {a b : ByteArray} (h : a.toList = b.toList) : a = b:=by
 rw [ByteArray.toList_eq,ByteArray.toList_eq] at h
 cases a;cases b
 simp only [ByteArray.mk.injEq]
 exact Array.toList_inj.1 h
abbrev ltS (a b : ByteArray) : Bool:=Op.bytesLess a.toList b.toList
theorem ltS_tot : SortL.Tot ltS where
 asymm _ _ h:=jjh _ _ h
 neg _ b _ h:=jnu _ b.toList _ h
 tri _ _ h1 h2:=toList_inj (jnt _ _ h1 h2)
theorem jon (a b : ByteArray) : decide (cmpS a b < 0) = ltS a b:=by
 unfold cmpS ltS
 cases h : Op.bytesLess a.toList b.toList with
 | true => rfl
 | false =>
   by_cases h2 : (a.toList == b.toList) = true
   ·simp [h2]
   ·simp [h2]
abbrev cfK (key : Nat → ByteArray) (x y : Nat) : Int:=cmpS (key x) (key y)
theorem jnp (key : Nat → ByteArray) : ltC (cfK key) = fun x y => ltS (key x) (key y):=by
 funext x y
 exact jon _ _
theorem joo (key : Nat → ByteArray) : SortL.Swo (ltC (cfK key)):=by
 rw [jnp]
 exact ⟨fun a b h => ltS_tot.asymm _ _ h,fun a b c h => ltS_tot.neg _ _ _ h⟩
theorem eqK (a b : ByteArray) : (a.toList == b.toList) = decide (a = b):=by
 by_cases h : a = b
 ·subst h;simp
 ·rw [decide_eq_false h]
  simp only [beq_eq_false_iff_ne,ne_eq]
  exact fun e => h (toList_inj e)
structure Keys (I : World → Prop) (g b : Nat) (S : Nat → Prop) (key : Nat → ByteArray) : Prop extends Inv g I where
 up : ∀ W W',I W → Up W W' → I W'
 box : ∀ W,I W → W.cell? ⟨b,0,none⟩ = some (.func (.func byF) #[] #[])
 lt : ∀ W,I W → g < W.heap.size
 by_ : ∀ (W : World) (x : Nat),I W → S x → Calls Tryz.prog 95 #[.pointer (some ⟨x,0,none⟩)] W fun e W' => e = .returned (.string (key x)) ∧ I W' ∧ W'.heap[g]? = W.heap[g]?
theorem Keys.of {I : World → Prop} {g b : Nat} {S : Nat → Prop} {key : Nat → ByteArray} (h : Keys I g b S key) {cs : Array Value} (i : RowW I g cs) {x : Nat} (hx : S x) :
  Calls Tryz.prog 95 #[.pointer (some ⟨x,0,none⟩)] i.W fun e W' => e = .returned (.string (key x)) ∧ ∃ j : RowW I g cs,W' = j.W :=
 (h.by_ i.W x i.inv hx).mono fun _ W' ⟨h1,h2,h3⟩ => ⟨h1,⟨W',h2,h3.trans i.row⟩,rfl⟩
theorem Keys.cmp {I : World → Prop} {g b : Nat} {S : Nat → Prop} {key : Nat → ByteArray} (h : Keys I g b S key) {cs : Array Value} (i : RowW I g cs) (s t : ByteArray) :
  Calls Tryz.prog 118 #[.string s, .string t] i.W fun e W' => e = .returned (.int .i64 (cmpS s t)) ∧ ∃ j : RowW I g cs,W' = j.W :=
 (jiu s t i.W).mono fun _ W' ⟨h1,h2⟩ => ⟨h1,⟨W',h.up _ _ i.inv h2,h2.get i.row⟩,rfl⟩
theorem jmu {I : World → Prop} {g b : Nat} {S : Nat → Prop} {key : Nat → ByteArray} (h : Keys I g b S key) (hr : ∀ W,I W → ∃ cs,W.heap[g]? = some (.cells cs TpT (0,0))) : Cmp I g b S (cfK key) where
 run W x y hi hx hy:=by
  obtain ⟨cs,hcs⟩:=hr W hi
  have b0:=h.box W hi
  have bl:=jcX b0
  have HC:=Lib.hid hcs
  have hId:=h.drew _ hi
  have q0 : ∀ i : RowW I g cs,i.W.cell? ⟨b,0,none⟩ = some (.func (.func byF) #[] #[]):=fun i => h.box _ i.inv
  clear b0 hi
  go_enter Tryz.func142,Tryz.ntmps142
  go_wp2_with fail
  haveI : Nonempty (RowW I g cs):=⟨⟨_,hId,hcs⟩⟩
  refine jay I g cs (by kernel_rfl) (by kernel_rfl) hId hcs ?_
  repeat (go_big_quiet_step ((first | (go_at_call 95;rename_i i;first | exact h.of i hx | exact h.of i hy) | (go_at_call 118;rename_i i;exact h.cmp i _ _))))
  refine wpQuiet_nil ?_
  intro w2 hw'
  obtain ⟨i2,hw''⟩:=hw'
  have hi2 : I w2:=hw'' ▸ i2.inv
  have hr2 : w2.heap[g]? = some (.cells cs TpT (0,0)):=hw'' ▸ i2.row
  clear hw''
  have R2:=Lib.hid (And.intro hi2 hr2)
  clear hcs hId q0 hr2 hi2 i2
  go_wp2_with fail
  go_ret
  exact ⟨rfl,R2.out.1,R2.out.2.trans HC.out.symm⟩
theorem jm8 {I : World → Prop} {g b : Nat} {S : Nat → Prop} {key : Nat → ByteArray} (h : Keys I g b S key) (hr : ∀ W,I W → ∃ cs,W.heap[g]? = some (.cells cs TpT (0,0))) : EqC I g b S (fun x y => decide (key x = key y)) where
 run W x y hi hx hy:=by
  obtain ⟨cs,hcs⟩:=hr W hi
  have b0:=h.box W hi
  have bl:=jcX b0
  have HC:=Lib.hid hcs
  have hId:=h.drew _ hi
  have q0 : ∀ i : RowW I g cs,i.W.cell? ⟨b,0,none⟩ = some (.func (.func byF) #[] #[]):=fun i => h.box _ i.inv
  clear b0 hi
  show Calls Tryz.prog 144 #[.pointer (some ⟨x,0,none⟩), .pointer (some ⟨y,0,none⟩), .pointer (some ⟨b,0,none⟩)] W fun e W' => e = .returned (.bool (decide (key x = key y))) ∧ I W' ∧ W'.heap[g]? = W.heap[g]?
  rw [← eqK]
  go_enter Tryz.func144,Tryz.ntmps144
  go_wp2_with fail
  haveI : Nonempty (RowW I g cs):=⟨⟨_,hId,hcs⟩⟩
  refine jay I g cs (by kernel_rfl) (by kernel_rfl) hId hcs ?_
  repeat (go_big_quiet_step ((first | (go_at_call 95;rename_i i;first | exact h.of i hx | exact h.of i hy))))
  refine wpQuiet_nil ?_
  intro w2 hw'
  obtain ⟨i2,hw''⟩:=hw'
  have hi2 : I w2:=hw'' ▸ i2.inv
  have hr2 : w2.heap[g]? = some (.cells cs TpT (0,0)):=hw'' ▸ i2.row
  clear hw''
  have R2:=Lib.hid (And.intro hi2 hr2)
  clear hcs hId q0 hr2 hi2 i2
  go_wp2_with fail
  go_ret
  exact ⟨rfl,R2.out.1,R2.out.2.trans HC.out.symm⟩
theorem jfu {I : World → Prop} {g off n cap b : Nat} {S : Nat → Prop} {key : Nat → ByteArray} (h : Keys I g b S key) (hr : ∀ W,I W → ∃ cs,W.heap[g]? = some (.cells cs TpT (0,0))) (hb : n ≤ 1000000) (hcap : n ≤ cap) (xs : List Nat) (w : World) (hS : ∀ z ∈ xs,S z) (hrow : RowAt w g off xs) (hn : xs.length = n) (hi : I w) :
  Calls Tryz.prog 141 #[.slice (some ⟨g,off,none⟩) n cap,cmpV b] w (jeb I g off (cfK key) [] xs []):=by
 have H:=Lib.hid (jjs I g off n cap b S (cfK key) (joo key) h.toInv (jmu h hr) hb hcap xs w hS hrow hn hi)
 clear hS hrow hn hi h hr
 go_enter Tryz.func141,Tryz.ntmps141
 go_wp2_with fail
 refine H.out.mono ?_
 rintro e w2 ⟨rfl,hz,hi2⟩
 have T:=Lib.hid (And.intro hz hi2)
 clear hz hi2
 go_wp2_with fail
 go_end0
 exact ⟨rfl,T.out.1,T.out.2⟩
def jn2 (I : World → Prop) (g off cap : Nat) (key : Nat → ByteArray) (xs : List Nat) (e : Ending) (w' : World) : Prop :=
 ∃ zs : List Nat,e = .returned (.slice (some ⟨g,off,none⟩) zs.length cap) ∧ RowAt w' g off zs ∧ I w' ∧ zs.length ≤ xs.length ∧ zs.Pairwise (fun x y => ltS (key x) (key y) = true) ∧ (∀ z ∈ zs,z ∈ xs) ∧ ∀ x ∈ xs,∃ z ∈ zs,key z = key x
theorem je8 {eq : Nat → Nat → Bool} : ∀ (l : List Nat) (p : Nat),(SortL.keepL eq p l).length ≤ l.length
 | [],_ => Nat.le_refl _
 | y :: r,p => by
   rw [SortL.keepL]
   have:=je8 (eq:=eq) r y
   split <;> simp <;> omega
theorem jfb {eq : Nat → Nat → Bool} (l : List Nat) : (SortL.compactL eq l).length ≤ l.length:=by
 cases l with
 | nil => exact Nat.le_refl _
 | cons x r =>
   have:=je8 (eq:=eq) r x
   simp only [SortL.compactL,List.length_cons]
   omega
theorem jjD {I : World → Prop} {g off n cap : Nat} {S : Nat → Prop} {key : Nat → ByteArray} (w : World) (h : Keys I g w.heap.size S key) (hr : ∀ W,I W → ∃ cs,W.heap[g]? = some (.cells cs TpT (0,0))) (hb : n ≤ 1000000) (hcap : n ≤ cap) (xs : List Nat) (hS : ∀ z ∈ xs,S z) (hrow : RowAt w g off xs) (hn : xs.length = n) (hn0 : 0 < n) (hi : I (w.alloc (.cells #[.func (.func byF) #[] #[]] FnT))) :
  Calls Tryz.prog 93 #[.slice (some ⟨g,off,none⟩) n cap, .func (.func byF) #[] #[]] w (jn2 I g off cap key xs):=by
 have hrow2 : RowAt (w.alloc (.cells #[.func (.func byF) #[] #[]] FnT)) g off xs:=hrow.keep (jao _ _ _ hrow.lt)
 have H1:=Lib.hid (jfu h hr hb hcap xs _ hS hrow2 hn hi)
 have H:=Lib.hid (And.intro h (And.intro hr (And.intro hS hn)))
 clear h hr hS hrow hn hi hrow2
 go_enter Tryz.func93,Tryz.ntmps93
 go_wp2_with fail
 refine H1.out.mono ?_
 rintro e w2 ⟨rfl,⟨z,hz1,hz2,hz3⟩,hi2⟩
 have T:=Lib.hid (And.intro hz1 (And.intro hz2 (And.intro hz3 hi2)))
 clear hz1 hz2 hz3 hi2
 go_wp2_with fail
 refine (jiv I g off n cap w.heap.size S (fun x y => decide (key x = key y)) H.out.1.toInv (jm8 H.out.1 H.out.2.1) hb hcap z _ (fun t ht => H.out.2.2.1 t (T.out.1.mem_iff.1 ht)) (by have:=T.out.2.2.1;simpa using this) (by have:=T.out.1.length_eq;have:=H.out.2.2.2;omega) hn0 T.out.2.2.2).mono ?_
 rintro e w3 ⟨rfl,hr3,hi3⟩
 have T3:=Lib.hid (And.intro hr3 hi3)
 clear hr3 hi3
 obtain ⟨zs,hzs⟩ : ∃ zs,Hid (SortL.compactL (fun x y => decide (key x = key y)) z = zs):=⟨_,rfl⟩
 rw [hzs.out] at T3 ⊢
 go_wp2_with fail
 refine bodyPost_ret (v := .slice (some ⟨g,off,none⟩) zs.length cap) (by simp [results,Tryz.results93,go_sem]) rfl ?_
 have hs:=T.out.2.1
 rw [jnp] at hs
 obtain ⟨c1,c2⟩:=SortL.compactL_strict (key:=key) ltS_tot hs
 rw [hzs.out] at c1 c2
 refine ⟨zs,rfl,T3.out.1,T3.out.2,?_,c1,fun t ht => ?_,fun x hx => c2 x (T.out.1.mem_iff.2 hx)⟩
 ·rw [← hzs.out]
  have:=jfb (eq:=fun x y => decide (key x = key y)) z
  have:=T.out.1.length_eq
  omega
 ·rw [← hzs.out] at ht
  exact T.out.1.mem_iff.1 (SortL.compactL_mem ht)
abbrev StrT : TypeId:=9
abbrev BooT : TypeId:=4
inductive Ty where
 | mk (k n : Int) (nm : ByteArray) (ps : List Ty) (ns : List ByteArray) (ms : List Bool)
def Ty.kind : Ty → Int | .mk k _ _ _ _ _ => k
def Ty.num : Ty → Int | .mk _ n _ _ _ _ => n
def Ty.name : Ty → ByteArray | .mk _ _ nm _ _ _ => nm
def Ty.parts : Ty → List Ty | .mk _ _ _ ps _ _ => ps
def Ty.names : Ty → List ByteArray | .mk _ _ _ _ ns _ => ns
def Ty.marks : Ty → List Bool | .mk _ _ _ _ _ ms => ms
def numS (n : Int) : ByteArray:=⟨(Lib.itoa n).toArray⟩
def jav (sep : ByteArray) (l : List ByteArray) : ByteArray:=⟨(Lib.join (l.map (·.data.toList)) sep.data.toList).toArray⟩
def jds (m : Bool) : ByteArray:=if m = true then ⟨#[63]⟩ else ⟨#[]⟩
def jaC : List (Int × ByteArray) → List ByteArray → List Bool → List ByteArray
 | x :: r,nm :: ns,m :: ms => (nm ++ jds m ++ ⟨#[58,32]⟩ ++ x.2) :: jaC r ns ms
 | _,_,_ => []
def jaM : List (Int × ByteArray) → List Bool → List ByteArray
 | x :: r,m :: ms => (if m = true then jas [15,16] x.1 x.2 ++ ⟨#[63]⟩ else x.2) :: jaM r ms
 | _,_ => []
def jbn (nm : ByteArray) (n : Int) : ByteArray:=nm ++ ⟨#[35]⟩ ++ numS n
def jap (k n : Int) (nm : ByteArray) (ts : List (Int × ByteArray)) (ns : List ByteArray) (ms : List Bool) : ByteArray :=
 if k = 11 then numS n
 else if k = 12 then jbJ nm
 else if k = 13 then jas [15,16] (ts.headD (0,⟨#[]⟩)).1 (ts.headD (0,⟨#[]⟩)).2 ++ ⟨#[91,93]⟩
 else if k = 14 then ⟨#[123]⟩ ++ jav ⟨#[59,32]⟩ (jaC ts ns ms) ++ ⟨#[125]⟩
 else if k = 15 then ⟨#[40]⟩ ++ jav ⟨#[44,32]⟩ (jaM ts.dropLast ms) ++ ⟨#[41,32,61,62,32]⟩ ++ (ts.getLastD (0,⟨#[]⟩)).2
 else if k = 16 then jav ⟨#[32,124,32]⟩ (ts.map fun x => jaK x.1 x.2)
 else if k = 17 then (if ts = [] then jbn nm n else jbn nm n ++ ⟨#[60]⟩ ++ jav ⟨#[44,32]⟩ (ts.map (·.2)) ++ ⟨#[62]⟩)
 else if k = 18 then nm ++ ⟨#[39]⟩ ++ numS n
 else if k = 19 then nm ++ ⟨#[64]⟩ ++ numS n
 else if k = 20 then (ts.headD (0,⟨#[]⟩)).2 ++ ⟨#[46]⟩ ++ nm
 else if k = 21 then ⟨#[99,108,97,115,115,32]⟩ ++ jbn nm n
 else if k = 22 then ⟨#[101,110,117,109,32]⟩ ++ jbn nm n
 else if k = 23 then ⟨#[110,97,109,101,115,112,97,99,101,32]⟩ ++ jbn nm n
 else jaw k
mutual
def Ty.text : Ty → ByteArray
 | .mk k n nm ps ns ms => jap k n nm (Ty.texts ps) ns ms
def Ty.texts : List Ty → List (Int × ByteArray)
 | [] => []
 | p :: r => (p.kind,p.text) :: Ty.texts r
end
theorem Ty.texts_eq : ∀ ps : List Ty,Ty.texts ps = ps.map fun p => (p.kind,p.text)
 | [] => rfl
 | p :: r => by rw [Ty.texts,Ty.texts_eq r];rfl
theorem Ty.text_mk (k n : Int) (nm : ByteArray) (ps : List Ty) (ns : List ByteArray) (ms : List Bool) : (Ty.mk k n nm ps ns ms).text = jap k n nm (ps.map fun p => (p.kind,p.text)) ns ms:=by rw [Ty.text,Ty.texts_eq]
mutual
def Ty.size : Ty → Nat
 | .mk _ _ _ ps _ _ => (Ty.sizes ps).foldl (fun a x => min (a + x) 1099511627776) 1
def Ty.sizes : List Ty → List Nat
 | [] => []
 | p :: r => p.size :: Ty.sizes r
end
theorem Ty.sizes_eq : ∀ ps : List Ty,Ty.sizes ps = ps.map Ty.size
 | [] => rfl
 | p :: r => by rw [Ty.sizes,Ty.sizes_eq r];rfl
def RowOf (T : TypeId) (N : Nat → Prop) (w : World) (v : Value) (us : List Value) : Prop :=
 ∃ a cap,v = .slice a us.length cap ∧ us.length ≤ cap ∧ us.length ≤ 1000000000 ∧ ∀ (j : Nat) (u : Value),us[j]? = some u → ∃ (g off : Nat) (cs : Array Value) (fz : Nat × Nat),a = some ⟨g,off,none⟩ ∧ N g ∧ w.heap[g]? = some (.cells cs T fz) ∧ cs[off + j]? = some u
theorem RowOf.keep {T : TypeId} {N N' : Nat → Prop} {w w' : World} {v : Value} {us : List Value} (h : RowOf T N w v us) (hk : ∀ g cs fz,N g → w.heap[g]? = some (.cells cs T fz) → N' g ∧ w'.heap[g]? = some (.cells cs T fz)) : RowOf T N' w' v us:=by
 obtain ⟨a,cap,h1,h2,h2',h3⟩:=h
 refine ⟨a,cap,h1,h2,h2',fun j u hu => ?_⟩
 obtain ⟨g,off,cs,fz,q1,q2,q3,q4⟩:=h3 j u hu
 obtain ⟨k1,k2⟩:=hk g cs fz q2 q3
 exact ⟨g,off,cs,fz,q1,k1,k2,q4⟩
theorem RowOf.unique {T : TypeId} {N N' : Nat → Prop} {w : World} {v : Value} {us us' : List Value} (h : RowOf T N w v us) (h' : RowOf T N' w v us') : us = us':=by
 obtain ⟨a,cap,h1,_,_,h3⟩:=h
 obtain ⟨a',cap',h1',_,_,h3'⟩:=h'
 rw [h1] at h1'
 injection h1' with e1 e2 _
 apply List.ext_getElem?
 intro j
 rcases Nat.lt_or_ge j us.length with hj | hj
 ·obtain ⟨u,hu⟩ : ∃ u,us[j]? = some u:=⟨_,List.getElem?_eq_getElem hj⟩
  obtain ⟨u',hu'⟩ : ∃ u,us'[j]? = some u:=⟨_,List.getElem?_eq_getElem (by omega)⟩
  obtain ⟨g,off,cs,fz,q1,_,q3,q4⟩:=h3 j u hu
  obtain ⟨g',off',cs',fz',r1,_,r3,r4⟩:=h3' j u' hu'
  subst e1
  rw [q1] at r1
  injection r1 with r1
  injection r1 with r1 r2 _
  subst r1 r2
  rw [q3] at r3
  injection r3 with r3
  injection r3 with r3 _ _
  subst r3
  rw [q4] at r4
  rw [hu,hu']
  exact r4
 ·rw [List.getElem?_eq_none hj,List.getElem?_eq_none (by omega)]
theorem RowOf.nil (T : TypeId) (N : Nat → Prop) (w : World) : RowOf T N w (.slice none 0 0) []:=⟨none,0,rfl,Nat.le_refl _,by simp,fun j u hu => by simp at hu⟩
abbrev tyC (k n : Int) (nm : ByteArray) (pv nv mv : Value) (sz : Nat) (said : ByteArray) : Array Value := #[.int .i64 k, .int .i64 n, .string nm,pv,nv,mv, .int .i64 sz, .string said]
inductive TyAt (N : Nat → Prop) (B : Nat) (w : World) : Nat → Ty → Prop
 | mk {b : Nat} {k n : Int} {nm : ByteArray} {ps : List Ty} {ns : List ByteArray} {ms : List Bool} (said : ByteArray) (pv nv mv : Value) (qs : List Nat) (hB : B ≤ b)
   (h : w.heap[b]? = some (.cells (tyC k n nm pv nv mv (Ty.mk k n nm ps ns ms).size said) TyT (0,0))) (hs : said = ⟨#[]⟩ ∨ said = (Ty.mk k n nm ps ns ms).text)
   (hp : RowOf TpT N w pv (qs.map ptrV)) (hn : RowOf StrT N w nv (ns.map .string)) (hm : RowOf BooT N w mv (ms.map .bool)) (hl : qs.length = ps.length)
   (hq : ∀ (j q : Nat) (p : Ty),qs[j]? = some q → ps[j]? = some p → TyAt N B w q p) : TyAt N B w b (.mk k n nm ps ns ms)
theorem TyAt.lt {N : Nat → Prop} {B : Nat} {w : World} {b : Nat} {t : Ty} (h : TyAt N B w b t) : b < w.heap.size:=by
 cases h with
 | mk _ _ _ _ _ _ h => exact ja0 h
theorem TyAt.ge {N : Nat → Prop} {B : Nat} {w : World} {b : Nat} {t : Ty} (h : TyAt N B w b t) : B ≤ b:=by
 cases h with
 | mk _ _ _ _ _ hB => exact hB
theorem jmc {qs qs' : List Nat} (h : qs.map ptrV = qs'.map ptrV) : qs = qs':=by
 refine List.map_inj_right (f:=ptrV) (fun a b e => ?_) |>.1 h
 unfold ptrV at e
 injection e with e
 injection e with e
 injection e with e _ _
theorem TyAt.unique {N N' : Nat → Prop} {B B' : Nat} {w : World} {b : Nat} {t t' : Ty} (h : TyAt N B w b t) (h' : TyAt N' B' w b t') : t = t':=by
 induction h generalizing t' with
 | @mk b k n nm ps ns ms said pv nv mv qs hB hh hs hp hn hm hl hq ih =>
   cases h' with
   | @mk _ k' n' nm' ps' ns' ms' said' pv' nv' mv' qs' hB' hh' hs' hp' hn' hm' hl' hq' =>
     rw [hh] at hh'
     injection hh' with e
     injection e with e _ _
     have e:=congrArg Array.toList e
     simp only [List.cons.injEq,and_true,Value.int.injEq,Value.string.injEq,true_and] at e
     obtain ⟨e1,e2,e3,e4,e5,e6,_,_⟩:=e
     subst e1 e2 e3 e4 e5 e6
     have q1:=jmc (hp.unique hp')
     have q2:=hn.unique hn'
     have q3:=hm.unique hm'
     subst q1
     have q2:=(List.map_inj_right (f:=Value.string) (fun a b e => by injection e)).1 q2
     have q3:=(List.map_inj_right (f:=Value.bool) (fun a b e => by injection e)).1 q3
     subst q2 q3
     congr 1
     apply List.ext_getElem?
     intro j
     rcases Nat.lt_or_ge j ps.length with hj | hj
     ·obtain ⟨p,hp1⟩ : ∃ p,ps[j]? = some p:=⟨_,List.getElem?_eq_getElem hj⟩
      obtain ⟨p',hp2⟩ : ∃ p,ps'[j]? = some p:=⟨_,List.getElem?_eq_getElem (by omega)⟩
      obtain ⟨q,hq1⟩ : ∃ q,qs[j]? = some q:=⟨_,List.getElem?_eq_getElem (by omega)⟩
      rw [hp1,hp2,ih j q p hq1 hp1 (hq' j q p' hq1 hp2)]
     ·rw [List.getElem?_eq_none hj,List.getElem?_eq_none (by omega)]
theorem TyAt.keep {N : Nat → Prop} {B : Nat} {w w' : World} (hrow : ∀ (g : Nat) (cs : Array Value) (T : TypeId) (f : Nat × Nat),T ≠ TyT → N g → w.heap[g]? = some (.cells cs T f) → w'.heap[g]? = some (.cells cs T f))
  (htyp : ∀ (b : Nat) (t : Ty) (k n : Int) (nm : ByteArray) (pv nv mv : Value) (sz : Nat) (said : ByteArray),TyAt N B w b t → w.heap[b]? = some (.cells (tyC k n nm pv nv mv sz said) TyT (0,0)) → ∃ said',w'.heap[b]? = some (.cells (tyC k n nm pv nv mv sz said') TyT (0,0)) ∧ (said' = said ∨ said' = t.text))
  {b : Nat} {t : Ty} (h : TyAt N B w b t) : TyAt N B w' b t:=by
 induction h with
 | @mk b k n nm ps ns ms said pv nv mv qs hB hh hs hp hn hm hl hq ih =>
   obtain ⟨said',h1,h2⟩:=htyp b _ k n nm pv nv mv _ said (TyAt.mk said pv nv mv qs hB hh hs hp hn hm hl hq) hh
   refine TyAt.mk said' pv nv mv qs hB h1 ?_ (hp.keep fun g cs fz q1 q2 => ⟨q1,hrow g cs _ fz (by decide) q1 q2⟩) (hn.keep fun g cs fz q1 q2 => ⟨q1,hrow g cs _ fz (by decide) q1 q2⟩) (hm.keep fun g cs fz q1 q2 => ⟨q1,hrow g cs _ fz (by decide) q1 q2⟩) hl ih
   rcases h2 with rfl | rfl
   ·exact hs
   ·exact .inr rfl
theorem TyAt.weaken {N N' : Nat → Prop} {B : Nat} {w : World} {b : Nat} {t : Ty} (h : TyAt N B w b t) (hN : ∀ g,N g → g < w.heap.size → N' g) : TyAt N' B w b t:=by
 induction h with
 | mk said pv nv mv qs hB hh hs hp hn hm hl hq ih => exact TyAt.mk said pv nv mv qs hB hh hs (hp.keep fun g cs fz q1 q2 => ⟨hN g q1 (ja0 q2),q2⟩) (hn.keep fun g cs fz q1 q2 => ⟨hN g q1 (ja0 q2),q2⟩) (hm.keep fun g cs fz q1 q2 => ⟨hN g q1 (ja0 q2),q2⟩) hl ih
theorem TyAt.there {N : Nat → Prop} {B : Nat} {w : World} {b : Nat} {t : Ty} (h : TyAt N B w b t) : TyAt (fun g => N g ∧ g < w.heap.size) B w b t:=h.weaken fun _ h1 h2 => ⟨h1,h2⟩
def Full (cs : Array Value) : Prop := ∃ s : ByteArray,cs[7]? = some (.string s) ∧ s ≠ ⟨#[]⟩
structure Memo (S : Nat → Prop) (B : Nat) (w w' : World) : Prop where
 os : w'.os = w.os
 tape : w'.tape = w.tape
 output : w'.output = w.output
 size : w.heap.size ≤ w'.heap.size
 obj : ∀ (b : Nat) (o : Obj),w.heap[b]? = some o → (∀ (cs : Array Value) (f : Nat × Nat),o ≠ .cells cs TyT f) → ¬ S b → w'.heap[b]? = some o
 low : ∀ b,b < B → b < w.heap.size → w'.heap[b]? = w.heap[b]?
 ty : ∀ (N : Nat → Prop) (b : Nat) (t : Ty),(∀ x,N x → ¬ S x) → TyAt N B w b t → TyAt N B w' b t
 fld : ∀ (b : Nat) (cs : Array Value) (f : Nat × Nat),w.heap[b]? = some (.cells cs TyT f) → ∃ cs',w'.heap[b]? = some (.cells cs' TyT f) ∧ ∀ i,i ≠ 7 ∨ Full cs → cs'[i]? = cs[i]?
abbrev jag : Nat → Prop:=fun _ => False
theorem Memo.refl (S : Nat → Prop) (B : Nat) (w : World) : Memo S B w w:=⟨rfl,rfl,rfl,Nat.le_refl _,fun _ _ h _ _ => h,fun _ _ _ => rfl,fun _ _ _ _ h => h,fun _ cs _ h => ⟨cs,h,fun _ _ => rfl⟩⟩
theorem Memo.trans {S : Nat → Prop} {B : Nat} {a b c : World} (h : Memo S B a b) (k : Memo S B b c) : Memo S B a c where
 os:=k.os.trans h.os
 tape:=k.tape.trans h.tape
 output:=k.output.trans h.output
 size:=Nat.le_trans h.size k.size
 obj x o h1 h2 h3:=k.obj x o (h.obj x o h1 h2 h3) h2 h3
 low x h1 h2:=(k.low x h1 (Nat.lt_of_lt_of_le h2 h.size)).trans (h.low x h1 h2)
 ty N x t h1 h2:=k.ty N x t h1 (h.ty N x t h1 h2)
 fld x cs f h1:=let ⟨cs1,q1,q2⟩:=h.fld x cs f h1;let ⟨cs2,r1,r2⟩:=k.fld x cs1 f q1; ⟨cs2,r1,fun i hi => (r2 i (hi.imp id fun hf => by obtain ⟨s,s1,s2⟩:=hf;exact ⟨s,(q2 7 (.inr ⟨s,s1,s2⟩)).trans s1,s2⟩)).trans (q2 i hi)⟩
theorem Memo.of_up (S : Nat → Prop) (B : Nat) {w w' : World} (h : Up w w') : Memo S B w w' where
 os:=h.os
 tape:=h.tape
 output:=h.output
 size:=h.size
 obj _ _ h1 _ _:=h.get h1
 low b _ h2:=h.block b h2
 ty _ _ _ _ ht:=ht.keep (fun _ _ _ _ _ _ q => h.get q) (fun _ _ _ _ _ _ _ _ _ said _ q => ⟨said,h.get q, .inl rfl⟩)
 fld _ cs _ q:=⟨cs,h.get q,fun _ _ => rfl⟩
theorem Memo.up {S : Nat → Prop} {B : Nat} {a b c : World} (h : Memo S B a b) (k : Up b c) : Memo S B a c:=h.trans (.of_up S B k)
theorem Memo.mono {S T : Nat → Prop} {B : Nat} {w w' : World} (h : Memo S B w w') (hs : ∀ x,S x → T x) : Memo T B w w' :=
 { h with obj:=fun b o h1 h2 h3 => h.obj b o h1 h2 (fun q => h3 (hs _ q)),ty:=fun N b t h1 h2 => h.ty N b t (fun x hx q => h1 x hx (hs _ q)) h2 }
theorem Memo.fresh {S : Nat → Prop} {B : Nat} {w w' : World} (h : Memo S B w w') (hs : ∀ x,S x → w.heap.size ≤ x) : Memo jag B w w' :=
 { h with
   obj:=fun b o h1 h2 _ => h.obj b o h1 h2 (fun q => by have:=hs b q;have:=ja0 h1;omega)
   ty:=fun N b t _ h2 => (h.ty _ b t (fun x hx q => by have:=hs x q;have:=hx.2;omega) h2.there).weaken fun _ q _ => q.1 }
theorem jb1 {w : World} {a b : Nat} {cs cs' : Array Value} {T T' : TypeId} {f f' : Nat × Nat} (h : w.heap[a]? = some (.cells cs T f)) (h' : w.heap[b]? = some (.cells cs' T' f')) (hT : T ≠ T') : a ≠ b:=fun e => by
 subst e
 rw [h] at h'
 injection h' with h'
 injection h' with _ h' _
 exact hT h'
theorem Memo.row {S : Nat → Prop} {B : Nat} {w : World} {g i : Nat} {cs : Array Value} {f : Nat × Nat} (h : w.heap[g]? = some (.cells cs TpT f)) (hs : S g) (hB : B ≤ g) (v : Value) : Memo S B w (w.setCell ⟨g,i,none⟩ v) where
 os:=rfl
 tape:=rfl
 output:=rfl
 size:=by rw [jam];exact Nat.le_refl _
 obj b o h1 _ h3:=by rw [ja2 (fun e => h3 (by rw [e];exact hs))];exact h1
 low b h1 _:=ja2 (by omega) _
 ty N b t hN ht:=ht.keep (fun g' cs' T f' _ hn q => by
   rw [ja2 (fun e => hN g' hn (by rw [e];exact hs))]
   exact q) (fun b' t' k n nm pv nv mv sz said _ q => ⟨said,by rw [ja2 (jb1 q h (by decide))];exact q, .inl rfl⟩)
 fld x cs' f' q:=⟨cs',by rw [ja2 (jb1 q h (by decide))];exact q,fun _ _ => rfl⟩
theorem Memo.said {S N : Nat → Prop} {B : Nat} {w : World} {b : Nat} {t : Ty} (h : TyAt N B w b t) : Memo S B w (w.setCell ⟨b,7,none⟩ (.string t.text)):=by
 have hge:=h.ge
 have h0:=h
 cases h with
 | @mk _ k n nm ps ns ms said pv nv mv qs hB hh hs hp hn hm hl hq =>
   have hset : (w.setCell ⟨b,7,none⟩ (.string (Ty.mk k n nm ps ns ms).text)).heap[b]? = some (.cells (tyC k n nm pv nv mv (Ty.mk k n nm ps ns ms).size (Ty.mk k n nm ps ns ms).text) TyT (0,0)):=ja6 (i:=7) hh _
   exact {
    os:=rfl
    tape:=rfl
    output:=rfl
    size:=by rw [jam];exact Nat.le_refl _
    obj:=fun x o h1 h2 _ => by
     rw [ja2 (fun e => ?_)]
     ·exact h1
     ·subst e
      rw [hh] at h1
      injection h1 with h1
      exact h2 _ _ h1.symm
    low:=fun x h1 _ => ja2 (by omega) _
    ty:=fun N' x t' hN ht => ht.keep (fun g cs T f hT _ q => by rw [ja2 (jb1 q hh hT)];exact q) (fun x' t'' k' n' nm' pv' nv' mv' sz' said' ht' q => by
     by_cases e : x' = b
     ·subst e
      have e2:=ht'.unique h0
      subst e2
      rw [hh] at q
      injection q with q
      injection q with q _ _
      have q:=congrArg Array.toList q
      simp only [List.cons.injEq,and_true,Value.int.injEq,Value.string.injEq,true_and] at q
      obtain ⟨e1,e2,e3,e4,e5,e6,e7,_⟩:=q
      subst e1 e2 e3 e4 e5 e6
      have e7 : (Ty.mk k n nm ps ns ms).size = sz':=by omega
      subst e7
      exact ⟨_,hset, .inr rfl⟩
     ·exact ⟨said',by rw [ja2 e];exact q, .inl rfl⟩)
    fld:=fun x cs f q => by
     by_cases e : x = b
     ·subst e
      refine ⟨_,ja6 (i:=7) q _,fun i hi => ?_⟩
      by_cases h7 : i = 7
      ·subst h7
       rcases hi with hi | ⟨s,s1,s2⟩
       ·exact absurd rfl hi
       ·rw [hh] at q
        injection q with q
        injection q with q _ _
        subst q
        have s1 : some (Value.string said) = some (Value.string s):=s1
        injection s1 with s1
        injection s1 with s1
        subst s1
        rcases hs with e | e
        ·exact absurd e s2
        ·rw [← e]
         rfl
      ·rw [Array.getElem?_setIfInBounds_ne (by omega)]
     ·exact ⟨cs,by rw [ja2 e];exact q,fun _ _ => rfl⟩ }
theorem Memo.grown {S : Nat → Prop} {B : Nat} {w w' : World} {row : Option Nat} (hg : w.grownBy w' row) (hr : ∀ r,row = some r → S r ∧ B ≤ r ∧ ∃ (cs : Array Value) (T : TypeId) (f : Nat × Nat),w.heap[r]? = some (.cells cs T f) ∧ T ≠ TyT) : Memo S B w w' where
 os:=hg.os
 tape:=hg.tape
 output:=hg.output
 size:=hg.size
 obj b o h1 _ h3:=jan hg h1 (fun e => h3 (hr b e).1)
 low b h1 h2:=hg.block b h2 (fun e => by have:=(hr b e.symm).2.1;omega)
 ty N b t hN ht:=ht.keep (fun g' cs' T f' _ hn q => jan hg q (fun e => hN g' hn (hr g' e).1)) (fun b' t' k n nm pv nv mv sz said _ q => ⟨said,jan hg q (fun e => by
  obtain ⟨_,_,cs,T,f,h1,h2⟩:=hr b' e
  exact jb1 q h1 (fun e2 => h2 e2.symm) rfl), .inl rfl⟩)
 fld x cs' f' q:=⟨cs',jan hg q (fun e => by
  obtain ⟨_,_,cs,T,f,h1,h2⟩:=hr x e
  exact jb1 q h1 (fun e2 => h2 e2.symm) rfl),fun _ _ => rfl⟩
theorem Memo.cell {S : Nat → Prop} {B : Nat} {w w' : World} (h : Memo S B w w') {b : Nat} {cs : Array Value} {f : Nat × Nat} (hb : w.heap[b]? = some (.cells cs TyT f)) {i : Nat} (hi : i ≠ 7) : w'.cell? ⟨b,i,none⟩ = w.cell? ⟨b,i,none⟩:=by
 obtain ⟨cs',h1,h2⟩:=h.fld b cs f hb
 rw [ja1 h1,ja1 hb,h2 i (.inl hi)]
theorem Memo.told {S : Nat → Prop} {B : Nat} {w w' : World} (h : Memo S B w w') {b : Nat} {cs : Array Value} {f : Nat × Nat} (hb : w.heap[b]? = some (.cells cs TyT f)) {s : ByteArray} (hs : w.cell? ⟨b,7,none⟩ = some (.string s)) (hne : s ≠ ⟨#[]⟩) : w'.cell? ⟨b,7,none⟩ = some (.string s):=by
 obtain ⟨cs',h1,h2⟩:=h.fld b cs f hb
 rw [ja1 hb] at hs
 rw [ja1 h1,h2 7 (.inr ⟨s,hs,hne⟩),hs]
theorem Memo.lt {S : Nat → Prop} {B : Nat} {w w' : World} (h : Memo S B w w') {b : Nat} (hb : b < w.heap.size) : b < w'.heap.size:=Nat.lt_of_lt_of_le hb h.size
theorem Memo.cells {S : Nat → Prop} {B : Nat} {w w' : World} (h : Memo S B w w') {g : Nat} {cs : Array Value} {T : TypeId} {f : Nat × Nat} (hg : w.heap[g]? = some (.cells cs T f)) (hT : T ≠ TyT) (hs : ¬ S g) : w'.heap[g]? = some (.cells cs T f) :=
 h.obj g _ hg (fun cs' f' e => by injection e with _ e _;exact hT e) hs
end Go.Proofs.YtiaepldmgighbaaGreatDoor
