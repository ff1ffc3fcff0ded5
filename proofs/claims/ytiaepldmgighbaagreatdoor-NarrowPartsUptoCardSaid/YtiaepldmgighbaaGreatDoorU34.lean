import Derived.Test.YtiaepldmgighbaaGreatDoorU13
import Derived.Test.YtiaepldmgighbaaGreatDoorU24
import Derived.Test.YtiaepldmgighbaaGreatDoorU25
namespace Go.Proofs.YtiaepldmgighbaaGreatDoor
open Go.RowKit
set_option linter.unusedSimpArgs false
attribute [local go_sem] Oper.semAt_some je0
abbrev RunT:={ x : Nat × Nat // x.2 ≤ 1114111 }
set_option maxRecDepth 100000
set_option maxHeartbeats 2000000
theorem ji2 (l tb : Nat) (s : ByteArray) (hs : s.size ≤ 1000000000) (K : World → World → Prop) (hKr : ∀ W,K W W) (hKt : ∀ a b c,K a b → K b c → K a c) (hKu : ∀ a b c,K a b → Up b c → K a c) (J Jx : List (Nat × Nat) → World → Prop) (W : World)
  (hJ : AbidesFrom W.heap.size J)
  (hY : ∀ (pre : List (Nat × Nat)) (x : Nat × Nat) W1,x.2 ≤ 1114111 → J pre W1 → pre.length < (jaz s.data.toList).length → YieldAt Fence.wide 0 Tryz.prog l (encR x) W1 fun e W' =>
   (e = .returned (.bool true) ∧ J (pre ++ [x]) W' ∧ K W1 W') ∨ (e = .returned (.bool false) ∧ Jx (pre ++ [x]) W'))
  (hbox : ∀ W',K W W' → W'.cell? ⟨tb,0,none⟩ = some (.string s) ∧ W.heap.size ≤ W'.heap.size) (h0 : J [] W) :
  CallsIn Fence.wide 1 Tryz.prog 199 #[.func (.yield l) #[] #[], .pointer (some ⟨tb,0,none⟩)] W fun e W' => (∃ v,e = .returned v) ∧
   ((∃ xs,xs = jaz s.data.toList ∧ J xs W') ∨ (∃ pre,pre <+: jaz s.data.toList ∧ Jx pre W')):=by
 refine callsIn_of_wp Tryz.func199 rfl trivial ?_ rfl
 simp only [Tryz.ntmps199,List.size_toArray,List.length_cons,List.length_nil,Nat.reduceAdd,Nat.reduceSub,Array.replicate_succ,Array.replicate_zero,List.push_toArray,List.append_toArray,List.nil_append,List.cons_append]
 gi_wp2
 gi_loopw [3] (fun i wr => ∃ (a : Nat) (pre : List (Nat × Nat)),a ≤ s.size ∧ i = .int .i64 a ∧ pre ++ jdm s.data.toList a = jaz s.data.toList ∧ J pre wr ∧ K W wr)
  (fun i _ => s.size - (intOf i).toNat)
 case atStart => exact ⟨0,[],Nat.zero_le _,rfl,rfl,h0,hKr _⟩
 case round =>
  obtain ⟨a,pre,ha,rfl,hrest,hJs,hnx⟩:=hrel
  obtain ⟨hb0,hsz⟩:=hbox wr hnx
  by_cases hlt : a < s.size
  ·obtain ⟨M,hM,hM2⟩ : ∃ M : Nat,(min (s.size : Int) ((a : Int) + 4)).toNat = M ∧ M = min s.size (a + 4):=⟨_,rfl,by omega⟩
   obtain ⟨s4,hs4⟩ : ∃ s4,s.extract a M = s4:=⟨_,rfl⟩
   have hsz4 : s4.size = M - a:=by
    have h1 : s4.data.toList.length = s4.size:=by simp
    have h2 : s.data.toList.length = s.size:=by simp
    rw [← h1, ← hs4,jbS,List.length_take,List.length_drop]
    omega
   have hl4 : s4.data.toList = (s.data.toList.drop a).take 4:=by
    rw [← hs4,jbS,hM2]
    have : s.data.toList.length = s.size:=by simp
    rw [List.take_eq_take_iff,List.length_drop]
    omega
   have hd : decS s4.data.toList = decS (s.data.toList.drop a):=by rw [hl4,jhC]
   have hz4 : 0 < s4.size ∧ s4.size ≤ 4:=by
    have h1 : s4.data.toList.length = s4.size:=by simp
    have h2 : s.data.toList.length = s.size:=by simp
    rw [← h1,hl4,List.length_take,List.length_drop]
    omega
   obtain ⟨hr1,hr2,hr3⟩:=jen s.data.toList a (by simpa using hlt)
   rw [← hd] at hr1 hr2 hr3
   obtain ⟨r,n,hrn⟩ : ∃ r n,decS s4.data.toList = (r,n):=⟨_,_,rfl⟩
   have hrb : r ≤ 1114111:=by have:=jja s4.data.toList;rw [hrn] at this;exact this
   rw [hrn] at hr1 hr2 hr3
   dsimp only at hr1 hr2 hr3
   have hD:=fun W1 (h : BytesAt W1 (some ⟨wr.heap.size,0,none⟩) s4.data.toList) => jjT wr.heap.size (grownCap wr s4.size 0 5) s4 W1 h hz4.1 (grownCap_ge _ _ _ _)
   rw [hrn] at hD
   dsimp only at hD
   have hn3 : a + n ≤ s.size:=by simpa using hr3
   rw [hr1] at hrest
   have hlen : pre.length < (jaz s.data.toList).length:=by rw [← hrest];simp
   obtain ⟨fn,tmps,assign,body,hy,hR⟩:=hY pre (a,r) (jb7 wr s4) hrb (hJ _ _ _ none hJs ((jaE wr s4).grownBy none) (fun r e => by cases e)) hlen
   simp only [encR] at hy
   clear hr1 hr3 hl4 hd
   have hHD:=Lib.hid hD
   have hzz:=hz4.2
   have hM3 : min M s.size - a = s4.size:=by omega
   clear hD hM2 hsz4
   rcases Nat.lt_or_ge (a + 4) s.size with hc | hc
   ·have hci : (a : Int) + 4 < s.size:=by omega
    gi_wp2_with (first | (refine ⟨trivial,?_⟩;gi_at_call 147;refine (callsIn_wide.2 (hHD.out _ (jbf wr s4 (by omega)))).mono ?_;rintro e w2 ⟨⟨g,rfl⟩,rfl⟩))
    refine hR.mono ?_
    rintro e W3 (⟨rfl,hJ3,hk3⟩ | ⟨rfl,hJx3⟩)
    ·gi_wp2
     go_roundw
     case rel => exact ⟨a + n,pre ++ [(a,r)],hn3,by congr 1,by rw [← hrest];simp,hJ3,hKt _ _ _ (hKu _ _ _ hnx (jaE wr s4)) hk3⟩
     case measure => simp [intOf];omega
    ·gi_wp2
     refine bodyPost_ret (results_none rfl _ _ _) rfl ?_
     exact ⟨⟨_,rfl⟩, .inr ⟨_,by rw [← hrest];exact ⟨jdm s.data.toList (a + n),by simp⟩,hJx3⟩⟩
   ·have hci : (s.size : Int) ≤ (a : Int) + 4:=by omega
    gi_wp2_with (first | (refine ⟨trivial,?_⟩;gi_at_call 147;refine (callsIn_wide.2 (hHD.out _ (jbf wr s4 (by omega)))).mono ?_;rintro e w2 ⟨⟨g,rfl⟩,rfl⟩))
    refine hR.mono ?_
    rintro e W3 (⟨rfl,hJ3,hk3⟩ | ⟨rfl,hJx3⟩)
    ·gi_wp2
     go_roundw
     case rel => exact ⟨a + n,pre ++ [(a,r)],hn3,by congr 1,by rw [← hrest];simp,hJ3,hKt _ _ _ (hKu _ _ _ hnx (jaE wr s4)) hk3⟩
     case measure => simp [intOf];omega
    ·gi_wp2
     refine bodyPost_ret (results_none rfl _ _ _) rfl ?_
     exact ⟨⟨_,rfl⟩, .inr ⟨_,by rw [← hrest];exact ⟨jdm s.data.toList (a + n),by simp⟩,hJx3⟩⟩
  ·obtain rfl : a = s.size:=by omega
   gi_wp2
   go_end0
   exact ⟨⟨_,rfl⟩, .inl ⟨_,rfl,by rw [jeG _ _ (by simp),List.append_nil] at hrest;exact hrest ▸ hJs⟩⟩
theorem jgZ (tb : Nat) (s : ByteArray) (hs : s.size ≤ 1000000000) (K : World → World → Prop) (hKr : ∀ W,K W W) (hKt : ∀ a b c,K a b → K b c → K a c) (hKu : ∀ a b c,K a b → Up b c → K a c) (w : World)
  (hbox : ∀ W W',Up w W → K W W' → W'.cell? ⟨tb,0,none⟩ = some (.string s) ∧ W.heap.size ≤ W'.heap.size) :
  SeqStopsK Fence.wide 1 Tryz.prog 199 #[.pointer (some ⟨tb,0,none⟩)] (fun x : RunT => encR x.1) K (fun xs => xs.map (·.1) = jaz s.data.toList) (fun _ => True) (jaz s.data.toList).length w:=by
 intro l J0 Jx0 W hW hJ0 hJx0 hY0 h00
 refine CallsIn.mono (ji2 l tb s hs K hKr hKt hKu (fun pre W => ∃ xs : List RunT,xs.map (·.1) = pre ∧ J0 xs W) (fun pre W => ∃ xs : List RunT,xs.map (·.1) = pre ∧ Jx0 xs W) W
  (fun p A B row ⟨xs,e,h⟩ hg hr => ⟨xs,e,hJ0 xs A B row h hg hr⟩) ?_ (fun W' hk => hbox W W' hW hk) ⟨[],rfl,h00⟩) ?_
 ·rintro pre x W1 hb ⟨xs,rfl,hj⟩ hl
  obtain ⟨fn,tmps,assign,body,hy,hR⟩:=hY0 xs ⟨x,hb⟩ W1 hj (by simpa using hl)
  refine ⟨fn,tmps,assign,body,hy,hR.mono ?_⟩
  rintro e W' (⟨rfl,h1,h2⟩ | ⟨rfl,h1⟩)
  ·exact .inl ⟨rfl,⟨xs ++ [⟨x,hb⟩],by simp,h1⟩,h2⟩
  ·exact .inr ⟨rfl,xs ++ [⟨x,hb⟩],by simp,h1⟩
 ·rintro e W' ⟨hv,⟨xs,rfl,ys,hy,hj⟩ | ⟨pre,hp,ys,hy,hj⟩⟩
  ·exact ⟨hv,Or.inl ⟨ys,hy,hj⟩⟩
  ·exact ⟨hv,Or.inr ⟨ys,trivial,hj⟩⟩
end Go.Proofs.YtiaepldmgighbaaGreatDoor
namespace Go.Proofs.YtiaepldmgighbaaGreatDoor
open Go.RowKit
set_option linter.unusedSimpArgs false
theorem jga {n : Nat} {x : UInt8} (h : n = x.toNat) : UInt8.ofNat n = x:=by subst h;simp
theorem jg9 {v : Nat} (h1 : v ≤ 1114111) (h2 : ¬ (55296 ≤ v ∧ v ≤ 57343)) : Utf8.valid (v : Int) = true:=by
 unfold Utf8.valid
 simp only [Bool.or_eq_true,Bool.and_eq_true,decide_eq_true_eq]
 omega
theorem joh {v : Nat} {x a : UInt8} (h1 : 128 ≤ v) (h2 : v < 2048) (hx : 192 + v / 64 = x.toNat) (ha : 128 + v % 64 = a.toNat) : tb (Utf8.encode (v : Int)) = [x,a]:=by
 unfold Utf8.encode
 simp only [jg9 (show v ≤ 1114111 by omega) (by omega),if_true,Int.toNat_natCast]
 rw [if_neg (by omega),if_pos (by omega),jga hx,jga ha]
 rfl
theorem jlu {v : Nat} {x a b : UInt8} (h1 : 2048 ≤ v) (h2 : v < 65536) (h3 : ¬ (55296 ≤ v ∧ v ≤ 57343)) (hx : 224 + v / 4096 = x.toNat) (ha : 128 + v / 64 % 64 = a.toNat) (hb : 128 + v % 64 = b.toNat) : tb (Utf8.encode (v : Int)) = [x,a,b]:=by
 unfold Utf8.encode
 simp only [jg9 (show v ≤ 1114111 by omega) h3,if_true,Int.toNat_natCast]
 rw [if_neg (by omega),if_neg (by omega),if_pos (by omega),jga hx,jga ha,jga hb]
 rfl
theorem jmN {v : Nat} {x a b c : UInt8} (h1 : 65536 ≤ v) (h2 : v ≤ 1114111) (hx : 240 + v / 262144 = x.toNat) (ha : 128 + v / 4096 % 64 = a.toNat) (hb : 128 + v / 64 % 64 = b.toNat) (hc : 128 + v % 64 = c.toNat) : tb (Utf8.encode (v : Int)) = [x,a,b,c]:=by
 unfold Utf8.encode
 simp only [jg9 h2 (by omega),if_true,Int.toNat_natCast]
 rw [if_neg (by omega),if_neg (by omega),if_neg (by omega),jga hx,jga ha,jga hb,jga hc]
 rfl
theorem jbY {k v u : Nat} {r : List UInt8} (h : runS v (k + 1) r = some u) : ∃ a t,r = a :: t ∧ 128 ≤ a.toNat ∧ a.toNat ≤ 191 ∧ runS (v * 64 + (a.toNat - 128)) k t = some u:=by
 cases r with
 | nil => simp [runS] at h
 | cons a t =>
   simp only [runS] at h
   split at h
   ·next q => exact ⟨a,t,rfl,q.1,q.2,h⟩
   ·cases h
set_option maxRecDepth 100000
theorem jmQ (l : List UInt8) (hne : l ≠ []) (h : decS l ≠ badS) : tb (Utf8.encode ((decS l).1 : Int)) = l.take (decS l).2:=by
 cases l with
 | nil => exact absurd rfl hne
 | cons x r =>
   rcases hw : jby x.toNat with ⟨n,v0,ls⟩
   unfold decS at h ⊢
   dsimp only at h ⊢
   rw [hw] at h ⊢
   dsimp only at h ⊢
   by_cases hn : n = 0
   ·rw [if_pos hn] at h;exact absurd rfl h
   rw [if_neg hn] at h ⊢
   cases hr : runS v0 (n - 1) r with
   | none => rw [hr] at h;exact absurd rfl h
   | some v =>
     rw [hr] at h
     dsimp only at h ⊢
     by_cases hb : v < ls ∨ 1114111 < v ∨ 55296 ≤ v ∧ v ≤ 57343
     ·rw [if_pos hb] at h;exact absurd rfl h
     rw [if_neg hb]
     dsimp only
     have hx:=x.toNat_lt
     have hcs : (n = 1 ∧ v0 = x.toNat ∧ ls = 0 ∧ x.toNat < 128) ∨ (n = 2 ∧ v0 = x.toNat - 192 ∧ ls = 128 ∧ 192 ≤ x.toNat ∧ x.toNat ≤ 223) ∨ (n = 3 ∧ v0 = x.toNat - 224 ∧ ls = 2048 ∧ 224 ≤ x.toNat ∧ x.toNat ≤ 239) ∨ (n = 4 ∧ v0 = x.toNat - 240 ∧ ls = 65536 ∧ 240 ≤ x.toNat ∧ x.toNat ≤ 247):=by
      unfold jby at hw
      repeat' split at hw
      all_goals (simp only [Prod.mk.injEq] at hw;obtain ⟨w1,w2,w3⟩:=hw;omega)
     rcases hcs with ⟨rfl,rfl,rfl,h1⟩ | ⟨rfl,rfl,rfl,h1,h2⟩ | ⟨rfl,rfl,rfl,h1,h2⟩ | ⟨rfl,rfl,rfl,h1,h2⟩
     ·simp only [Nat.sub_self,runS,Option.some.injEq] at hr
      subst hr
      rw [jlv _ h1]
      simp
     ·obtain ⟨a,t,rfl,a1,a2,hr⟩:=jbY hr
      simp only [runS,Option.some.injEq] at hr
      rw [joh (x:=x) (a:=a) (by omega) (by omega) (by omega) (by omega)]
      rfl
     ·obtain ⟨a,t,rfl,a1,a2,hr⟩:=jbY (k:=1) hr
      obtain ⟨b,t,rfl,b1,b2,hr⟩:=jbY hr
      simp only [runS,Option.some.injEq] at hr
      rw [jlu (x:=x) (a:=a) (b:=b) (by omega) (by omega) (by omega) (by omega) (by omega) (by omega)]
      rfl
     ·obtain ⟨a,t,rfl,a1,a2,hr⟩:=jbY (k:=2) hr
      obtain ⟨b,t,rfl,b1,b2,hr⟩:=jbY (k:=1) hr
      obtain ⟨c,t,rfl,c1,c2,hr⟩:=jbY hr
      simp only [runS,Option.some.injEq] at hr
      rw [jmN (x:=x) (a:=a) (b:=b) (c:=c) (by omega) (by omega) (by omega) (by omega) (by omega) (by omega)]
      rfl
def encL (l : List (Nat × Nat)) : List UInt8:=l.flatMap fun x => tb (Utf8.encode (x.2 : Int))
theorem jlm (l : List UInt8) (a : Nat) (h : a < l.length) (hb : decS (l.drop a) ≠ badS) (k : encL (jdm l (a + (decS (l.drop a)).2)) = l.drop (a + (decS (l.drop a)).2)) : encL (jdm l a) = l.drop a:=by
 obtain ⟨h1,h2,h3⟩:=jen l a h
 rw [h1]
 unfold encL at k ⊢
 rw [List.flatMap_cons,k,jmQ _ (fun e => by have:=congrArg List.length e;rw [List.length_drop] at this;simp at this;omega) hb, ← List.drop_drop,List.take_append_drop]
theorem jmG (l : List UInt8) (a : Nat) (h : l.length ≤ a) : encL (jdm l a) = l.drop a:=by rw [jeG l a h,List.drop_eq_nil_of_le h];rfl
theorem jmI {s : ByteArray} (h : encL (jdm (tb s) 0) = (tb s).drop 0) : jeg s:=h
end Go.Proofs.YtiaepldmgighbaaGreatDoor
