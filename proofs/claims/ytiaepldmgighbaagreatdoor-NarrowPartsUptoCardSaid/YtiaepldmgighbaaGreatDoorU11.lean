import Derived.Deep.Light
import Derived.Deep.CutRange
import Derived.Deep.DeepCutAuto
import Derived.Outline
import Derived.Laws.IdiomStrings
import Derived.Test.YtiaepldmgighbaaGreatDoorU01
import Derived.Test.YtiaepldmgighbaaGreatDoorU03
namespace Go.Proofs.YtiaepldmgighbaaGreatDoor
open Go.RowKit
set_option linter.unusedSimpArgs false
set_option maxRecDepth 100000
theorem jng (x : Nat) (hx : x < 256) (w : World) :
  Calls Tryz.prog 175 #[.int .u8 x] w fun e w' => e = .returned (.tuple #[.int .i64 (jby x).1, .int .i32 (jby x).2.1]) ∧ w = w':=by
 go_enter Tryz.func175,Tryz.ntmps175
 go_wp2_with fail
 all_goals (refine jba (by (simp [results,Tryz.results175,go_sem, *]) <;> rfl) rfl ?_ ⟨rfl,rfl⟩)
 all_goals ((try simp only [beq_iff_eq,beq_eq_false_iff_ne,ne_eq] at *);unfold jby;(repeat (first | rw [if_pos (by omega)] | rw [if_neg (by omega)]));(try simp only [Value.tuple.injEq,List.toArray_inj]));first | rfl | (congr 3 <;> omega) | (simp;omega)
def fitS (n v : Nat) : Bool:=if n = 1 then true else if n = 2 then decide (128 ≤ v) else if n = 3 then decide (2048 ≤ v ∧ (v < 55296 ∨ 57343 < v)) else decide (65536 ≤ v ∧ v ≤ 1114111)
theorem jfQ (V : Int) (n v : Nat) (hV : V = (v : Int)) (hn : n = 1 ∨ n = 2 ∨ n = 3 ∨ n = 4) (w : World) :
  Calls Tryz.prog 176 #[.int .i32 V, .int .i64 n] w fun e w' => e = .returned (.bool (fitS n v)) ∧ w = w':=by
 have HV:=Lib.hid hV
 clear hV
 rcases hn with rfl | rfl | rfl | rfl
 all_goals
  go_enter Tryz.func176,Tryz.ntmps176
  go_wp2_with fail
 all_goals (refine jba (by (simp [results,Tryz.results176,go_sem, *]) <;> rfl) rfl ?_ ⟨rfl,rfl⟩)
 all_goals have hV:=HV.out
 all_goals first | rfl | (refine congrArg Value.bool ?_;rw [Bool.eq_iff_iff];simp [fitS];omega)
theorem jdQ : ∀ (k v : Nat) (l : List UInt8),l.length < k → runS v k l = none
 | 0,_,_,h => by omega
 | k + 1,_,[],_ => rfl
 | k + 1,v,a :: r,h => by
   simp only [runS]
   split
   ·exact jdQ k _ r (by simp at h;omega)
   ·rfl
theorem jdF {x n v0 ls u : Nat} (h : jby x = (n,v0,ls)) (hn : n ≠ 0) (hb : (n = 1 ∧ u < 128) ∨ (n = 2 ∧ u < 2048) ∨ (n = 3 ∧ u < 65536) ∨ n = 4) : jfa n ls (some u) = if fitS n u = true then (u,n) else badS:=by
 have hl : (n = 1 ∧ ls = 0) ∨ (n = 2 ∧ ls = 128) ∨ (n = 3 ∧ ls = 2048) ∨ (n = 4 ∧ ls = 65536):=by
  unfold jby at h
  repeat' split at h
  all_goals (simp only [Prod.mk.injEq] at h;omega)
 unfold jfa fitS
 rcases hl with ⟨rfl,rfl⟩ | ⟨rfl,rfl⟩ | ⟨rfl,rfl⟩ | ⟨rfl,rfl⟩
 all_goals ((try simp only [Nat.reduceEqDiff,if_true,if_false,Nat.not_lt_zero,false_or,decide_eq_true_eq]);(repeat' split);all_goals first | rfl | (exfalso;omega) | (exfalso;simp_all;done) | (exfalso;simp_all;omega))
theorem jgE {x n v0 ls : Nat} (hx : x < 256) (h : jby x = (n,v0,ls)) : (n = 0 ∧ v0 = 0) ∨ (n = 1 ∧ v0 < 128) ∨ (n = 2 ∧ v0 < 32) ∨ (n = 3 ∧ v0 < 16) ∨ (n = 4 ∧ v0 < 8):=by
 unfold jby at h
 repeat' split at h
 all_goals (simp only [Prod.mk.injEq] at h;omega)
def Dig (n j u : Nat) : Prop:=(n = 1 ∧ j = 0 ∧ u < 128) ∨ (n = 2 ∧ ((j = 0 ∧ u < 32) ∨ (j = 1 ∧ u < 2048))) ∨ (n = 3 ∧ ((j = 0 ∧ u < 16) ∨ (j = 1 ∧ u < 1024) ∨ (j = 2 ∧ u < 65536))) ∨ (n = 4 ∧ ((j = 0 ∧ u < 8) ∨ (j = 1 ∧ u < 512) ∨ (j = 2 ∧ u < 32768) ∨ (j = 3 ∧ u < 2097152)))
abbrev decV (r n : Int) (g : Bool) : Value := .tuple #[.int .i32 r, .int .i64 n, .bool g]
set_option maxHeartbeats 1000000
theorem jml (sa : Option Addr) (cap : Nat) (l : List UInt8) (w : World) (h : BytesAt w sa l) (hi : 0 < l.length) (hcap : l.length ≤ cap) :
  Calls Tryz.prog 147 #[.slice sa l.length cap, .int .i64 0] w fun e w' => (∃ g,e = .returned (decV (decS l).1 (decS l).2 g)) ∧ w' = w:=by
 have HB:=Lib.hid h
 have hm:=h.1
 obtain ⟨b,off,X,rfl,hc,hX,hx0,hx1⟩:=h.byte 0 hi
 rw [Nat.add_zero] at hc
 have hb:=jaj hc
 clear h
 obtain ⟨x,hx⟩ : ∃ x : Nat,x = (l.getD 0 0).toNat:=⟨_,rfl⟩
 rw [← hx] at hX
 subst hX
 rcases hq : jby x with ⟨n,v0,ls⟩
 have hbd:=jgE (by omega) hq
 have hw:=Lib.hid (jng x (by omega))
 rw [hq] at hw
 dsimp only at hw
 obtain ⟨len,hlen⟩ : ∃ len,Hid (l.length = len):=⟨_,rfl⟩
 obtain ⟨d,hd⟩ : ∃ d,Hid (decS l = d):=⟨_,rfl⟩
 rw [hd.out]
 have HI:=Lib.hid hi
 rw [hlen.out] at hi hm hcap ⊢
 have HX:=Lib.hid (And.intro hx hq)
 clear hx hq
 by_cases hn : n = 0
 ·subst hn
  have hd2 : Hid (d = badS):=by
   unfold Hid
   rw [← hd.out]
   have:=jf9 l 0 v0 ls HI.out (by rw [← HX.out.1];exact HX.out.2)
   simpa using this
  clear hbd
  go_enter Tryz.func147,Tryz.ntmps147
  go_wp2_with (first | (go_at_call 175;refine (hw.out _).mono ?_;rintro e w2 ⟨rfl,rfl⟩))
  refine bodyPost_ret (v:=decV 65533 1 false) (by simp [results,Tryz.results147,go_sem, *]) rfl ⟨⟨false,by rw [hd2.out];rfl⟩,rfl⟩
 ·have hD:=Lib.hid (jc3 l 0 n v0 ls HI.out (by rw [← HX.out.1];exact HX.out.2) hn)
  have hn0 : ¬ (n : Int) = 0:=by omega
  have hn4 : n ≤ 4:=by omega
  by_cases hnl : len < n
  ·have hd2 : Hid (d = badS):=by
    unfold Hid
    rw [← hd.out]
    have h1:=hD.out
    rw [jdQ _ _ _ (by rw [List.length_drop,hlen.out];omega)] at h1
    simpa [jfa] using h1
   have hnl2 : (len : Int) < (n : Int):=by omega
   clear hbd hnl hn
   go_enter Tryz.func147,Tryz.ntmps147
   go_wp2_with (first | (go_at_call 175;refine (hw.out _).mono ?_;rintro e w2 ⟨rfl,rfl⟩))
   refine bodyPost_ret (v:=decV 65533 1 false) (by simp [results,Tryz.results147,go_sem, *]) rfl ⟨⟨false,by rw [hd2.out];rfl⟩,rfl⟩
  ·have hnl2 : (n : Int) ≤ (len : Int):=by omega
   have hnl3 : n ≤ len:=by omega
   have hn1 : 1 ≤ n:=by omega
   have HN:=Lib.hid (And.intro hbd (And.intro hn hnl))
   clear hbd hn
   have hnz : ((n : Int) == 0) = false:=by simpa using hn0
   by_cases hone : n = 1
   ·subst hone
    have hd1 : Hid (d = jfa 1 ls (some v0)):=by
     unfold Hid
     rw [← hd.out]
     simpa [runS] using hD.out
    have hd2 : Hid (d = if fitS 1 v0 = true then (v0,1) else badS):=by
     unfold Hid
     rw [hd1.out]
     exact jdF HX.out.2 (by omega) (.inl ⟨rfl,by rcases HN.out.1 with h | h | h | h | h <;> omega⟩)
    have hv : Hid (d = (v0,1)):=hd2.out
    clear hn0 hn4 hnl2 hnl3 hn1 hd1 hd2
    go_enter Tryz.func147,Tryz.ntmps147
    go_wp2_with (first | (go_at_call 175;refine (hw.out _).mono ?_;rintro e w2 ⟨rfl,rfl⟩))
    all_goals
     refine wp_loop_rounds 1 ?_
     rw [rounds_succ]
     go_wp2_with (first | (go_at_call 176;refine (jfQ v0 1 v0 rfl (.inl rfl) _).mono ?_;rintro e w2 ⟨rfl,rfl⟩;rw [show fitS 1 v0 = true from rfl]))
    all_goals refine bodyPost_ret (v:=decV v0 1 true) (by simp [results,Tryz.results147,go_sem, *]) rfl ⟨⟨true,by rw [hv.out];rfl⟩,rfl⟩
   ·have hc1 : ¬ cap = 1:=by omega
    go_enter Tryz.func147,Tryz.ntmps147
    go_wp2_with (first | (go_at_call 175;refine (hw.out _).mono ?_;rintro e w2 ⟨rfl,rfl⟩))
    go_loopw [8,10,45] (fun r _ i wr => ∃ (j u : Nat),j + 1 ≤ n ∧ r = .int .i32 u ∧ i = .int .i64 j ∧ Hid (runS v0 (n - 1) (l.drop 1) = runS u (n - 1 - j) (l.drop (1 + j))) ∧ Dig n j u ∧ wr = w) (fun _ _ i _ => n - (intOf i).toNat)
    case atStart => exact ⟨0,v0,by omega,rfl,rfl,rfl,by have:=HN.out.1;unfold Dig;omega,rfl⟩
    case round =>
     obtain ⟨j,u,hj,rfl,rfl,hrun,hdg,rfl⟩:=hrel
     have hub : u < 33554432:=by unfold Dig at hdg;omega
     have HG:=Lib.hid hdg
     clear hdg
     by_cases hlt : j < n - 1
     ·obtain ⟨b',off',Z,hbe,hZc,hZ,hz0,hz1⟩:=HB.out.byte (1 + j) (by rw [hlen.out];omega)
      obtain ⟨rfl,rfl⟩ : b = b' ∧ off = off':=by simpa using hbe
      obtain ⟨z,hz⟩ : ∃ z : Nat,z = (l.getD (1 + j) 0).toNat:=⟨_,rfl⟩
      rw [← hz] at hZ
      subst hZ
      have HZ:=Lib.hid hz
      clear hz hbe
      rw [← Nat.add_assoc] at hZc
      by_cases hz2 : z / 64 = 2
      ·have hz3 : ((z : Int) / 64 == 2) = true:=by simp;omega
       go_wp2_with fail
       go_roundw
       case rel =>
        refine ⟨j + 1,u * 64 + z % 64,by omega,by congr 1,by congr 1,?_,?_,trivial⟩
        ·unfold Hid
         have h1 : 128 ≤ (l.getD (1 + j) 0).toNat:=by rw [← HZ.out];omega
         have h2 : (l.getD (1 + j) 0).toNat ≤ 191:=by rw [← HZ.out];omega
         rw [hrun.out,show n - 1 - j = (n - 1 - (j + 1)) + 1 by omega,jct u (n - 1 - (j + 1)) (1 + j) l (by rw [hlen.out];omega) h1 h2, ← HZ.out]
         congr 1
         omega
        ·have:=HG.out
         unfold Dig at this ⊢
         omega
       case measure => simp [intOf];omega
      ·have hz3 : ((z : Int) / 64 == 2) = false:=by simp;omega
       have hd2 : Hid (d = badS):=by
        unfold Hid
        have h1:=hD.out
        rw [List.drop_zero,hd.out,Nat.zero_add,hrun.out,show n - 1 - j = (n - 1 - (j + 1)) + 1 by omega,jcs u (n - 1 - (j + 1)) (1 + j) l (by rw [← HZ.out];omega)] at h1
        exact h1
       go_wp2_with fail
       refine bodyPost_ret (v:=decV 65533 1 false) (by simp [results,Tryz.results147,go_sem, *]) rfl ⟨⟨false,by rw [hd2.out];rfl⟩,rfl⟩
     ·obtain rfl : j = n - 1:=by omega
      have hd2 : Hid (d = if fitS n u = true then (u,n) else badS):=by
       unfold Hid
       have h1:=hD.out
       rw [List.drop_zero,hd.out,Nat.zero_add,hrun.out,Nat.sub_self] at h1
       rw [h1]
       simp only [runS]
       refine jdF HX.out.2 (by omega) ?_
       have:=HG.out
       unfold Dig at this
       omega
      cases hft : fitS n u
      ·have hd3 : Hid (d = badS):=by unfold Hid;simp [hd2.out,hft]
       go_wp2_with (first | (go_at_call 176;refine (jfQ u n u rfl (by omega) _).mono ?_;rintro e w2 ⟨rfl,rfl⟩;rw [hft]))
       refine bodyPost_ret (v:=decV 65533 1 false) (by simp [results,Tryz.results147,go_sem, *]) rfl ⟨⟨false,by rw [hd3.out];rfl⟩,rfl⟩
      ·have hd3 : Hid (d = (u,n)):=by unfold Hid;simp [hd2.out,hft]
       go_wp2_with (first | (go_at_call 176;refine (jfQ u n u rfl (by omega) _).mono ?_;rintro e w2 ⟨rfl,rfl⟩;rw [hft]))
       refine bodyPost_ret (v:=decV u n true) (by simp [results,Tryz.results147,go_sem, *]) rfl ⟨⟨true,by rw [hd3.out]⟩,rfl⟩
attribute [local go_sem] Oper.semAt_some
def jb7 (w : World) (s : ByteArray) : World:=w.drew.alloc (.cells (bytesRow s (grownCap w s.size 0 5)) 5 ((bytesRow s (grownCap w s.size 0 5)).size,(bytesRow s (grownCap w s.size 0 5)).size + 1))
theorem jaE (w : World) (s : ByteArray) : Up w (jb7 w s):=(Up.refl w).drew.alloc _
theorem jft (w : World) (s : ByteArray) : (jb7 w s).heap.size = w.heap.size + 1:=by simp [jb7]
theorem je0 (s : ByteArray) (w : World) : (convert 9 193 (.string s)).run Tryz.prog w = .ok (.slice (some ⟨w.heap.size,0,none⟩) s.size (grownCap w s.size 0 5)) (jb7 w s) :=
 run_bytes_of_string w _ _ 5 s Tryz.underlying9 Tryz.underlying193 Tryz.underlying5
theorem jbf (w : World) (s : ByteArray) (h : s.size ≤ 1000000000) : BytesAt (jb7 w s) (some ⟨w.heap.size,0,none⟩) s.data.toList:=by
 refine ⟨by simpa using h,fun k hk => ⟨_,0,rfl,?_⟩⟩
 have hk' : k < s.data.size:=by simpa using hk
 have:=World.cell?_alloc_mark w.drew (bytesRow s (grownCap w s.size 0 5)) 5 ((bytesRow s (grownCap w s.size 0 5)).size,(bytesRow s (grownCap w s.size 0 5)).size + 1) (0 + k)
 rw [Nat.zero_add] at this ⊢
 rw [bytesRow_at s _ k hk'] at this
 refine Eq.trans this ?_
 simp [List.getD,Array.getElem?_eq_getElem hk']
theorem jlI (b cap : Nat) (l : List UInt8) (w : World) (h : BytesAt w (some ⟨b,0,none⟩) l) : (convert 193 9 (.slice (some ⟨b,0,none⟩) l.length cap)).run Tryz.prog w = .ok (.string ⟨l.toArray⟩) w :=
 run_convert_bytes_back w _ _ 5 ⟨b,0,none⟩ cap l Tryz.underlying193 Tryz.underlying5 Tryz.underlying9 fun j hj => by
  obtain ⟨b',off,h1,h2⟩:=h.2 j hj
  cases h1
  rw [Addr.add_lit]
  simpa [List.getD,List.getElem?_eq_getElem hj] using h2
theorem jnV (b cap : Nat) (l : List UInt8) (w : World) (h : BytesAt w (some ⟨b,0,none⟩) l) :
  Calls Tryz.prog 179 #[.slice (some ⟨b,0,none⟩) l.length cap] w fun e w' => e = .returned (.func (.func 199) #[] #[.pointer (some ⟨w.heap.size,0,none⟩)]) ∧ w' = w.alloc (.cells #[.string ⟨l.toArray⟩] 9):=by
 have hc:=jlI b cap l w h
 clear h
 go_enter Tryz.func179,Tryz.ntmps179
 go_wp2_with fail
 go_ret
 exact ⟨rfl,rfl⟩
def encR (x : Nat × Nat) : Array Value := #[.int .i64 x.1, .int .i32 x.2]
theorem jbS (s : ByteArray) (a m : Nat) : (s.extract a m).data.toList = (s.data.toList.drop a).take (m - a):=by
 simp [ByteArray.data_extract,Array.toList_extract,List.extract_eq_take_drop]
theorem jjT (q : Nat) (cap : Nat) (s : ByteArray) (w : World) (h : BytesAt w (some ⟨q,0,none⟩) s.data.toList) (hi : 0 < s.size) (hcap : s.size ≤ cap) :
  Calls Tryz.prog 147 #[.slice (some ⟨q,0,none⟩) s.size cap, .int .i64 0] w fun e w' => (∃ g,e = .returned (decV (decS s.data.toList).1 (decS s.data.toList).2 g)) ∧ w' = w:=by
 have e : s.data.toList.length = s.size:=by simp
 have:=jml (some ⟨q,0,none⟩) cap s.data.toList w h (by omega) (by omega)
 rw [e] at this
 exact this
attribute [local go_sem] je0
structure OneKeep (n : Nat) (a b : World) : Prop where
 size : a.heap.size ≤ b.heap.size
 same : ∀ x o,x ≠ n → a.heap[x]? = some o → (o.isCells = true) → b.heap[x]? = some o
theorem OneKeep.refl (n : Nat) (w : World) : OneKeep n w w:=⟨Nat.le_refl _,fun _ _ _ h _ => h⟩
theorem OneKeep.trans {n : Nat} {a b c : World} (h : OneKeep n a b) (k : OneKeep n b c) : OneKeep n a c:=⟨Nat.le_trans h.size k.size,fun x o hx h1 h2 => k.same x o hx (h.same x o hx h1 h2) h2⟩
theorem OneKeep.up {n : Nat} {a b c : World} (h : OneKeep n a b) (k : Up b c) : OneKeep n a c:=⟨Nat.le_trans h.size k.size,fun x o hx h1 h2 => k.get (h.same x o hx h1 h2)⟩
theorem OneKeep.putObj (n : Nat) (W : World) (l : Nat) (o o' : Obj) (h : W.heap[l]? = some o) (hc : o.isCells = false) : OneKeep n W (W.putObj l o') where
 size:=by simp
 same:=fun x u _ hx hu => by
  rw [World.putObj_heap_other (fun e => by subst e;rw [h] at hx;cases hx;rw [hc] at hu;cases hu)]
  exact hx
theorem OneKeep.setCell (n i : Nat) (W : World) (v : Value) : OneKeep n W (W.setCell ⟨n,i,none⟩ v):=⟨by rw [jam];exact Nat.le_refl _,fun x o hx h _ => by rw [ja2 hx];exact h⟩
end Go.Proofs.YtiaepldmgighbaaGreatDoor
