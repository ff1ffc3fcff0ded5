import Derived.Shelf.Strings.BuilderK
import Derived.RangeFuncFrom
import Derived.Deep.Light
import Derived.Deep.CutRange
import Derived.Deep.DeepCutAuto
import Derived.Outline
import Derived.Laws.IdiomStrings
import Derived.Test.YtiaepldmgighbaaGreatDoorU34
import Derived.Test.YtiaepldmgighbaaGreatDoorU29
import Derived.Test.YtiaepldmgighbaaGreatDoorU12
import Derived.Test.YtiaepldmgighbaaGreatDoorU24
namespace Go.Proofs.YtiaepldmgighbaaGreatDoor
open Go.RowKit
set_option linter.unusedSimpArgs false
theorem jjS (s : ByteArray) (w0 W : World) (q cap : Nat) (hW : W = jb7 w0 s) (hq : q = w0.heap.size) (hs : s.size ≤ 1000000000) : Calls Tryz.prog 179 #[.slice (some ⟨q,0,none⟩) s.size cap] W fun e w' => ∃ tb,e = .returned (.func (.func 199) #[] #[.pointer (some ⟨tb,0,none⟩)]) ∧ w'.heap[tb]? = some (.cells #[.string s] 9 (0,0)) ∧ W.heap.size ≤ tb ∧ Up W w':=by
 subst hW hq
 have:=jnV w0.heap.size cap s.data.toList (jb7 w0 s) (jbf w0 s hs)
 rw [show s.data.toList.length = s.size by simp] at this
 refine this.mono ?_
 rintro e w' ⟨rfl,rfl⟩
 exact ⟨_,rfl,ja9 _ _,Nat.le_refl _,(Up.refl _).alloc _⟩
attribute [local go_sem] Oper.semAt_some je0
structure QK (b : Nat) (a c : World) : Prop where
 size : a.heap.size ≤ c.heap.size
 same : ∀ x cs t fz,x ≠ b → t ≠ ByT → a.heap[x]? = some (.cells cs t fz) → c.heap[x]? = some (.cells cs t fz)
theorem QK.refl (b : Nat) (w : World) : QK b w w:=⟨Nat.le_refl _,fun _ _ _ _ _ _ h => h⟩
theorem QK.trans {b : Nat} {x y z : World} (h : QK b x y) (k : QK b y z) : QK b x z:=⟨Nat.le_trans h.size k.size,fun i cs t fz hi ht hx => k.same i cs t fz hi ht (h.same i cs t fz hi ht hx)⟩
theorem QK.up {b : Nat} {x y z : World} (h : QK b x y) (k : Up y z) : QK b x z:=h.trans ⟨k.size,fun _ _ _ _ _ _ hx => k.get hx⟩
theorem QK.putObj (b : Nat) (W : World) (l : Nat) (o o' : Obj) (h : W.heap[l]? = some o) (hc : o.isCells = false) : QK b W (W.putObj l o') where
 size:=by simp
 same:=fun x cs t fz _ _ hx => by
  rw [World.putObj_heap_other (fun e => by subst e;rw [h] at hx;cases hx;cases hc)]
  exact hx
theorem jmY {b : Nat} {bs : List UInt8} {w w' : World} (h : Built b bs w w') : QK b w w' :=
 ⟨h.low.size,fun x cs t fz hx ht hc => h.others x _ hc (fun e => hx (by cases e;rfl)) (fun c f e => ht (by cases e;rfl))⟩
theorem IsB.cells {b : Nat} {bs : List UInt8} {w : World} (h : IsB b bs w) : ∃ (cs : Array Value) (t : TypeId) (fz : Nat × Nat),w.heap[b]? = some (.cells cs t fz):=by
 rcases h with h | h
 ·obtain ⟨_,v,hv,_⟩:=h;exact ⟨_,_,_,hv⟩
 ·obtain ⟨_,v,hv,_⟩:=h;exact ⟨_,_,_,hv⟩
theorem jip {b : Nat} {bs bs0 : List UInt8} {w w' : World} (h0 : IsB b bs0 w) (h : Built b bs w w') : KeepsOthers w w':=by
 obtain ⟨cs,t,fz,hb⟩:=h0.cells
 refine ⟨h.low.size,fun k o hk ho => h.others k o hk (fun e => ?_) (fun c f e => by subst e;cases ho)⟩
 have e : k = b:=by cases e;rfl
 rw [e,hb] at hk
 cases hk
 cases ho
def QuoI (w : World) (pre : List (Nat × Nat)) (W : World) : Prop:=Up w W ∧ IsB w.heap.size (jaH ⟨#[34]⟩ pre).data.toList W
theorem QuoI.own (w : World) (B : Nat) (hB : w.heap.size ≤ B) : OwnFrom B (QuoI w):=fun _ _ _ _ hs hg hr =>
 ⟨hs.1.grown hg (fun r e => Nat.le_trans hB (hr r e).1),hs.2.kept fun _ _ _ _ hx => jaI hx hg hr⟩
theorem QuoI.on {w W W' : World} {pre : List (Nat × Nat)} {x : Nat × Nat} (h : QuoI w pre W) (k : Built w.heap.size ((jaH ⟨#[34]⟩ pre).data.toList ++ (jac x.2).data.toList) W W') : QuoI w (pre ++ [x]) W':=by
 refine ⟨⟨k.low.os.trans h.1.os,k.low.tape.trans h.1.tape,k.low.output.trans h.1.output,Nat.le_trans h.1.size k.low.size,fun i hi => (k.low.block i hi).trans (h.1.block i hi)⟩,?_⟩
 have e : (jaH ⟨#[34]⟩ (pre ++ [x])).data.toList = (jaH ⟨#[34]⟩ pre).data.toList ++ (jac x.2).data.toList:=by
  unfold jaH
  rw [List.foldl_append,List.foldl_cons,List.foldl_nil]
  simp [ByteArray.data_append]
 rw [e]
 exact k.is
theorem jfJ (pre : List (Nat × Nat)) : (jaH ⟨#[34]⟩ pre).data.toList.length ≤ 1 + 6 * pre.length:=by
 have key : ∀ (l : List (Nat × Nat)) (acc : ByteArray),(jaH acc l).size ≤ acc.size + 6 * l.length:=by
  intro l
  induction l with
  | nil => intro acc;simp [jaH]
  | cons x l ih =>
    intro acc
    have h:=ih (acc ++ jac x.2)
    have h2:=jeI x.2
    rw [ByteArray.size_append] at h
    show (jaH (acc ++ jac x.2) l).size ≤ _
    simp only [List.length_cons]
    omega
 have h:=key pre ⟨#[34]⟩
 have h1 : (⟨#[34]⟩ : ByteArray).size = 1:=rfl
 have h2 : (jaH ⟨#[34]⟩ pre).data.toList.length = (jaH ⟨#[34]⟩ pre).size:=by simp
 rw [h1] at h
 omega
theorem Built.after {b : Nat} {bs1 bs2 : List UInt8} {x y z : World} (h : Built b bs1 x y) (k : Built b bs2 y z) : Built b bs2 x z:=⟨k.at_,h.low.trans k.low,h.others.trans k.others⟩
theorem Built.behind {b : Nat} {bs2 : List UInt8} {x y z : World} (hb : b ≤ x.heap.size) (h : Up x y) (k : Built b bs2 y z) : Built b bs2 x z:=⟨k.at_,Below.trans (Below.mono h hb) k.low,fun i o hi h1 h2 => k.others i o (h.get hi) h1 h2⟩
theorem jch (b : Nat) (bs : List UInt8) (c : UInt8) (z : Int) (hz : (c.toNat : Int) = z) (w : World) (h : IsB b bs w) (hlen : bs.length + 1 ≤ 140737488355328) :
  Calls Tryz.prog 178 #[.pointer (some ⟨b,0,none⟩), .int .u8 z] w fun e w' => e = .returned .nilIface ∧ Built b (bs ++ [c]) w w':=by
 subst hz
 exact jir b bs c w h hlen
theorem jdc (b : Nat) (bs : List UInt8) (r : Nat) (z : Int) (hz : (r : Int) = z) (hr : r ≤ 1114111) (w : World) (h : IsB b bs w) (hlen : bs.length + 4 ≤ 140737488355328) :
  Calls Tryz.prog 180 #[.pointer (some ⟨b,0,none⟩), .int .i32 z] w fun e w' => (∃ n,e = .returned (.tuple #[.int .i64 n, .nilIface])) ∧ Built b (bs ++ (Utf8.encode r).data.toList) w w':=by
 subst hz
 exact jiq b bs r hr w h hlen
theorem jn1 (b : Nat) (bs : List UInt8) (w : World) (h : IsB b bs w) :
  Calls Tryz.prog 183 #[.pointer (some ⟨b,0,none⟩)] w fun e w' => e = .returned (.string ⟨bs.toArray⟩) ∧ Below b w w' ∧ Lib.OthersKept ByT (some b) w w' :=
 (Any.Builder_String_any_k Tryz.lays169 Tryz.Builder_Extra_169 b b bs w (Lib.IsBuilderF.of h) (Nat.le_of_lt h.lt)).mono fun _ _ ⟨h1,_,h2,h3⟩ => ⟨h1,h2,h3⟩
theorem jmb {w W W' : World} {pre : List RunT} {x : RunT} {bs : List UInt8} (hI : QuoI w (pre.map (·.1)) W) (hB : Built w.heap.size bs W W') (he : bs = (jaH ⟨#[34]⟩ (pre.map (·.1))).data.toList ++ (jac x.1.2).data.toList) :
  KeepsOthers W W' ∧ QK w.heap.size W W' ∧ QuoI w ((pre ++ [x]).map (·.1)) W':=by
 subst he
 refine ⟨jip hI.2 hB,jmY hB,?_⟩
 rw [List.map_append]
 exact hI.on hB
set_option maxRecDepth 100000
set_option maxHeartbeats 4000000
theorem jnW (s : ByteArray) (hs : s.size ≤ 1000000000) (w : World) (hb : Bru w) : Calls Tryz.prog 149 #[.string s] w fun e w' => e = .returned (.string (jbJ s)) ∧ Up w w':=by
 have HS:=Lib.hid hs
 have HB:=Lib.hid hb
 have HS2:=Lib.hid (show s.size ≤ 1000000000 by omega)
 have HLE : Hid ((jaz s.data.toList).length ≤ 1000000000):=Nat.le_trans (jdP _ _ _) (show s.data.toList.length ≤ 1000000000 by have h3 : s.data.toList.length = s.size:=rfl;omega)
 clear hs hb
 have HN:=Lib.hid (IsB.new w)
 refine callsIn_wide.1 (callsIn_of_wp_marks (n:=2) Tryz.func149 rfl trivial ?_)
 refine wpIn_wide.2 ?_
 simp only [Tryz.ntmps149,List.size_toArray,List.length_cons,List.length_nil,Nat.reduceAdd,Nat.reduceSub,Array.replicate_succ,Array.replicate_zero,List.push_toArray,List.append_toArray,List.nil_append,List.cons_append]
 go_wp2_with (first | (go_at_call 178;refine (jch w.heap.size [] 34 _ rfl _ HN.out (by decide)).mono ?_;rintro e w1 ⟨rfl,hB1⟩) | (go_at_call 179;refine (jjS s _ _ _ _ rfl (by simp) HS2.out).mono ?_;rintro e w2 ⟨tb,rfl,htb,htl,hu2⟩))
 have hu12 : Up w1 w2:=Up.trans (jaE _ _) hu2
 have hI0 : QuoI w (([] : List RunT).map (·.1)) w2:=by
  refine ⟨Up.trans ?_ hu12,(hB1.is).up hu12⟩
  exact ⟨hB1.low.os,hB1.low.tape,hB1.low.output,Nat.le_trans (by simp) hB1.low.size,fun i hi => (hB1.low.block i hi).trans (Below.heap_alloc _ _ _ hi)⟩
 have hbt : w.heap.size < w1.heap.size:=hB1.is.lt
 have htn : tb ≠ w.heap.size:=by rw [jft] at htl;omega
 have hw2:=ja0 htb
 clear hB1 hu12 htl hu2
 refine ja4 fun A W4 hA hW => ?_
 subst hW
 refine (wpIn_wide (n:=2)).1 ?_
 refine wpIn_rangeFunc_ownF rfl (by omega) (gf:=199) (lb := #[.pointer (some ⟨tb,0,none⟩)]) (by subst hA;rfl) trivial (enters_of Tryz.func199 (by kernel_rfl) rfl)
  (jgZ tb s HS2.out (QK w.heap.size) (QK.refl _) (fun _ _ _ => QK.trans) (fun _ _ _ => QK.up) W4 (fun X Y hX hY => ⟨by have:=ja1 (hY.same tb _ _ _ htn (by decide) (hX.get htb)) 0;simpa using this,hY.size⟩))
  QK.trans (fun W l o o' _ h1 h2 _ => QK.putObj _ W l o o' h1 h2) (Below.refl _ _) (fun _ => rfl)
  (fun (pre : List RunT) W => QuoI w (pre.map (·.1)) W) (fun _ _ _ => False) (fun s => QuoI.own w _ hI0.1.size (s.map (·.1))) (fun _ _ _ _ _ h _ _ => h) hI0
  (fun (x : RunT) => { tmps:=((A.tmps.setIfInBounds 10 (.int .i64 x.1.1)).setIfInBounds 11 (.int .i32 x.1.2)).setIfInBounds 5 (.int .i32 x.1.2),defers := [] }) ?assign ?body ?done ?stop
 case assign => intro l x W K hK;subst hA;gi_wp2;simpa [encR] using hK
 case body =>
  rintro l pre ⟨⟨x1,r⟩,hrb⟩ W hI hlen
  have hrb : r ≤ 1114111:=hrb
  have hq : (jaH ⟨#[34]⟩ (pre.map (·.1))).data.toList.length ≤ 6000000001:=by have h1:=jfJ (pre.map (·.1));have h2:=HLE.out;rw [List.length_map] at h1;omega
  have HI:=Lib.hid hI
  have HQ:=Lib.hid hq
  have HP : Hid (∀ (bs : List UInt8) (W' : World),bs = (jaH ⟨#[34]⟩ (pre.map (·.1))).data.toList ++ (jac r).data.toList → Built w.heap.size bs W W' → KeepsOthers W W' ∧ QK w.heap.size W W' ∧ QuoI w ((pre ++ [(⟨⟨x1,r⟩,hrb⟩ : RunT)]).map (·.1)) W'):=fun bs W' he hB => jmb hI hB he
  have hri : (r : Int) ≤ 1114111:=by omega
  clear hI hlen hq htb htn hI0
  subst hA
  simp only [List.setIfInBounds_toArray,List.set_cons_succ,List.set_cons_zero]
  by_cases c1 : r = 92
  ·subst c1
   gi_wp2_with (first | (refine ⟨trivial,rfl,?_⟩;gi_at_call 178;refine (CallsIn.inRound l (callsIn_wide.2 (jch w.heap.size _ 92 _ rfl _ HI.out.2 (by have:=HQ.out;omega)))).mono ?_;rintro e W2 ⟨rfl,hB2⟩) | (refine ⟨trivial,rfl,?_⟩;gi_at_call 180;refine (CallsIn.inRound l (callsIn_wide.2 (jdc w.heap.size _ 92 _ rfl (by omega) _ hB2.is (by have:=HQ.out;simp only [List.length_append,List.length_cons,List.length_nil];omega)))).mono ?_;rintro e W3 ⟨⟨m,rfl⟩,hB3⟩))
   exact HP.out _ _ (by rw [List.append_assoc];rfl) (hB2.after hB3)
  by_cases c2 : r = 34
  ·subst c2
   gi_wp2_with (first | (refine ⟨trivial,rfl,?_⟩;gi_at_call 178;refine (CallsIn.inRound l (callsIn_wide.2 (jch w.heap.size _ 92 _ rfl _ HI.out.2 (by have:=HQ.out;omega)))).mono ?_;rintro e W2 ⟨rfl,hB2⟩) | (refine ⟨trivial,rfl,?_⟩;gi_at_call 180;refine (CallsIn.inRound l (callsIn_wide.2 (jdc w.heap.size _ 34 _ rfl (by omega) _ hB2.is (by have:=HQ.out;simp only [List.length_append,List.length_cons,List.length_nil];omega)))).mono ?_;rintro e W3 ⟨⟨m,rfl⟩,hB3⟩))
   exact HP.out _ _ (by rw [List.append_assoc];rfl) (hB2.after hB3)
  by_cases c3 : r = 10
  ·subst c3
   gi_wp2_with (first | (refine ⟨trivial,rfl,?_⟩;gi_at_call 181;refine (CallsIn.inRound l (callsIn_wide.2 (jbp w.heap.size _ _ _ HI.out.2 (by have:=HQ.out;show _ + 2 ≤ _;omega)))).mono ?_;rintro e W3 ⟨rfl,hB3⟩))
   exact HP.out _ _ rfl hB3
  by_cases c4 : r = 13
  ·subst c4
   gi_wp2_with (first | (refine ⟨trivial,rfl,?_⟩;gi_at_call 181;refine (CallsIn.inRound l (callsIn_wide.2 (jbp w.heap.size _ _ _ HI.out.2 (by have:=HQ.out;show _ + 2 ≤ _;omega)))).mono ?_;rintro e W3 ⟨rfl,hB3⟩))
   exact HP.out _ _ rfl hB3
  by_cases c5 : r = 9
  ·subst c5
   gi_wp2_with (first | (refine ⟨trivial,rfl,?_⟩;gi_at_call 181;refine (CallsIn.inRound l (callsIn_wide.2 (jbp w.heap.size _ _ _ HI.out.2 (by have:=HQ.out;show _ + 2 ≤ _;omega)))).mono ?_;rintro e W3 ⟨rfl,hB3⟩))
   exact HP.out _ _ rfl hB3
  have e1 : ((r : Int) == 92) = false:=by simp;omega
  have e2 : ((r : Int) == 34) = false:=by simp;omega
  have e3 : ((r : Int) == 10) = false:=by simp;omega
  have e4 : ((r : Int) == 13) = false:=by simp;omega
  have e5 : ((r : Int) == 9) = false:=by simp;omega
  by_cases c6 : r < 32 ∨ r = 127
  ·have hqr : Hid (jac r = ⟨#[92,117,123]⟩ ++ hexS r ++ ⟨#[125]⟩):=by unfold Hid jac;rw [if_neg (by omega),if_neg c3,if_neg c4,if_neg c5,if_pos c6]
   have hx2:=jf4 r
   have HC:=Lib.hid c6
   rcases c6 with c6 | c6
   ·have c7 : (r : Int) < 32:=by omega
    clear c1 c2 c3 c4 c5 c6
    gi_wp2_with (first | (refine ⟨trivial,rfl,?_⟩;gi_at_call 182;refine (CallsIn.inRound l (callsIn_wide.2 (jhc r HC.out _ (HB.out.up HI.out.1)))).mono ?_;rintro e W2 ⟨rfl,hu2⟩) | (refine ⟨trivial,rfl,?_⟩;gi_at_call 181;refine (CallsIn.inRound l (callsIn_wide.2 (jbp w.heap.size _ _ _ (HI.out.2.up hu2) (by have:=HQ.out;simp only [ByteArray.size_append];have h7 : (⟨#[92,117,123]⟩ : ByteArray).size = 3:=rfl;have h8 : (⟨#[125]⟩ : ByteArray).size = 1:=rfl;omega)))).mono ?_;rintro e W3 ⟨rfl,hB3⟩))
    exact HP.out _ _ (by rw [hqr.out]) (hB3.behind (Nat.le_of_lt HI.out.2.lt) hu2)
   ·subst c6
    gi_wp2_with (first | (refine ⟨trivial,rfl,?_⟩;gi_at_call 182;refine (CallsIn.inRound l (callsIn_wide.2 (jhc 127 (.inr rfl) _ (HB.out.up HI.out.1)))).mono ?_;rintro e W2 ⟨rfl,hu2⟩) | (refine ⟨trivial,rfl,?_⟩;gi_at_call 181;refine (CallsIn.inRound l (callsIn_wide.2 (jbp w.heap.size _ _ _ (HI.out.2.up hu2) (by have:=HQ.out;simp only [ByteArray.size_append];have h7 : (⟨#[92,117,123]⟩ : ByteArray).size = 3:=rfl;have h8 : (⟨#[125]⟩ : ByteArray).size = 1:=rfl;omega)))).mono ?_;rintro e W3 ⟨rfl,hB3⟩))
    exact HP.out _ _ (by rw [hqr.out]) (hB3.behind (Nat.le_of_lt HI.out.2.lt) hu2)
  ·have hqr : Hid (jac r = Utf8.encode r):=by unfold Hid jac;rw [if_neg (by omega),if_neg c3,if_neg c4,if_neg c5,if_neg c6]
   have c7 : ¬ (r : Int) < 32:=by omega
   have c8 : ((r : Int) == 127) = false:=by simp;omega
   clear c1 c2 c3 c4 c5 c6
   gi_wp2_with (first | (refine ⟨trivial,rfl,?_⟩;gi_at_call 180;refine (CallsIn.inRound l (callsIn_wide.2 (jdc w.heap.size _ r _ rfl (by omega) _ HI.out.2 (by have:=HQ.out;omega)))).mono ?_;rintro e W3 ⟨⟨m,rfl⟩,hB3⟩))
   exact HP.out _ _ (by rw [hqr.out]) hB3
 case done =>
  rintro D xs W hD hxs hI hK
  have HI:=Lib.hid hI
  have HK:=Lib.hid hK
  have hq : (jaH ⟨#[34]⟩ (xs.map (·.1))).data.toList.length ≤ 6000000001:=by have h1:=jfJ (xs.map (·.1));have h2:=HLE.out;rw [← hxs] at h2;omega
  have HQ:=Lib.hid hq
  have HX : Hid (xs.map (·.1) = jaz s.data.toList):=hxs
  have hI2 : Hid (w.heap.size < D):=by have:=hI0.2.lt;unfold Hid;omega
  clear hI hK hq hxs htb htn hI0
  subst hA
  go_wp2_with (first | (go_at_call 178;refine (jch w.heap.size _ 34 _ rfl _ HI.out.2 (by have:=HQ.out;omega)).mono ?_;rintro e W2 ⟨rfl,hB2⟩) | (go_at_call 183;refine (jn1 w.heap.size _ _ hB2.is).mono ?_;rintro e W3 ⟨rfl,hb3,ho3⟩))
  have hK3 : W3.heap[D]? = some (.deferred (some [])):=ho3 D _ (hB2.others D _ HK.out (fun e => by
    have e : D = w.heap.size:=by cases e;rfl
    have:=hI2.out
    omega) (fun c f e => by cases e)) (fun e => by
    have e : D = w.heap.size:=by cases e;rfl
    have:=hI2.out
    omega) (fun c f e => by cases e)
  refine ⟨by simp, .inl ⟨_,_,rfl,run_takeDeferred hK3,?_⟩⟩
  refine ⟨_,results_tmp rfl _ _ _,?_,?_⟩
  ·have e : (⟨((jaH ⟨#[34]⟩ (xs.map (fun y : RunT => y.1))).data.toList ++ [34]).toArray⟩ : ByteArray) = jbJ s:=by
    unfold jbJ
    rw [HX.out]
    apply ByteArray.ext
    apply Array.ext'
    simp [ByteArray.data_append]
   exact congrArg (fun x => Ending.returned (Value.string x)) e
  ·refine Up.grown (W:=W3) ?_ (grownBy_putObj' _ D _) (fun r e => by cases e;have:=hI2.out;omega)
   have u1:=HI.out.1
   exact ⟨hb3.os.trans (hB2.low.os.trans u1.os),hb3.tape.trans (hB2.low.tape.trans u1.tape),hb3.output.trans (hB2.low.output.trans u1.output),Nat.le_trans u1.size (Nat.le_trans hB2.low.size hb3.size),fun b hb => (hb3.block b hb).trans ((hB2.low.block b hb).trans (u1.block b hb))⟩
 case stop =>
  rintro D c pre W hD hSp h hK
  exact h.elim
theorem jh3 : jdG:=fun s w hs hb => jnW s hs w hb
end Go.Proofs.YtiaepldmgighbaaGreatDoor
namespace Go.Proofs.YtiaepldmgighbaaGreatDoor
open Go.RowKit
set_option linter.unusedSimpArgs false
set_option maxRecDepth 100000
theorem r_cont (sa : Option Addr) (cap : Nat) (l : List UInt8) (i : Nat) (w : World) (h : BytesAt w sa l) :
  Calls Tryz.prog 191 #[.slice sa l.length cap, .int .i64 i] w fun e w' => e = .returned (.bool (decide (i < l.length ∧ 128 ≤ (l.getD i 0).toNat ∧ (l.getD i 0).toNat ≤ 191))) ∧ w = w':=by
 obtain ⟨hm,h⟩:=h
 by_cases hlt : i < l.length
 ·obtain ⟨b,off,rfl,hc⟩:=h i hlt
  have hb:=jaj hc
  clear h
  obtain ⟨X,hX⟩ : ∃ X : Int,X = ((l.getD i 0).toNat : Int):=⟨_,rfl⟩
  have hg : Hid ((decide (i < l.length ∧ 128 ≤ (l.getD i 0).toNat ∧ (l.getD i 0).toNat ≤ 191)) = (decide (128 ≤ X) && decide (X ≤ 191))):=by
   unfold Hid;subst hX;generalize (l.getD i 0).toNat = y;rw [← Bool.decide_and];simp only [decide_eq_decide];omega
  rw [hg.out]
  rw [← hX] at hc
  clear hX hg
  generalize l.length = len at hlt hm ⊢
  by_cases h1 : 128 ≤ X
  ·go_enter Tryz.func191,Tryz.ntmps191
   go_wp2_with fail
   go_ret
   exact ⟨by simp [h1],rfl⟩
  ·go_enter Tryz.func191,Tryz.ntmps191
   go_wp2_with fail
   go_ret
   exact ⟨by simp;omega,rfl⟩
 ·clear h
  have h2 : ¬ (i : Int) < l.length:=by omega
  go_enter Tryz.func191,Tryz.ntmps191
  go_wp2_with fail
  go_ret
  exact ⟨by simp [hlt],rfl⟩
theorem jbZ (sa : Option Addr) (cap len : Nat) (l : List UInt8) (hl : l.length = len) (i : Nat) (q : Int) (hq : q = (i : Int)) (w : World) (h : BytesAt w sa l) :
  Calls Tryz.prog 191 #[.slice sa len cap, .int .i64 q] w fun e w' => e = .returned (.bool (decide (i < l.length ∧ 128 ≤ (l.getD i 0).toNat ∧ (l.getD i 0).toNat ≤ 191))) ∧ w = w':=by
 subst hq hl
 exact r_cont sa cap l i w h
def Bnd (j u : Nat) : Prop:=(j = 0 ∧ u < 32) ∨ (j = 1 ∧ u < 2048) ∨ (j = 2 ∧ u < 131072) ∨ (j = 3 ∧ u < 8388608)
abbrev rowV (at_ r n : Int) (g : Bool) : Value := .agg #[.int .i64 at_, .int .i32 r, .int .i64 n, .bool g]
set_option maxHeartbeats 1000000
theorem jma (sa : Option Addr) (cap : Nat) (l : List UInt8) (at_ : Nat) (w : World) (h : BytesAt w sa l) (hi : at_ < l.length) :
  Calls Tryz.prog 167 #[.slice sa l.length cap, .int .i64 at_] w fun e w' => (∃ g,e = .returned (rowV at_ (decS (l.drop at_)).1 (decS (l.drop at_)).2 g)) ∧ Up w w':=by
 have HB:=Lib.hid h
 have hm:=h.1
 obtain ⟨b,off,X,rfl,hc,hX,hx0,hx1⟩:=h.byte at_ hi
 have hb:=jaj hc
 clear h
 by_cases h128 : X < 128
 ·have hd1:=jc3 l at_ 1 _ 0 hi (show jby (l.getD at_ 0).toNat = (1,(l.getD at_ 0).toNat,0) by unfold jby;rw [if_pos (by omega)]) (by omega)
  have hd2 : Hid (decS (l.drop at_) = (X.toNat,1)):=by
   unfold Hid
   rw [hd1,hX]
   simp only [runS,jfa,Nat.sub_self]
   rw [if_neg (by omega)]
   rfl
  rw [hd2.out]
  clear hd1
  obtain ⟨len,hlen⟩ : ∃ len,Hid (l.length = len):=⟨_,rfl⟩
  rw [hlen.out] at hi hm ⊢
  obtain ⟨Y,hY,hYX⟩ : ∃ Y : Int,Hid (Y = (X.toNat : Int)) ∧ X = Y:=⟨_,rfl,by omega⟩
  rw [← hY.out]
  subst hYX
  have HX:=Lib.hid hX
  clear hX hY
  go_enter Tryz.func167,Tryz.ntmps167
  go_wp2_with fail
  refine bodyPost_ret (v:=rowV at_ X 1 true) (by simp [results,Tryz.results167,go_sem, *]) rfl ⟨⟨true,rfl⟩,uq⟩
 ·by_cases h192 : 192 ≤ X ∧ X ≤ 223
  ·obtain ⟨h1,h2⟩:=h192
   have hw : jby (l.getD at_ 0).toNat = (2,(l.getD at_ 0).toNat - 192,128):=by
    unfold jby
    repeat (first | rw [if_neg (by omega)] | rw [if_pos (by omega)])
   have hD:=Lib.hid (jc3 l at_ 2 _ 128 hi hw (by omega))
   obtain ⟨V,hV⟩ : ∃ V : Nat,Hid (V = (l.getD at_ 0).toNat - 192):=⟨_,rfl⟩
   rw [← hV.out] at hD
   obtain ⟨V0,hV0,hv0⟩ : ∃ V0 : Nat,Hid (V0 = V) ∧ X - 192 = (V0 : Int):=⟨V,rfl,by rw [hV.out];omega⟩
   have hvb : V0 < 32:=by omega
   have HI:=Lib.hid hi
   obtain ⟨len,hlen⟩ : ∃ len,Hid (l.length = len):=⟨_,rfl⟩
   rw [hlen.out] at hi hm ⊢
   obtain ⟨d,hd⟩ : ∃ d,Hid (decS (l.drop at_) = d):=⟨_,rfl⟩
   rw [hd.out]
   have HX:=Lib.hid hX
   clear hX hw
   go_enter Tryz.func167,Tryz.ntmps167
   go_wp2_with fail
   go_loopw [8,10] (fun v i wr => ∃ (j u : Nat),j + 1 ≤ 2 ∧ i = .int .i64 ((j : Int) + 1) ∧ v = .int .i64 u ∧ Hid (runS V 1 (l.drop (at_ + 1)) = runS u (1 - j) (l.drop (at_ + (j + 1)))) ∧ Bnd j u ∧ Up w wr ∧ wr.heap[w.heap.size + 1]? = some (.cells #[.int .i64 at_, .int .i32 65533, .int .i64 1, .bool false] 195 (0,0)) ∧ wr.heap[w.heap.size]? = some (.cells #[.int .i64 0, .int .i32 0, .int .i64 0, .bool false] 195 (0,0))) (fun _ i _ => 2 - (intOf i).toNat)
   case atStart => exact ⟨0,V0,by omega,rfl,rfl,by unfold Hid;rw [hV0.out], .inl ⟨rfl,hvb⟩,uq,by first | exact ja9 _ _ | exact jaa _ _ _ (by simp),(by repeat (first | exact jaa _ _ _ (by simp) | rw [jao _ _ _ (by (try simp only [gQw,jam]);omega)] | rw [ja2 (by omega)] | assumption))⟩
   case round =>
    obtain ⟨j,u,hj,rfl,rfl,hrun,hbd,hup,hbad,hres⟩:=hrel
    have s0:=hbad
    have g3:=ja1 s0 3
    simp only [gQa,gQz,gQs] at g3
    have a0:=ja1 s0 0;have a1:=ja1 s0 1;have a2:=ja1 s0 2;have f0:=jab s0 0;have f1:=jab s0 1;have f2:=jab s0 2;have a4:=ja0 s0;(try simp only [gQw,gQa,gQz,gQs] at a0 a1 a2 f0 f1 f2 a4);clear s0
    have s0:=hres
    have g3':=ja1 s0 3
    have g4:=jab s0 3
    simp only [gQa,gQz,gQs] at g3'
    have a0:=ja1 s0 0;have a1:=ja1 s0 1;have a2:=ja1 s0 2;have f0:=jab s0 0;have f1:=jab s0 1;have f2:=jab s0 2;have a4:=ja0 s0;(try simp only [gQw,gQa,gQz,gQs] at a0 a1 a2 f0 f1 f2 a4);clear s0
    have HRS:=Lib.hid hres
    clear hres
    have hub : u < 8388608:=by rcases hbd with h | h | h | h <;> omega
    have hj3 : j ≤ 3:=by omega
    have hsz:=hup.size
    have HBD:=Lib.hid hbd
    have HBX:=Lib.hid hbad
    clear hbd hbad
    by_cases hlt : (j : Int) + 1 < 2
    ·by_cases hc2 : at_ + (j + 1) < l.length ∧ 128 ≤ (l.getD (at_ + (j + 1)) 0).toNat ∧ (l.getD (at_ + (j + 1)) 0).toNat ≤ 191
     ·have hcc : Hid (decide (at_ + (j + 1) < l.length ∧ 128 ≤ (l.getD (at_ + (j + 1)) 0).toNat ∧ (l.getD (at_ + (j + 1)) 0).toNat ≤ 191) = true):=decide_eq_true hc2
      obtain ⟨hc3,hc4,hc5⟩:=hc2
      have hst:=Lib.hid (jct u (1 - j - 1) (at_ + (j + 1)) l hc3 hc4 hc5)
      obtain ⟨b',off',Z,hbe,hZc,hZ,_,_⟩:=(HB.out.up hup).byte (at_ + (j + 1)) hc3
      obtain ⟨rfl,rfl⟩ : b = b' ∧ off = off':=by simpa using hbe
      have hz1 : 128 ≤ Z:=by omega
      have hz2 : Z ≤ 191:=by omega
      have HZ:=Lib.hid hZ
      rw [hlen.out] at hc3
      have hlt2 : (j : Int) + 1 + at_ < len:=by omega
      clear hc4 hc5 hZ hbe
      go_wp2_with (first | (go_at_call 191;refine (jbZ _ cap len l hlen.out (at_ + (j + 1)) _ (by omega) _ (HB.out.up uq)).mono ?_;rintro e w2 ⟨rfl,rfl⟩;rw [hcc.out]))
      go_roundw
      case rel =>
       refine ⟨j + 1,(u * 64 + (Z.toNat - 128)),by omega,by first | rfl | (congr 1;omega),by congr 1;omega,?_,?_,uq,HBX.out,HRS.out⟩
       ·unfold Hid
        rw [hrun.out,show 1 - j = (1 - j - 1) + 1 by omega,hst.out,show 1 - (j + 1) = 1 - j - 1 by omega,show at_ + (j + 1 + 1) = at_ + (j + 1) + 1 by omega,HZ.out]
        rfl
       ·have:=HBD.out
        unfold Bnd at this ⊢
        omega
      case measure => simp [intOf];omega
     ·have hcc : Hid (decide (at_ + (j + 1) < l.length ∧ 128 ≤ (l.getD (at_ + (j + 1)) 0).toNat ∧ (l.getD (at_ + (j + 1)) 0).toNat ≤ 191) = false):=decide_eq_false hc2
      have hd2 : Hid (d = badS):=by
       unfold Hid
       rw [← hd.out,hD.out,show 2 - 1 = 1 from rfl,hrun.out,show 1 - j = (1 - j - 1) + 1 by omega,jcs _ _ _ l hc2]
       rfl
      clear hc2
      go_wp2_with (first | (go_at_call 191;refine (jbZ _ cap len l hlen.out (at_ + (j + 1)) _ (by omega) _ (HB.out.up uq)).mono ?_;rintro e w2 ⟨rfl,rfl⟩;rw [hcc.out]))
      refine bodyPost_ret (v:=rowV at_ 65533 1 false) (by simp [results,Tryz.results167,go_sem, *]) rfl (by first | exact ⟨⟨false,by rw [hd2.out];rfl⟩,uq⟩ | exact ⟨.inl (by rw [hd2.out];rfl),uq⟩)
    ·have hj2 : j = 1:=by omega
     have hd1 : Hid (d = jfa 2 128 (some u)):=by
      unfold Hid
      rw [← hd.out,hD.out,show 2 - 1 = 1 from rfl,hrun.out,hj2]
      simp only [Nat.sub_self,runS]
     clear hj2
     by_cases hbadv : u < 128 ∨ 1114111 < u ∨ (55296 ≤ u ∧ u ≤ 57343)
     ·have hd2 : Hid (d = badS):=by unfold Hid;rw [hd1.out];exact if_pos hbadv
      rcases hbadv with h1 | h1 | ⟨h1,h2⟩
      ·go_wp2_with fail
       refine bodyPost_ret (v:=rowV at_ 65533 1 false) (by simp [results,Tryz.results167,go_sem, *]) rfl (by first | exact ⟨⟨false,by rw [hd2.out];rfl⟩,uq⟩ | exact ⟨.inl (by rw [hd2.out];rfl),uq⟩)
      ·go_wp2_with fail
       all_goals refine bodyPost_ret (v:=rowV at_ 65533 1 false) (by simp [results,Tryz.results167,go_sem, *]) rfl (by first | exact ⟨⟨false,by rw [hd2.out];rfl⟩,uq⟩ | exact ⟨.inl (by rw [hd2.out];rfl),uq⟩)
      ·go_wp2_with fail
       all_goals refine bodyPost_ret (v:=rowV at_ 65533 1 false) (by simp [results,Tryz.results167,go_sem, *]) rfl (by first | exact ⟨⟨false,by rw [hd2.out];rfl⟩,uq⟩ | exact ⟨.inl (by rw [hd2.out];rfl),uq⟩)
     ·have hd2 : Hid (d = (u,2)):=by unfold Hid;rw [hd1.out];exact if_neg hbadv
      have h3 : ¬ (u : Int) < 128:=by omega
      have h4 : ¬ (1114111 : Int) < u:=by omega
      by_cases h5 : 55296 ≤ u
      ·have h6 : ¬ (u : Int) ≤ 57343:=by omega
       clear hbadv
       go_wp2_with fail
       refine bodyPost_ret (v:=rowV at_ u 2 true) (by simp [results,Tryz.results167,go_sem, *]) rfl (by first | exact ⟨⟨true,by rw [hd2.out];rfl⟩,uq⟩ | exact ⟨.inr (by rw [hd2.out];rfl),uq⟩)
      ·have h6 : ¬ (55296 : Int) ≤ u:=by omega
       clear hbadv h5
       go_wp2_with fail
       refine bodyPost_ret (v:=rowV at_ u 2 true) (by simp [results,Tryz.results167,go_sem, *]) rfl (by first | exact ⟨⟨true,by rw [hd2.out];rfl⟩,uq⟩ | exact ⟨.inr (by rw [hd2.out];rfl),uq⟩)
  ·by_cases h224 : 224 ≤ X ∧ X ≤ 239
   ·obtain ⟨h1,h2⟩:=h224
    have h3 : ¬ X ≤ 223:=by omega
    clear h192
    have hw : jby (l.getD at_ 0).toNat = (3,(l.getD at_ 0).toNat - 224,2048):=by
     unfold jby
     repeat (first | rw [if_neg (by omega)] | rw [if_pos (by omega)])
    have hD:=Lib.hid (jc3 l at_ 3 _ 2048 hi hw (by omega))
    obtain ⟨V,hV⟩ : ∃ V : Nat,Hid (V = (l.getD at_ 0).toNat - 224):=⟨_,rfl⟩
    rw [← hV.out] at hD
    obtain ⟨V0,hV0,hv0⟩ : ∃ V0 : Nat,Hid (V0 = V) ∧ X - 224 = (V0 : Int):=⟨V,rfl,by rw [hV.out];omega⟩
    have hvb : V0 < 32:=by omega
    have HI:=Lib.hid hi
    obtain ⟨len,hlen⟩ : ∃ len,Hid (l.length = len):=⟨_,rfl⟩
    rw [hlen.out] at hi hm ⊢
    obtain ⟨d,hd⟩ : ∃ d,Hid (decS (l.drop at_) = d):=⟨_,rfl⟩
    rw [hd.out]
    have HX:=Lib.hid hX
    clear hX hw
    go_enter Tryz.func167,Tryz.ntmps167
    go_wp2_with fail
    go_loopw [8,10] (fun v i wr => ∃ (j u : Nat),j + 1 ≤ 3 ∧ i = .int .i64 ((j : Int) + 1) ∧ v = .int .i64 u ∧ Hid (runS V 2 (l.drop (at_ + 1)) = runS u (2 - j) (l.drop (at_ + (j + 1)))) ∧ Bnd j u ∧ Up w wr ∧ wr.heap[w.heap.size + 1]? = some (.cells #[.int .i64 at_, .int .i32 65533, .int .i64 1, .bool false] 195 (0,0)) ∧ wr.heap[w.heap.size]? = some (.cells #[.int .i64 0, .int .i32 0, .int .i64 0, .bool false] 195 (0,0))) (fun _ i _ => 3 - (intOf i).toNat)
    case atStart => exact ⟨0,V0,by omega,rfl,rfl,by unfold Hid;rw [hV0.out], .inl ⟨rfl,hvb⟩,uq,by first | exact ja9 _ _ | exact jaa _ _ _ (by simp),(by repeat (first | exact jaa _ _ _ (by simp) | rw [jao _ _ _ (by (try simp only [gQw,jam]);omega)] | rw [ja2 (by omega)] | assumption))⟩
    case round =>
     obtain ⟨j,u,hj,rfl,rfl,hrun,hbd,hup,hbad,hres⟩:=hrel
     have s0:=hbad
     have g3:=ja1 s0 3
     simp only [gQa,gQz,gQs] at g3
     have a0:=ja1 s0 0;have a1:=ja1 s0 1;have a2:=ja1 s0 2;have f0:=jab s0 0;have f1:=jab s0 1;have f2:=jab s0 2;have a4:=ja0 s0;(try simp only [gQw,gQa,gQz,gQs] at a0 a1 a2 f0 f1 f2 a4);clear s0
     have s0:=hres
     have g3':=ja1 s0 3
     have g4:=jab s0 3
     simp only [gQa,gQz,gQs] at g3'
     have a0:=ja1 s0 0;have a1:=ja1 s0 1;have a2:=ja1 s0 2;have f0:=jab s0 0;have f1:=jab s0 1;have f2:=jab s0 2;have a4:=ja0 s0;(try simp only [gQw,gQa,gQz,gQs] at a0 a1 a2 f0 f1 f2 a4);clear s0
     have HRS:=Lib.hid hres
     clear hres
     have hub : u < 8388608:=by rcases hbd with h | h | h | h <;> omega
     have hj3 : j ≤ 3:=by omega
     have hsz:=hup.size
     have HBD:=Lib.hid hbd
     have HBX:=Lib.hid hbad
     clear hbd hbad
     by_cases hlt : (j : Int) + 1 < 3
     ·by_cases hc2 : at_ + (j + 1) < l.length ∧ 128 ≤ (l.getD (at_ + (j + 1)) 0).toNat ∧ (l.getD (at_ + (j + 1)) 0).toNat ≤ 191
      ·have hcc : Hid (decide (at_ + (j + 1) < l.length ∧ 128 ≤ (l.getD (at_ + (j + 1)) 0).toNat ∧ (l.getD (at_ + (j + 1)) 0).toNat ≤ 191) = true):=decide_eq_true hc2
       obtain ⟨hc3,hc4,hc5⟩:=hc2
       have hst:=Lib.hid (jct u (2 - j - 1) (at_ + (j + 1)) l hc3 hc4 hc5)
       obtain ⟨b',off',Z,hbe,hZc,hZ,_,_⟩:=(HB.out.up hup).byte (at_ + (j + 1)) hc3
       obtain ⟨rfl,rfl⟩ : b = b' ∧ off = off':=by simpa using hbe
       have hz1 : 128 ≤ Z:=by omega
       have hz2 : Z ≤ 191:=by omega
       have HZ:=Lib.hid hZ
       rw [hlen.out] at hc3
       have hlt2 : (j : Int) + 1 + at_ < len:=by omega
       clear hc4 hc5 hZ hbe
       go_wp2_with (first | (go_at_call 191;refine (jbZ _ cap len l hlen.out (at_ + (j + 1)) _ (by omega) _ (HB.out.up uq)).mono ?_;rintro e w2 ⟨rfl,rfl⟩;rw [hcc.out]))
       go_roundw
       case rel =>
        refine ⟨j + 1,(u * 64 + (Z.toNat - 128)),by omega,by first | rfl | (congr 1;omega),by congr 1;omega,?_,?_,uq,HBX.out,HRS.out⟩
        ·unfold Hid
         rw [hrun.out,show 2 - j = (2 - j - 1) + 1 by omega,hst.out,show 2 - (j + 1) = 2 - j - 1 by omega,show at_ + (j + 1 + 1) = at_ + (j + 1) + 1 by omega,HZ.out]
         rfl
        ·have:=HBD.out
         unfold Bnd at this ⊢
         omega
       case measure => simp [intOf];omega
      ·have hcc : Hid (decide (at_ + (j + 1) < l.length ∧ 128 ≤ (l.getD (at_ + (j + 1)) 0).toNat ∧ (l.getD (at_ + (j + 1)) 0).toNat ≤ 191) = false):=decide_eq_false hc2
       have hd2 : Hid (d = badS):=by
        unfold Hid
        rw [← hd.out,hD.out,show 3 - 1 = 2 from rfl,hrun.out,show 2 - j = (2 - j - 1) + 1 by omega,jcs _ _ _ l hc2]
        rfl
       clear hc2
       go_wp2_with (first | (go_at_call 191;refine (jbZ _ cap len l hlen.out (at_ + (j + 1)) _ (by omega) _ (HB.out.up uq)).mono ?_;rintro e w2 ⟨rfl,rfl⟩;rw [hcc.out]))
       refine bodyPost_ret (v:=rowV at_ 65533 1 false) (by simp [results,Tryz.results167,go_sem, *]) rfl (by first | exact ⟨⟨false,by rw [hd2.out];rfl⟩,uq⟩ | exact ⟨.inl (by rw [hd2.out];rfl),uq⟩)
     ·have hj2 : j = 2:=by omega
      have hd1 : Hid (d = jfa 3 2048 (some u)):=by
       unfold Hid
       rw [← hd.out,hD.out,show 3 - 1 = 2 from rfl,hrun.out,hj2]
       simp only [Nat.sub_self,runS]
      clear hj2
      by_cases hbadv : u < 2048 ∨ 1114111 < u ∨ (55296 ≤ u ∧ u ≤ 57343)
      ·have hd2 : Hid (d = badS):=by unfold Hid;rw [hd1.out];exact if_pos hbadv
       rcases hbadv with h1 | h1 | ⟨h1,h2⟩
       ·go_wp2_with fail
        refine bodyPost_ret (v:=rowV at_ 65533 1 false) (by simp [results,Tryz.results167,go_sem, *]) rfl (by first | exact ⟨⟨false,by rw [hd2.out];rfl⟩,uq⟩ | exact ⟨.inl (by rw [hd2.out];rfl),uq⟩)
       ·go_wp2_with fail
        all_goals refine bodyPost_ret (v:=rowV at_ 65533 1 false) (by simp [results,Tryz.results167,go_sem, *]) rfl (by first | exact ⟨⟨false,by rw [hd2.out];rfl⟩,uq⟩ | exact ⟨.inl (by rw [hd2.out];rfl),uq⟩)
       ·go_wp2_with fail
        all_goals refine bodyPost_ret (v:=rowV at_ 65533 1 false) (by simp [results,Tryz.results167,go_sem, *]) rfl (by first | exact ⟨⟨false,by rw [hd2.out];rfl⟩,uq⟩ | exact ⟨.inl (by rw [hd2.out];rfl),uq⟩)
      ·have hd2 : Hid (d = (u,3)):=by unfold Hid;rw [hd1.out];exact if_neg hbadv
       have h3 : ¬ (u : Int) < 2048:=by omega
       have h4 : ¬ (1114111 : Int) < u:=by omega
       by_cases h5 : 55296 ≤ u
       ·have h6 : ¬ (u : Int) ≤ 57343:=by omega
        clear hbadv
        go_wp2_with fail
        refine bodyPost_ret (v:=rowV at_ u 3 true) (by simp [results,Tryz.results167,go_sem, *]) rfl (by first | exact ⟨⟨true,by rw [hd2.out];rfl⟩,uq⟩ | exact ⟨.inr (by rw [hd2.out];rfl),uq⟩)
       ·have h6 : ¬ (55296 : Int) ≤ u:=by omega
        clear hbadv h5
        go_wp2_with fail
        refine bodyPost_ret (v:=rowV at_ u 3 true) (by simp [results,Tryz.results167,go_sem, *]) rfl (by first | exact ⟨⟨true,by rw [hd2.out];rfl⟩,uq⟩ | exact ⟨.inr (by rw [hd2.out];rfl),uq⟩)
   ·by_cases h240 : 240 ≤ X ∧ X ≤ 247
    ·obtain ⟨h1,h2⟩:=h240
     have h3 : ¬ X ≤ 223:=by omega
     have h4 : ¬ X ≤ 239:=by omega
     clear h192 h224
     have hw : jby (l.getD at_ 0).toNat = (4,(l.getD at_ 0).toNat - 240,65536):=by
      unfold jby
      repeat (first | rw [if_neg (by omega)] | rw [if_pos (by omega)])
     have hD:=Lib.hid (jc3 l at_ 4 _ 65536 hi hw (by omega))
     obtain ⟨V,hV⟩ : ∃ V : Nat,Hid (V = (l.getD at_ 0).toNat - 240):=⟨_,rfl⟩
     rw [← hV.out] at hD
     obtain ⟨V0,hV0,hv0⟩ : ∃ V0 : Nat,Hid (V0 = V) ∧ X - 240 = (V0 : Int):=⟨V,rfl,by rw [hV.out];omega⟩
     have hvb : V0 < 32:=by omega
     have HI:=Lib.hid hi
     obtain ⟨len,hlen⟩ : ∃ len,Hid (l.length = len):=⟨_,rfl⟩
     rw [hlen.out] at hi hm ⊢
     obtain ⟨d,hd⟩ : ∃ d,Hid (decS (l.drop at_) = d):=⟨_,rfl⟩
     rw [hd.out]
     have HX:=Lib.hid hX
     clear hX hw
     go_enter Tryz.func167,Tryz.ntmps167
     go_wp2_with fail
     go_loopw [8,10] (fun v i wr => ∃ (j u : Nat),j + 1 ≤ 4 ∧ i = .int .i64 ((j : Int) + 1) ∧ v = .int .i64 u ∧ Hid (runS V 3 (l.drop (at_ + 1)) = runS u (3 - j) (l.drop (at_ + (j + 1)))) ∧ Bnd j u ∧ Up w wr ∧ wr.heap[w.heap.size + 1]? = some (.cells #[.int .i64 at_, .int .i32 65533, .int .i64 1, .bool false] 195 (0,0)) ∧ wr.heap[w.heap.size]? = some (.cells #[.int .i64 0, .int .i32 0, .int .i64 0, .bool false] 195 (0,0))) (fun _ i _ => 4 - (intOf i).toNat)
     case atStart => exact ⟨0,V0,by omega,rfl,rfl,by unfold Hid;rw [hV0.out], .inl ⟨rfl,hvb⟩,uq,by first | exact ja9 _ _ | exact jaa _ _ _ (by simp),(by repeat (first | exact jaa _ _ _ (by simp) | rw [jao _ _ _ (by (try simp only [gQw,jam]);omega)] | rw [ja2 (by omega)] | assumption))⟩
     case round =>
      obtain ⟨j,u,hj,rfl,rfl,hrun,hbd,hup,hbad,hres⟩:=hrel
      have s0:=hbad
      have g3:=ja1 s0 3
      simp only [gQa,gQz,gQs] at g3
      have a0:=ja1 s0 0;have a1:=ja1 s0 1;have a2:=ja1 s0 2;have f0:=jab s0 0;have f1:=jab s0 1;have f2:=jab s0 2;have a4:=ja0 s0;(try simp only [gQw,gQa,gQz,gQs] at a0 a1 a2 f0 f1 f2 a4);clear s0
      have s0:=hres
      have g3':=ja1 s0 3
      have g4:=jab s0 3
      simp only [gQa,gQz,gQs] at g3'
      have a0:=ja1 s0 0;have a1:=ja1 s0 1;have a2:=ja1 s0 2;have f0:=jab s0 0;have f1:=jab s0 1;have f2:=jab s0 2;have a4:=ja0 s0;(try simp only [gQw,gQa,gQz,gQs] at a0 a1 a2 f0 f1 f2 a4);clear s0
      have HRS:=Lib.hid hres
      clear hres
      have hub : u < 8388608:=by rcases hbd with h | h | h | h <;> omega
      have hj3 : j ≤ 3:=by omega
      have hsz:=hup.size
      have HBD:=Lib.hid hbd
      have HBX:=Lib.hid hbad
      clear hbd hbad
      by_cases hlt : (j : Int) + 1 < 4
      ·by_cases hc2 : at_ + (j + 1) < l.length ∧ 128 ≤ (l.getD (at_ + (j + 1)) 0).toNat ∧ (l.getD (at_ + (j + 1)) 0).toNat ≤ 191
       ·have hcc : Hid (decide (at_ + (j + 1) < l.length ∧ 128 ≤ (l.getD (at_ + (j + 1)) 0).toNat ∧ (l.getD (at_ + (j + 1)) 0).toNat ≤ 191) = true):=decide_eq_true hc2
        obtain ⟨hc3,hc4,hc5⟩:=hc2
        have hst:=Lib.hid (jct u (3 - j - 1) (at_ + (j + 1)) l hc3 hc4 hc5)
        obtain ⟨b',off',Z,hbe,hZc,hZ,_,_⟩:=(HB.out.up hup).byte (at_ + (j + 1)) hc3
        obtain ⟨rfl,rfl⟩ : b = b' ∧ off = off':=by simpa using hbe
        have hz1 : 128 ≤ Z:=by omega
        have hz2 : Z ≤ 191:=by omega
        have HZ:=Lib.hid hZ
        rw [hlen.out] at hc3
        have hlt2 : (j : Int) + 1 + at_ < len:=by omega
        clear hc4 hc5 hZ hbe
        go_wp2_with (first | (go_at_call 191;refine (jbZ _ cap len l hlen.out (at_ + (j + 1)) _ (by omega) _ (HB.out.up uq)).mono ?_;rintro e w2 ⟨rfl,rfl⟩;rw [hcc.out]))
        go_roundw
        case rel =>
         refine ⟨j + 1,(u * 64 + (Z.toNat - 128)),by omega,by first | rfl | (congr 1;omega),by congr 1;omega,?_,?_,uq,HBX.out,HRS.out⟩
         ·unfold Hid
          rw [hrun.out,show 3 - j = (3 - j - 1) + 1 by omega,hst.out,show 3 - (j + 1) = 3 - j - 1 by omega,show at_ + (j + 1 + 1) = at_ + (j + 1) + 1 by omega,HZ.out]
          rfl
         ·have:=HBD.out
          unfold Bnd at this ⊢
          omega
        case measure => simp [intOf];omega
       ·have hcc : Hid (decide (at_ + (j + 1) < l.length ∧ 128 ≤ (l.getD (at_ + (j + 1)) 0).toNat ∧ (l.getD (at_ + (j + 1)) 0).toNat ≤ 191) = false):=decide_eq_false hc2
        have hd2 : Hid (d = badS):=by
         unfold Hid
         rw [← hd.out,hD.out,show 4 - 1 = 3 from rfl,hrun.out,show 3 - j = (3 - j - 1) + 1 by omega,jcs _ _ _ l hc2]
         rfl
        clear hc2
        go_wp2_with (first | (go_at_call 191;refine (jbZ _ cap len l hlen.out (at_ + (j + 1)) _ (by omega) _ (HB.out.up uq)).mono ?_;rintro e w2 ⟨rfl,rfl⟩;rw [hcc.out]))
        refine bodyPost_ret (v:=rowV at_ 65533 1 false) (by simp [results,Tryz.results167,go_sem, *]) rfl (by first | exact ⟨⟨false,by rw [hd2.out];rfl⟩,uq⟩ | exact ⟨.inl (by rw [hd2.out];rfl),uq⟩)
      ·have hj2 : j = 3:=by omega
       have hd1 : Hid (d = jfa 4 65536 (some u)):=by
        unfold Hid
        rw [← hd.out,hD.out,show 4 - 1 = 3 from rfl,hrun.out,hj2]
        simp only [Nat.sub_self,runS]
       clear hj2
       by_cases hbadv : u < 65536 ∨ 1114111 < u ∨ (55296 ≤ u ∧ u ≤ 57343)
       ·have hd2 : Hid (d = badS):=by unfold Hid;rw [hd1.out];exact if_pos hbadv
        rcases hbadv with h1 | h1 | ⟨h1,h2⟩
        ·go_wp2_with fail
         refine bodyPost_ret (v:=rowV at_ 65533 1 false) (by simp [results,Tryz.results167,go_sem, *]) rfl (by first | exact ⟨⟨false,by rw [hd2.out];rfl⟩,uq⟩ | exact ⟨.inl (by rw [hd2.out];rfl),uq⟩)
        ·go_wp2_with fail
         all_goals refine bodyPost_ret (v:=rowV at_ 65533 1 false) (by simp [results,Tryz.results167,go_sem, *]) rfl (by first | exact ⟨⟨false,by rw [hd2.out];rfl⟩,uq⟩ | exact ⟨.inl (by rw [hd2.out];rfl),uq⟩)
        ·go_wp2_with fail
         all_goals refine bodyPost_ret (v:=rowV at_ 65533 1 false) (by simp [results,Tryz.results167,go_sem, *]) rfl (by first | exact ⟨⟨false,by rw [hd2.out];rfl⟩,uq⟩ | exact ⟨.inl (by rw [hd2.out];rfl),uq⟩)
       ·have hd2 : Hid (d = (u,4)):=by unfold Hid;rw [hd1.out];exact if_neg hbadv
        have h3 : ¬ (u : Int) < 65536:=by omega
        have h4 : ¬ (1114111 : Int) < u:=by omega
        have h5 : (55296 : Int) ≤ u:=by omega
        have h6 : ¬ (u : Int) ≤ 57343:=by omega
        clear hbadv
        go_wp2_with fail
        refine bodyPost_ret (v:=rowV at_ u 4 true) (by simp [results,Tryz.results167,go_sem, *]) rfl (by first | exact ⟨⟨true,by rw [hd2.out];rfl⟩,uq⟩ | exact ⟨.inr (by rw [hd2.out];rfl),uq⟩)
    ·have hd2 : Hid (decS (l.drop at_) = badS):=by
      refine jf9 l at_ 0 0 hi ?_
      unfold jby
      repeat (first | rw [if_neg (by omega)] | rw [if_pos (by omega)])
     rw [hd2.out]
     obtain ⟨len,hlen⟩ : ∃ len,Hid (l.length = len):=⟨_,rfl⟩
     rw [hlen.out] at hi hm ⊢
     have HX:=Lib.hid hX
     clear hX
     by_cases q1 : X < 192
     ·have q2 : ¬ 192 ≤ X:=by omega
      have q3 : ¬ 224 ≤ X:=by omega
      have q4 : ¬ 240 ≤ X:=by omega
      clear h192 h224 h240 q1
      go_enter Tryz.func167,Tryz.ntmps167
      go_wp2_with fail
      refine bodyPost_ret (v:=rowV at_ 65533 1 false) (by simp [results,Tryz.results167,go_sem, *]) rfl (by first | exact ⟨⟨false,rfl⟩,uq⟩ | exact ⟨.inl rfl,uq⟩)
     ·have q2 : ¬ X ≤ 223:=by omega
      have q3 : ¬ X ≤ 239:=by omega
      have q4 : ¬ X ≤ 247:=by omega
      clear h192 h224 h240 q1
      go_enter Tryz.func167,Tryz.ntmps167
      go_wp2_with fail
      refine bodyPost_ret (v:=rowV at_ 65533 1 false) (by simp [results,Tryz.results167,go_sem, *]) rfl (by first | exact ⟨⟨false,rfl⟩,uq⟩ | exact ⟨.inl rfl,uq⟩)
theorem ji9 {w : World} {base : Nat} {e : TypeId} {size : Nat} {v : Value} {n : Nat} {xs : List Value} (h : w.ownsRow base e size v n xs) {g : Nat} (hg : v.ownBlock = some g) : g < w.heap.size:=(h.lt g hg).2
abbrev RowR:=Nat × Nat × Nat × Bool
def jfh (x : RowR) : List Value := [.int .i64 x.1, .int .i32 x.2.1, .int .i64 x.2.2.1, .bool x.2.2.2]
theorem jm9 : (Tryz.prog.info? 195).map (fun i => (i.zero,i.size,i.bytes)) = some (some (.agg #[.int .i64 0, .int .i32 0, .int .i64 0, .bool false]),4,32):=by kernel_rfl
theorem jhF : ∀ (rows : List RowR) (j : Nat) (x : RowR),rows[j]? = some x → (rows.flatMap jfh)[j * 4 + 1]? = some (.int .i32 x.2.1)
 | [],_,_,h => by simp at h
 | y :: r,0,x,h => by
   simp at h
   subst h
   simp [jfh]
 | y :: r,j + 1,x,h => by
   have:=jhF r j x (by simpa using h)
   rw [List.flatMap_cons,List.getElem?_append_right (by simp [jfh];omega)]
   rw [← this]
   congr 1
   simp [jfh]
   omega
def jlR (w : World) (v : Value) (l : List UInt8) : Prop := ∃ sa cap,v = .slice sa (jaz l).length cap ∧ ∀ (j : Nat) (x : Nat × Nat),(jaz l)[j]? = some x → ∃ g,sa = some ⟨g,0,none⟩ ∧ w.cell? ⟨g,j * 4 + 1,none⟩ = some (.int .i32 x.2)
set_option maxHeartbeats 1600000
theorem jnO (sa : Option Addr) (cap : Nat) (l : List UInt8) (w : World) (h : BytesAt w sa l) (hl : l.length ≤ 2000000) :
  Calls Tryz.prog 128 #[.slice sa l.length cap] w fun e w' => ∃ v,e = .returned v ∧ jlR w' v l ∧ Up w w':=by
 obtain ⟨i0,hi,hz0,hz1,hz2⟩:=info_parts jm9
 have HB:=Lib.hid h
 clear h
 go_enter Tryz.func128,Tryz.ntmps128
 go_wp2_with fail
 go_loopw [3,4] (fun v i wr => ∃ (a : Nat) (rows : List RowR) (ra : Option Addr) (rc : Nat),a ≤ l.length ∧ rows.length ≤ a ∧ i = .int .i64 a ∧ v = .slice ra rows.length rc ∧ rows.map (fun x => (x.1,x.2.1)) ++ jdm l a = jaz l ∧ wr.ownsRow 0 195 4 v rows.length (rows.flatMap jfh) ∧ (∀ g,v.ownBlock = some g → w.heap.size ≤ g) ∧ Up w wr) (fun _ i _ => l.length - (intOf i).toNat)
 case atStart => exact ⟨0,[],none,0,Nat.zero_le _,Nat.le_refl _,rfl,rfl,rfl,World.ownsRow_nil _ _ _ _,fun g hg => (by cases hg),uq⟩
 case round =>
  obtain ⟨a,rows,ra,rc,ha,hra,rfl,rfl,hrest,hown,hbig,hup⟩:=hrel
  by_cases hlt : a < l.length
  ·obtain ⟨hr1,hr2,hr3⟩:=jen l a hlt
   have hD:=fun W (h : BytesAt W sa l) => jma sa cap l a W h hlt
   obtain ⟨r,n,hrn⟩ : ∃ r n,decS (l.drop a) = (r,n):=⟨_,_,rfl⟩
   rw [hrn] at hr1 hr2 hr3
   simp only [hrn] at hD
   dsimp only at hr1 hr2 hr3
   rw [hr1] at hrest
   have HD:=Lib.hid hD
   have HO:=Lib.hid (And.intro hown hbig)
   have HR:=Lib.hid hrest
   clear hD hown hbig hrest hr1 hrn
   go_wp2_with (first | (go_at_call 167;refine (HD.out _ (HB.out.up uq)).mono ?_;rintro e w2 ⟨⟨g,rfl⟩,hu⟩) | (at_builtin;go_must (refine jae rfl _ _ 191 rfl 195 i0 (.agg #[.int .i64 0, .int .i32 0, .int .i64 0, .bool false]) 4 32 Tryz.underlying191 hi hz0 hz1 hz2 rfl (by decide) (.slice ra rows.length rc) rows.length (rows.flatMap jfh) rfl ?_ _ 1 1 rfl ?_ rfl ?_ ?_ ?_ ?_;exact ja5 HO.out.1 uq;(simp only [gQw]);simp [Value.oneCell'];(unfold maxLen;omega);omega;intro sa' cap' w3 hown' hgrow hblk;have s0:=jan hgrow (jah (ja9 w2 _)) (fun e => by have:=ji9 HO.out.1 e;have:=hu.size;omega);have a0:=ja1 s0 0;have a1:=ja1 s0 1;have a2:=ja1 s0 2;have f0:=jab s0 0;have f1:=jab s0 1;have f2:=jab s0 2;have a4:=ja0 s0;(try simp only [gQw,gQa,gQz,gQs] at a0 a1 a2 f0 f1 f2 a4);clear s0)))
   have HG:=Lib.hid (And.intro hown' (And.intro hgrow hblk))
   clear hown' hgrow hblk
   go_wp2_with fail
   go_roundw
   case rel =>
    obtain ⟨hown',hgrow,hblk⟩:=HG.out
    have hup3 : Up w w3:=by
     refine Up.grown (W:=_) ?_ hgrow (fun r e => HO.out.2 r e)
     exact ((hup.trans hu).alloc _).alloc _
    refine ⟨a + n,rows ++ [(a,r,n,g)],sa',cap',hr3,by simp;omega,by congr 1,by congr 1;simp,by rw [← HR.out];simp,by simpa [jfh] using hown',fun g' hg' => ?_,hup3⟩
    rcases hblk with hb | ⟨g2,hb,hb2⟩
    ·exact HO.out.2 g' (by rw [← hb];simpa using hg')
    ·have e : g' = g2:=by
      have h5 : (Value.slice sa' (rows.length + 1) cap').ownBlock = some g':=by simpa using hg'
      rw [hb] at h5
      cases h5
      rfl
     have:=hup.size;have:=hu.size
     simp only [gQw] at hb2
     omega
   case measure => simp [intOf];omega
  ·obtain rfl : a = l.length:=by omega
   rw [jeG _ _ (Nat.le_refl _),List.append_nil] at hrest
   have hlen : rows.length = (jaz l).length:=by rw [← hrest];simp
   have HR:=Lib.hid (And.intro hrest hlen)
   clear hrest hlen
   go_wp2_with fail
   refine bodyPost_ret (v := .slice ra rows.length rc) (by simp [results,Tryz.results128,go_sem, *]) rfl ⟨_,rfl,⟨ra,rc,by rw [HR.out.2],fun j x hj => ?_⟩,hup⟩
   have hj2:=hj
   rw [← HR.out.1] at hj2
   rw [List.getElem?_map] at hj2
   cases hx : rows[j]? with
   | none => rw [hx] at hj2;simp at hj2
   | some y =>
     rw [hx] at hj2
     simp only [Option.map_some,Option.some.injEq] at hj2
     subst hj2
     have hc:=jhF rows j y hx
     rcases hown.2 with ⟨h2,h0⟩ | ⟨g,cap',cur,hv,hg,hcc,r⟩
     ·exfalso
      have h3 : rows = []:=List.eq_nil_of_length_eq_zero h0
      rw [h3] at hx
      simp at hx
     ·injection hv with h1 h2 h3
      subst h1
      refine ⟨g,rfl,?_⟩
      have:=hown.cells (g:=g) rfl (j * 4 + 1) _ hc
      rw [Addr.add_lit,Nat.zero_add] at this
      exact this
/-! numbers as digits -/
theorem jmS (X : World) (b : Nat) (x : Nat) (hx : x < 256) (h : X.cell? ⟨b,0,none⟩ = some (.int .u8 x)) : (convert 193 9 (.slice (some ⟨b,0,none⟩) 1 1)).run Tryz.prog X = .ok (.string ⟨#[UInt8.ofNat x]⟩) X:=by
 have:=jlI b 1 [UInt8.ofNat x] X ⟨by simp,fun k hk => by
  obtain rfl : k = 0:=by simpa using hk
  refine ⟨b,0,rfl,?_⟩
  rw [Nat.zero_add,h]
  simp
  omega⟩
 simpa using this
theorem jnT {n k u : Nat} (h : n * 10 ^ k ≤ u) (h1 : k = 0 ∨ 1 ≤ n) (hu : u ≤ 18446744073709551615) : k ≤ 20:=by
 rcases h1 with rfl | h1
 ·omega
 ·rcases Nat.lt_or_ge 20 k with hk | hk
  ·exfalso
   have h2 : 10 ^ 20 ≤ 10 ^ k:=Nat.pow_le_pow_right (by decide) (by omega)
   have h3 : 10 ^ k ≤ n * 10 ^ k:=Nat.le_mul_of_pos_left _ h1
   have h4 : (10 : Nat) ^ 20 = 100000000000000000000:=by decide
   omega
  ·exact hk
theorem jmh (n k : Nat) : n / 10 * (10 ^ k * 10) ≤ n * 10 ^ k:=by
 have h : n / 10 * 10 ≤ n:=Nat.div_mul_le_self n 10
 calc n / 10 * (10 ^ k * 10) = (n / 10 * 10) * 10 ^ k:=by rw [Nat.mul_comm (10 ^ k) 10, ← Nat.mul_assoc]
  _ ≤ n * 10 ^ k:=Nat.mul_le_mul_right _ h
theorem jkb : ∀ (u : Nat),u ≤ 18446744073709551615 → (Lib.decDigits u).length ≤ 21:=by
 have key : ∀ (k u : Nat),u < 10 ^ k → (Lib.decDigits u).length ≤ k + 1:=by
  intro k
  induction k with
  | zero => intro u h;obtain rfl : u = 0:=by simpa using h
            rw [Lib.decDigits_one (by omega)];simp
  | succ k ih =>
    intro u h
    by_cases h10 : u < 10
    ·rw [Lib.decDigits_one h10];simp
    ·rw [Lib.decDigits,dif_neg h10]
     have:=ih (u / 10) (by rw [Nat.pow_succ] at h;omega)
     simp only [List.length_append,List.length_cons,List.length_nil]
     omega
 exact fun u hu => key 20 u (by have h4 : (10 : Nat) ^ 20 = 100000000000000000000:=by decide
                                omega)
theorem jh1 (u : Nat) (hu : u ≤ 18446744073709551615) (w : World) :
  Calls Tryz.prog 127 #[.int .u64 u] w fun e w' => e = .returned (.string ⟨(Lib.decDigits u).toArray⟩) ∧ Up w w':=by
 go_enter Tryz.func127,Tryz.ntmps127
 go_wp2_with fail
 go_loopw [0,3] (fun v s wr => ∃ (n : Nat) (acc : ByteArray),v = .int .u64 n ∧ s = .string acc ∧ Hid (Lib.decDigits n ++ acc.data.toList = Lib.decDigits u) ∧ Hid (n * 10 ^ acc.size ≤ u ∧ (acc.size = 0 ∨ 1 ≤ n)) ∧ Up w wr) (fun v _ _ => (intOf v).toNat)
 case atStart => exact ⟨u,⟨#[]⟩,rfl,rfl,by unfold Hid;exact List.append_nil _,⟨by show u * 10 ^ 0 ≤ u;simp, .inl rfl⟩,uq⟩
 case round =>
  obtain ⟨n,acc,rfl,rfl,hdig,hsz,hup⟩:=hrel
  have hnu : n ≤ u:=Nat.le_trans (Nat.le_mul_of_pos_right n (Nat.pow_pos (by decide))) hsz.out.1
  have hac : acc.size ≤ 20:=jnT hsz.out.1 hsz.out.2 hu
  obtain ⟨d,hd⟩ : ∃ d,Hid (UInt8.ofNat (48 + n % 10) = d):=⟨_,rfl⟩
  have kc:=jmS (wr.alloc (.cells #[.int .u8 (48 + (n : Int) % 10)] 5)) wr.heap.size (48 + n % 10) (by omega) (by rw [ja1 (ja9 wr _) 0];simp)
  rw [hd.out] at kc
  by_cases h10 : n < 10
  ·have hq : (n : Int) / 10 = 0:=by omega
   have hq2 : ((n : Int) / 10 == 0) = true:=by simpa using hq
   have hres : Hid (Lib.decDigits u = [d] ++ acc.data.toList):=by
    unfold Hid
    rw [← hdig.out,Lib.decDigits_one h10, ← hd.out,Nat.mod_eq_of_lt h10]
   clear hq h10
   go_wp2_with fail
   refine bodyPost_ret (v := .string (⟨#[d]⟩ ++ acc)) (by simp [results,Tryz.results127,go_sem, *]) rfl ⟨?_,uq⟩
   rw [hres.out]
   congr 2
  ·have hq2 : ((n : Int) / 10 == 0) = false:=by simp;omega
   have hres : Hid (Lib.decDigits (n / 10) ++ ((⟨#[d]⟩ ++ acc : ByteArray)).data.toList = Lib.decDigits u):=by
    unfold Hid
    have e : Lib.decDigits n = Lib.decDigits (n / 10) ++ [UInt8.ofNat (48 + n % 10)]:=by rw [Lib.decDigits,dif_neg h10]
    rw [← hdig.out,e, ← hd.out]
    simp
   have h10i : ¬ (n : Int) < 10:=by omega
   clear h10
   go_wp2_with fail
   go_roundw
   case rel => exact ⟨n / 10,⟨#[d]⟩ ++ acc,by congr 1,rfl,hres,⟨by have h1 : (⟨#[d]⟩ : ByteArray).size = 1:=rfl;rw [ByteArray.size_append,h1,Nat.add_comm,Nat.pow_succ];exact Nat.le_trans (jmh n acc.size) hsz.out.1, .inr (by omega)⟩,uq⟩
   case measure => simp [intOf];omega
theorem jiI (n : Int) (h0 : -9223372036854775808 ≤ n) (h1 : n ≤ 9223372036854775807) (w : World) :
  Calls Tryz.prog 80 #[.int .i64 n] w fun e w' => e = .returned (.string ⟨(Lib.itoa n).toArray⟩) ∧ Up w w':=by
 by_cases hn : n < 0
 ·obtain ⟨u,hu,hu2⟩ : ∃ u : Nat,Hid (u = n.natAbs) ∧ -(n + 1) + 1 = (u : Int):=⟨_,rfl,by omega⟩
  have hi : Hid (Lib.itoa n = 45 :: Lib.decDigits u):=by unfold Hid Lib.itoa;rw [if_pos hn,hu.out]
  have hun : u ≤ 9223372036854775808:=by have:=hu.out;omega
  rw [hi.out]
  have hlen : ¬ 9223372036854775807 < 1 + (Lib.decDigits u).length:=by have:=jkb u (by omega);omega
  go_enter Tryz.func80,Tryz.ntmps80
  go_wp2_with (first | (go_at_call 127;refine (jh1 u (by omega) _).mono ?_;rintro e w2 ⟨rfl,hu3⟩))
  refine bodyPost_ret (v := .string (⟨#[45]⟩ ++ ⟨(Lib.decDigits u).toArray⟩)) (by simp [results,Tryz.results80,go_sem, *]) rfl ⟨?_,uq⟩
  congr 2
 ·obtain ⟨u,rfl⟩:=Int.eq_ofNat_of_zero_le (show 0 ≤ n by omega)
  have hi : Hid (Lib.itoa u = Lib.decDigits u):=by unfold Hid Lib.itoa;rw [if_neg hn,Int.toNat_natCast]
  rw [hi.out]
  go_enter Tryz.func80,Tryz.ntmps80
  go_wp2_with (first | (go_at_call 127;refine (jh1 u (by omega) _).mono ?_;rintro e w2 ⟨rfl,hu3⟩))
  refine bodyPost_ret (v := .string ⟨(Lib.decDigits u).toArray⟩) (by simp [results,Tryz.results80,go_sem, *]) rfl ⟨rfl,uq⟩
attribute [local go_sem] je0
set_option maxHeartbeats 8000000
theorem jb3 (u : Int) (c : UInt8) (q : (u,c) ∈ jht) (w : World) : Calls Tryz.prog 129 #[.int .i64 u] w fun e w' => e = .returned (.string ⟨#[c]⟩) ∧ Up w w':=by
 simp only [jht,List.mem_cons,Prod.mk.injEq,List.not_mem_nil,or_false] at q
 rcases q with ⟨rfl,rfl⟩ | ⟨rfl,rfl⟩ | ⟨rfl,rfl⟩ | ⟨rfl,rfl⟩ | ⟨rfl,rfl⟩ | ⟨rfl,rfl⟩ | ⟨rfl,rfl⟩ | ⟨rfl,rfl⟩ | ⟨rfl,rfl⟩ | ⟨rfl,rfl⟩ | ⟨rfl,rfl⟩ | ⟨rfl,rfl⟩ | ⟨rfl,rfl⟩ | ⟨rfl,rfl⟩ | ⟨rfl,rfl⟩ | ⟨rfl,rfl⟩
 all_goals (go_enter Tryz.func129,Tryz.ntmps129
            go_wp2_with fail
            refine wp_loop_rounds 2 ?_
            rw [rounds_succ]
            go_wp2_with (fail)
            go_ret
            exact ⟨rfl,uq⟩)
theorem jaV (u : Int) (c d : UInt8) (q : (u,c,d) ∈ jhs) (w : World) : Calls Tryz.prog 129 #[.int .i64 u] w fun e w' => e = .returned (.string ⟨#[c,d]⟩) ∧ Up w w':=by
 simp only [jhs,List.mem_cons,Prod.mk.injEq,List.not_mem_nil,or_false] at q
 rcases q with ⟨rfl,rfl,rfl⟩ | ⟨rfl,rfl,rfl⟩ | ⟨rfl,rfl,rfl⟩ | ⟨rfl,rfl,rfl⟩ | ⟨rfl,rfl,rfl⟩ | ⟨rfl,rfl,rfl⟩ | ⟨rfl,rfl,rfl⟩ | ⟨rfl,rfl,rfl⟩ | ⟨rfl,rfl,rfl⟩ | ⟨rfl,rfl,rfl⟩ | ⟨rfl,rfl,rfl⟩ | ⟨rfl,rfl,rfl⟩ | ⟨rfl,rfl,rfl⟩ | ⟨rfl,rfl,rfl⟩ | ⟨rfl,rfl,rfl⟩ | ⟨rfl,rfl,rfl⟩ | ⟨rfl,rfl,rfl⟩
 all_goals (go_enter Tryz.func129,Tryz.ntmps129
            go_wp2_with fail
            refine wp_loop_rounds 3 ?_
            rw [rounds_succ]
            go_wp2_with (fail)
            rw [rounds_succ]
            go_wp2_with (fail)
            go_ret
            exact ⟨rfl,uq⟩)
theorem jh2 (u : Nat) (hu : u < 32 ∨ u = 127) (w : World) : Calls Tryz.prog 129 #[.int .i64 u] w fun e w' => e = .returned (.string (hexS u)) ∧ Up w w':=by
 rcases hu with hu | rfl
 ·match u,hu with
  | 0,_ => exact jb3 0 48 (by decide) w
  | 1,_ => exact jb3 1 49 (by decide) w
  | 2,_ => exact jb3 2 50 (by decide) w
  | 3,_ => exact jb3 3 51 (by decide) w
  | 4,_ => exact jb3 4 52 (by decide) w
  | 5,_ => exact jb3 5 53 (by decide) w
  | 6,_ => exact jb3 6 54 (by decide) w
  | 7,_ => exact jb3 7 55 (by decide) w
  | 8,_ => exact jb3 8 56 (by decide) w
  | 9,_ => exact jb3 9 57 (by decide) w
  | 10,_ => exact jb3 10 97 (by decide) w
  | 11,_ => exact jb3 11 98 (by decide) w
  | 12,_ => exact jb3 12 99 (by decide) w
  | 13,_ => exact jb3 13 100 (by decide) w
  | 14,_ => exact jb3 14 101 (by decide) w
  | 15,_ => exact jb3 15 102 (by decide) w
  | 16,_ => exact jaV 16 49 48 (by decide) w
  | 17,_ => exact jaV 17 49 49 (by decide) w
  | 18,_ => exact jaV 18 49 50 (by decide) w
  | 19,_ => exact jaV 19 49 51 (by decide) w
  | 20,_ => exact jaV 20 49 52 (by decide) w
  | 21,_ => exact jaV 21 49 53 (by decide) w
  | 22,_ => exact jaV 22 49 54 (by decide) w
  | 23,_ => exact jaV 23 49 55 (by decide) w
  | 24,_ => exact jaV 24 49 56 (by decide) w
  | 25,_ => exact jaV 25 49 57 (by decide) w
  | 26,_ => exact jaV 26 49 97 (by decide) w
  | 27,_ => exact jaV 27 49 98 (by decide) w
  | 28,_ => exact jaV 28 49 99 (by decide) w
  | 29,_ => exact jaV 29 49 100 (by decide) w
  | 30,_ => exact jaV 30 49 101 (by decide) w
  | 31,_ => exact jaV 31 49 102 (by decide) w
  | u + 32,h => exact absurd h (by omega)
 ·exact jaV 127 55 102 (by decide) w
theorem jh0 : ∀ (f a : Nat) (l : List UInt8),(jbw f a l).length ≤ f
 | 0,_,_ => Nat.le_refl _
 | _ + 1,_,[] => Nat.zero_le _
 | f + 1,a,x :: r => by simp only [jbw,List.length_cons];have:=jh0 f (a + (decS (x :: r)).2) ((x :: r).drop (decS (x :: r)).2);omega
theorem jjF (l : List UInt8) : (jaz l).length ≤ l.length:=jh0 _ _ _
theorem jjJ (s : ByteArray) (w0 W : World) (q cap : Nat) (hW : W = jb7 w0 s) (hq : q = w0.heap.size) (hs : s.size ≤ 2000000) :
  Calls Tryz.prog 128 #[.slice (some ⟨q,0,none⟩) s.size cap] W fun e w' => ∃ v,e = .returned v ∧ jlR w' v s.data.toList ∧ Up W w':=by
 subst hW hq
 have:=jnO (some ⟨w0.heap.size,0,none⟩) cap s.data.toList (jb7 w0 s) (jbf w0 s (by omega)) (by simpa using hs)
 rw [show s.data.toList.length = s.size by simp] at this
 exact this
theorem jnM (s : ByteArray) (hs : s.size ≤ 2000000) (w : World) : Calls Tryz.prog 81 #[.string s] w fun e w' => e = .returned (.string (jbJ s)) ∧ Up w w':=by
 have HS:=Lib.hid hs
 clear hs
 have hlen : (jaz s.data.toList).length ≤ 2000000:=by have:=HS.out;have h2:=jjF s.data.toList;simp at h2;omega
 have hbig:=jkM s.data.toList
 obtain ⟨l,hl⟩ : ∃ l,Hid (jaz s.data.toList = l):=⟨_,rfl⟩
 unfold jbJ
 rw [hl.out] at hlen hbig ⊢
 obtain ⟨tot,htot⟩ : ∃ tot,Hid (jaH ⟨#[34]⟩ l = tot):=⟨_,rfl⟩
 rw [htot.out]
 have HBG:=Lib.hid hbig
 clear hbig
 go_enter Tryz.func81,Tryz.ntmps81
 go_wp2_with (first | (go_at_call 128;refine (jjJ s _ _ _ _ rfl (by simp) HS.out).mono ?_;rintro e w2 ⟨v,rfl,⟨ra,rc,rfl,hra⟩,hu2⟩;rw [hl.out] at hra;rw [hl.out]))
 have HU : Up w w2:=Up.trans (jaE _ _) hu2
 have HRA:=Lib.hid hra
 clear hra hu2
 go_loopw [3,5] (fun out i wr => ∃ (j : Nat) (acc : ByteArray),j ≤ l.length ∧ i = .int .i64 j ∧ out = .string acc ∧ Hid (jaH acc (l.drop j) = tot) ∧ acc.size ≤ 1 + 6 * j ∧ Up w2 wr) (fun _ i _ => l.length - (intOf i).toNat)
 case atStart => exact ⟨0,⟨#[34]⟩,Nat.zero_le _,rfl,rfl,by unfold Hid;rw [List.drop_zero];exact htot.out,by decide,Up.refl _⟩
 case round =>
  obtain ⟨j,acc,hj,rfl,rfl,hq,hsz,hup⟩:=hrel
  by_cases hlt : j < l.length
  ·obtain ⟨x,hx⟩ : ∃ x,l[j]? = some x:=⟨_,List.getElem?_eq_getElem hlt⟩
   obtain ⟨g,rfl,hg⟩:=HRA.out j x hx
   obtain ⟨x1,r⟩:=x
   dsimp only at hg
   have hgl:=jcX hg
   have d1:=(hup.cells g _ hgl).trans hg
   have hrb : r ≤ 1114111:=HBG.out j _ hx
   have hnext : Hid (jaH (acc ++ jac r) (l.drop (j + 1)) = tot):=by
    unfold Hid
    rw [← hq.out,List.drop_eq_getElem_cons hlt]
    have e : l[j] = (x1,r):=(List.getElem?_eq_some_iff.1 hx).2
    rw [e]
    rfl
   have hji : (j : Int) < l.length:=by omega
   have hez : (Utf8.encode (r : Int)).size ≤ 4:=encode_size_le _
   have hsq : acc.size + (jac r).size ≤ 1 + 6 * (j + 1):=by have:=jeI r;omega
   clear hx hg hq hlt
   by_cases c1 : r = 92
   ·subst c1
    have hez2 : (Utf8.encode 92).size ≤ 4:=encode_size_le _
    go_wp2_with fail
    go_roundw
    case rel => exact ⟨j + 1,acc ++ jac 92,by omega,by simp,by simp [jac,ByteArray.append_assoc],hnext,by rw [ByteArray.size_append];exact hsq,uq⟩
    case measure => simp [intOf];omega
   by_cases c2 : r = 34
   ·subst c2
    have hez2 : (Utf8.encode 34).size ≤ 4:=encode_size_le _
    go_wp2_with fail
    go_roundw
    case rel => exact ⟨j + 1,acc ++ jac 34,by omega,by simp,by simp [jac,ByteArray.append_assoc],hnext,by rw [ByteArray.size_append];exact hsq,uq⟩
    case measure => simp [intOf];omega
   by_cases c3 : r = 10
   ·subst c3
    go_wp2_with fail
    go_roundw
    case rel => exact ⟨j + 1,acc ++ jac 10,by omega,by simp,by simp [jac,ByteArray.append_assoc],hnext,by rw [ByteArray.size_append];exact hsq,uq⟩
    case measure => simp [intOf];omega
   by_cases c4 : r = 13
   ·subst c4
    go_wp2_with fail
    go_roundw
    case rel => exact ⟨j + 1,acc ++ jac 13,by omega,by simp,by simp [jac,ByteArray.append_assoc],hnext,by rw [ByteArray.size_append];exact hsq,uq⟩
    case measure => simp [intOf];omega
   by_cases c5 : r = 9
   ·subst c5
    go_wp2_with fail
    go_roundw
    case rel => exact ⟨j + 1,acc ++ jac 9,by omega,by simp,by simp [jac,ByteArray.append_assoc],hnext,by rw [ByteArray.size_append];exact hsq,uq⟩
    case measure => simp [intOf];omega
   have e1 : ((r : Int) == 92) = false:=by simp;omega
   have e2 : ((r : Int) == 34) = false:=by simp;omega
   have e3 : ((r : Int) == 10) = false:=by simp;omega
   have e4 : ((r : Int) == 13) = false:=by simp;omega
   have e5 : ((r : Int) == 9) = false:=by simp;omega
   by_cases c6 : r < 32 ∨ r = 127
   ·have hqr : Hid (jac r = ⟨#[92,117,123]⟩ ++ hexS r ++ ⟨#[125]⟩):=by unfold Hid jac;rw [if_neg (by omega),if_neg c3,if_neg c4,if_neg c5,if_pos c6]
    have hx2:=jf4 r
    rcases c6 with c6 | c6
    ·have c7 : (r : Int) < 32:=by omega
     have HC:=Lib.hid (show r < 32 ∨ r = 127 from .inl c6)
     clear c1 c2 c3 c4 c5 c6
     go_wp2_with (first | (go_at_call 129;refine (jh2 r HC.out _).mono ?_;rintro e w3 ⟨rfl,hu3⟩))
     go_roundw
     case rel => exact ⟨j + 1,acc ++ jac r,by omega,by simp,by rw [hqr.out];simp [ByteArray.append_assoc],hnext,by rw [ByteArray.size_append];exact hsq,uq⟩
     case measure => simp [intOf];omega
    ·subst c6
     go_wp2_with (first | (go_at_call 129;refine (jh2 127 (.inr rfl) _).mono ?_;rintro e w3 ⟨rfl,hu3⟩))
     go_roundw
     case rel => exact ⟨j + 1,acc ++ jac 127,by omega,by simp,by rw [hqr.out];simp [ByteArray.append_assoc],hnext,by rw [ByteArray.size_append];exact hsq,uq⟩
     case measure => simp [intOf];omega
   ·have hqr : Hid (jac r = Utf8.encode r):=by unfold Hid jac;rw [if_neg (by omega),if_neg c3,if_neg c4,if_neg c5,if_neg c6]
    have c7 : ¬ (r : Int) < 32:=by omega
    have c8 : ((r : Int) == 127) = false:=by simp;omega
    clear c1 c2 c3 c4 c5 c6
    go_wp2_with fail
    go_roundw
    case rel => exact ⟨j + 1,acc ++ jac r,by omega,by simp,by rw [hqr.out],hnext,by rw [ByteArray.size_append];exact hsq,uq⟩
    case measure => simp [intOf];omega
  ·obtain rfl : j = l.length:=by omega
   go_wp2_with fail
   refine jba (by (simp [results,Tryz.results81,go_sem, *]) <;> rfl) rfl rfl ?_
   refine ⟨?_,HU.trans hup⟩
   have h1:=hq.out
   rw [List.drop_length] at h1
   rw [← h1]
   rfl
end Go.Proofs.YtiaepldmgighbaaGreatDoor
