import Derived.Deep.RegionHeld3
import Derived.Test.YtiaepldmgighbaaGreatDoorU46
namespace Go.Proofs.YtiaepldmgighbaaGreatDoor
open Go.RowKit
set_option linter.unusedSimpArgs false
set_option linter.unusedVariables false
attribute [local go_sem] Oper.semAt_some
theorem jkL {r : Int} : r = 2 ∨ r = 1 ∨ ((r == 2) = false ∧ (r == 1) = false):=by
 by_cases h : r = 2
 ·exact .inl h
 ·by_cases h' : r = 1
  ·exact .inr (.inl h')
  ·exact .inr (.inr ⟨by simp [h],by simp [h']⟩)
theorem jdU {asked : Bool} {says : Ty → Int} {ins : Ty → Ty} {l : List Ty} {u : Ty} : (jcD (says u) asked = false → jaN asked says ins (l ++ [u]) = jaN asked says ins l) ∧ (jcD (says u) asked = true → ¬ (says u = 2 ∧ asked = true) → jaN asked says ins (l ++ [u]) = jaN asked says ins l ++ [u]) ∧ (says u = 2 → asked = true → jaN asked says ins (l ++ [u]) = jaN asked says ins l ++ [ins u]):=by
 rw [jhp]
 refine ⟨fun h1 => ?_,fun h1 h2 => ?_,fun h1 h2 => ?_⟩
 ·unfold jaN
  simp [List.filter_cons,h1]
 ·unfold jaN
  simp only [List.filter_cons,h1,if_true,List.filter_nil,List.map_cons,List.map_nil]
  rw [if_neg h2]
 ·subst h2
  unfold jaN
  simp only [List.filter_cons,h1,show jcD 2 true = true from rfl,if_true,List.filter_nil,List.map_cons,List.map_nil]
  rw [if_pos ⟨trivial,trivial⟩]
def tysC (ts : List Ty) (l : List Nat) : List Ty:=l.map fun p => (ts.getD p (ja3 3)).canon
theorem jkw (ts : List Ty) (l : List Nat) {p : Nat} {u : Ty} (h : ts[p]? = some u) : tysC ts (l ++ [p]) = tysC ts l ++ [u.canon]:=by
 unfold tysC
 rw [List.map_append,List.map_cons,List.map_nil,List.getD_eq_getElem?_getD,h]
 rfl
theorem jkx {ts : List Ty} : ∀ {l : List Nat} {vs : List Ty},l.map (fun z => ts[z]?) = vs.map some → tysC ts l = vs.map Ty.canon
 | [],[],_ => rfl
 | [],_ :: _,h => by simp at h
 | _ :: _,[],h => by simp at h
 | z :: l,v :: vs,h => by
   simp only [List.map_cons,List.cons.injEq] at h
   have ih:=jkx h.2
   unfold tysC at ih ⊢
   rw [List.map_cons,List.map_cons,ih,List.getD_eq_getElem?_getD,h.1]
   rfl
theorem jld (asked : Bool) (says : Ty → Int) (ins : Ty → Ty) (l : List Ty) : (jaN asked says ins l).length ≤ l.length:=by
 unfold jaN
 rw [List.length_map]
 exact List.length_filter_le _ _
theorem jhW (ts : List Ty) (l : List Nat) : (tysC ts l).length = l.length:=by unfold tysC;rw [List.length_map]
theorem jj4 {ts : List Ty} : ∀ {l : List Nat} {vs : List Ty},l.map (fun z => ts[z]?) = vs.map some → ∀ {y : Nat},y ∈ l → ∃ u,ts[y]? = some u
 | [],_,_,_,h => by cases h
 | _ :: _,[],e,_,_ => by simp at e
 | z :: l,v :: vs,e,y,h => by
   simp only [List.map_cons,List.cons.injEq] at e
   rcases List.mem_cons.1 h with rfl | h
   ·exact ⟨v,e.1⟩
   ·exact jj4 e.2 h
theorem jgk {W W' : World} {v : Value} {n : Nat} {vs : List Value} (h : W.ownsRow 0 IntL 1 v n vs) (k : KeepO W W') : W'.ownsRow 0 IntL 1 v n vs:=ja8 h fun g hg => by
 obtain ⟨cur,hc⟩:=jar h hg
 rw [hc]
 exact k.cells hc (by decide)
theorem jhT {w0 W : World} {A gm : Nat} {bs : List Nat} {ts : List Ty} {tv dv : Value} (h : Sta w0 W A bs ts tv (.map (some gm)) dv) {a : Option Addr} {n cap : Nat} {zs : List Nat} {us : List Ty} (hr : W.ownsRow 0 IntL 1 (.slice a n cap) n (zs.map numV)) (hl : zs.length = n) (hz : zs.map (fun z => ts[z]?) = us.map some) {N : Nat} (hn : 1 + sumN us ≤ N) (h500 : N ≤ 500) (hb : bs.length ≤ 100000) :
  Calls Tryz.prog 24 #[.pointer (some ⟨A,0,none⟩), .slice a n cap] W fun e w' => ∃ (i : Nat) (bs' : List Nat) (ts' : List Ty) (tv' mv' : Value) (x : Ty),e = .returned (.tuple #[.int .i64 i, .int .i64 0]) ∧ Sta w0 w' A (bs ++ bs') (ts ++ ts') tv' mv' dv ∧ mv' = .map (some gm) ∧ bs'.length ≤ N ∧ (ts ++ ts')[i]? = some x ∧ x.Valid ∧ x.canon = jal (us.map Ty.canon) ∧ x.nodes ≤ N ∧ KeepO W w':=by
 subst hl
 refine (jer w0.heap.size A bs ts tv (.map (some gm)) dv zs us _ cap _ h.are (jgu hr rfl) hz (jj7 h.are hz (by omega)) h.glob (by omega)).mono ?_
 rintro e w' hR
 have hc : (jal (us.map Ty.canon)).nodes ≤ N:=by
  have h1:=jbb (us.map Ty.canon)
  rw [List.map_map,show (Ty.nodes ∘ Ty.canon) = Ty.nodes from funext Ty.nodes_canon] at h1
  unfold sumN at hn
  omega
 obtain ⟨i,rfl,bs',ts',tv',mv',x,k1,k2,k3,k4,k5,k6⟩:=AddQ.of h (Up.refl W) (Nat.le_trans hc h500) hR
 obtain rfl:=k2.ids gm rfl
 exact ⟨i,bs',ts',tv',_,x,rfl,k1,rfl,by omega,k4,(k1.are.good x (List.mem_of_getElem? k4)).1,k5,Nat.le_trans k6 hc,KeepO.lay h.are k2⟩
def KeepQ (dv : Value) (w0 w1 : World) (A : Nat) (bs : List Nat) (ts : List Ty) (c : Ty) (n : Nat) (e : Ending) (w' : World) : Prop :=
 ∃ (i : Nat) (bs' : List Nat) (ts' : List Ty) (tv' mv' : Value) (x : Ty),e = .returned (.tuple #[.int .i64 i, .int .i64 0]) ∧ Sta w0 w' A (bs ++ bs') (ts ++ ts') tv' mv' dv ∧ bs'.length ≤ 6000 ∧ (ts ++ ts')[i]? = some x ∧ x.Valid ∧ x.canon = c ∧ x.nodes ≤ n ∧ ∀ (z : Nat) (cs : Array Value),w1.heap[z]? = some (.cells cs TesZ (0,0)) → w'.heap[z]? = some (.cells cs TesZ (0,0))
set_option maxRecDepth 100000
set_option maxHeartbeats 12800000
theorem jn5 (asked : Bool) (K : Int) (T : Nat) (s : ByteArray) (A : Nat) (bs : List Nat) (ts : List Ty) (tv mv dv : Value) (w0 w : World) (h : Sta w0 w A bs ts tv mv dv) {i : Nat} {t : Ty} (ht : ts[i]? = some t) {v : Ty} (hv : ts[T]? = some v) (hb : bs.length ≤ 90000) (hn : t.nodes ≤ 500) (hK : 1 ≤ K ∧ K ≤ 5) (hone : K = 2 ∨ K = 5 → oneB v.kind = true) (says : Ty → Int) (ins : Ty → Ty) {N : Nat} (hN : 1 + sumN (jaN asked says ins t.canon.flat) ≤ N) (hN5 : N ≤ 500)
  (hsay : ∀ p ∈ jb5 ts i t,∀ u,ts[p]? = some u → ∀ (W : World) (kb : Nat) (bs1 : List Nat) (ts1 : List Ty) (tv1 mv1 : Value),Sta w0 W A (bs ++ bs1) (ts ++ ts1) tv1 mv1 dv → bs1.length ≤ 6000 → W.heap[kb]? = some (.cells (jbC A K s T 0) TesT (0,0)) → Calls Tryz.prog 67 #[.pointer (some ⟨kb,0,none⟩), .int .i64 p] W fun e w' => e = .returned (.int .i64 (says u.canon)) ∧ Up W w')
  (hins : ∀ p ∈ jb5 ts i t,∀ u,ts[p]? = some u → ∀ (W : World) (kb : Nat) (bs1 : List Nat) (ts1 : List Ty) (tv1 mv1 : Value),Sta w0 W A (bs ++ bs1) (ts ++ ts1) tv1 mv1 dv → bs1.length ≤ 6000 → W.heap[kb]? = some (.cells (jbC A K s T 0) TesT (0,0)) → asked = true → says u.canon = 2 → Calls Tryz.prog 68 #[.pointer (some ⟨kb,0,none⟩), .int .i64 p] W fun e w' => ∃ q : Nat,e = .returned (.int .i64 q) ∧ AddQ dv w0 W A (bs ++ bs1) (ts ++ ts1) tv1 mv1 (ins u.canon) 10 q w') :
  Calls Tryz.prog 32 #[.pointer (some ⟨A,0,none⟩), .int .i64 i, .agg #[.int .i64 K, .string s, .int .i64 T], .bool asked] w (KeepQ dv w0 w A bs ts (keepC asked says ins t.canon) N):=by
 obtain ⟨gm,rfl,hgm⟩:=h.are.mapB ht
 have HL:=Lib.hid (fun W (hW : Up w W) => Len_in _ _ _ _ _ _ _ W (h.are.up hW))
 have HP:=Lib.hid (fun W (hW : Up w W) => jh7 (h.are.up hW) ht)
 have HAT:=Lib.hid (fun W (hW : Up w W) => jlT (h.are.up hW) hv)
 have hil : i < bs.length:=by rw [← h.are.len];exact (List.getElem?_eq_some_iff.1 ht).1
 have hpn : Hid ((jb5 ts i t).length ≤ 500):=by
  unfold Hid jb5
  split
  ·rw [List.length_map]
   have:=jc8 t.parts
   cases t with
   | mk k n nm ps ns ms => rw [Ty.nodes_mk] at hn;simp only [Ty.parts,sumN] at this ⊢; omega
  ·simp
 have HSA:=Lib.hid (And.intro hsay hins)
 obtain ⟨vs,hvs,hvc⟩:=jcw h.are ht
 have HVS:=Lib.hid (And.intro hvs hvc)
 have HS:=Lib.hid (And.intro h (And.intro ht (And.intro hb (And.intro hn (And.intro hN (And.intro hN5 hgm))))))
 have HON:=Lib.hid hone
 obtain ⟨ps,hps⟩ : ∃ ps,Hid (jb5 ts i t = ps):=⟨_,rfl⟩
 rw [hps.out] at HP HSA hpn HVS
 clear h ht hsay hins hvs hvc hv hn hN hN5 hone hgm
 refine callsIn_wide.1 (callsIn_of_wp_marks (n:=2) Tryz.func32 rfl trivial ?_)
 refine wpIn_wide.2 ?_
 simp only [Tryz.ntmps32,List.size_toArray,List.length_cons,List.length_nil,Nat.reduceAdd,Nat.reduceSub,Array.replicate_succ,Array.replicate_zero,List.push_toArray,List.append_toArray,List.nil_append,List.cons_append]
 go_upto_region 1 with (fail)
 refine wp_scope_straight ?_
 refine ja4 fun A0 W0 hA0 hW0 => ?_
 have hu0 : Hid (Up w W0):=by subst hW0;exact uq
 obtain ⟨qt,hqt⟩ : ∃ q,Hid (w.heap.size = q):=⟨_,rfl⟩
 obtain ⟨qa,hqa⟩ : ∃ q,Hid (w.heap.size + 1 = q):=⟨_,rfl⟩
 have HT : Hid (W0.heap[qt]? = some (.cells #[.int .i64 K, .string s, .int .i64 T] 57 (0,0))):=by subst hW0;rw [← hqt.out,jao _ _ _ (by simp only [gQw];omega)];exact ja9 _ _
 have HA : Hid (W0.heap[qa]? = some (.cells #[.bool asked] BooT (0,0))):=by subst hW0;rw [← hqa.out];exact jaa _ _ _ (by simp only [gQw])
 have hz0 : Hid (W0.heap.size = w.heap.size + 2):=by subst hW0;simp only [Hid,gQw]
 rw [hqa.out,hqt.out] at hA0
 clear hW0
 subst hA0
 have hs:=HT.out
 obtain ⟨c0,cf0,c1,cf1,c2,cf2,cl⟩:=uc3 hs;clear hs
 have k1 : ¬ K < 1:=by omega
 have k2 : ¬ 5 < K:=by omega
 go_upto_region 4 with (fail)
 refine ja4 fun A1 W1 hA1 hW1 => ?_
 have hu1 : Hid (Up W0 W1):=by subst hW1;exact uq
 have hb1 : Hid (W1.heap[W0.heap.size]? = some (.cells (jbC A K s T 0) TesT (0,0))):=by subst hW1;exact jah (ja9 _ _)
 have hb2 : Hid (W1.heap[W0.heap.size + 1]? = some (.cells #[.pointer (some ⟨W0.heap.size,0,none⟩)] TesP (0,0))):=by subst hW1;exact jaa _ _ _ (by simp only [gQw])
 have hz1 : Hid (W1.heap.size = W0.heap.size + 2):=by subst hW1;simp only [Hid,gQw]
 have hsT:=Lib.hid (hu1.out.get HT.out)
 clear hW1 c0 c1 c2
 subst hA1
 have hs:=hsT.out
 obtain ⟨c0,cf0,c1,cf1,c2,cf2,cl⟩:=uc3 hs;clear hs
 obtain ⟨b,hbb⟩ : ∃ b,Hid (decide (K = 2 ∨ K = 5) = b):=⟨_,rfl⟩
 go_cut [39] from 16 to 39 (fun e wx => e = .bool b ∧ wx = W1)
 case first =>
  have hcase : ((K == 2) = true ∧ (K == 5) = false ∧ b = true) ∨ ((K == 2) = false ∧ (K == 5) = true ∧ b = true) ∨ ((K == 2) = false ∧ (K == 5) = false ∧ b = false):=by
   rw [← hbb.out]
   by_cases e2 : K = 2
   ·exact .inl ⟨by simp [e2],by simp [e2],by simp [e2]⟩
   ·by_cases e5 : K = 5
    ·exact .inr (.inl ⟨by simp [e5],by simp [e5],by simp [e5]⟩)
    ·exact .inr (.inr ⟨by simp [e2],by simp [e5],by simp [e2,e5]⟩)
  rcases hcase with ⟨q1,q2,rfl⟩ | ⟨q1,q2,rfl⟩ | ⟨q1,q2,rfl⟩
  all_goals go_wp2_with fail
  all_goals go_meet
  all_goals exact ⟨rfl,rfl⟩
 case rest =>
 obtain ⟨rfl,hW⟩:=hcut
 have hW:=hW.symm
 subst hW
 go_upto_if 39 with (fail)
 go_cut [11] from 40 to 54 (fun _ wx => Up W1 wx)
 case first =>
  cases b
  ·go_wp2_with fail
   go_meet
   exact Up.refl _
  ·have hone : oneB v.kind = true:=HON.out (of_decide_eq_true hbb.out)
   go_wp2_with (first
    | (go_at_call 64;refine (HAT.out _ (hu0.out.trans (hu1.out.trans (show Up W1 _ from uq)))).mono ?_;rintro e w2 ⟨pa,pc,na,nc,ma,mc,rfl,hv2,hu2⟩;clear hv2;simp only [tyA])
    | (go_at_call 65;refine (jfH _ _).mono ?_;rintro e w4 ⟨rfl,rfl⟩;rw [hone]))
   go_meet
   exact uq
 case rest =>
 have huc : Hid (Up W0 wc):=hu1.out.trans hcut
 have hbc1:=Lib.hid (hcut.get hb1.out)
 have hbc2:=Lib.hid (hcut.get hb2.out)
 have hzc : Hid (W0.heap.size + 2 ≤ wc.heap.size):=by have h1:=hz1.out;have h2:=hcut.size;unfold Hid;omega
 have huwc : Hid (Up w wc):=hu0.out.trans huc.out
 have hAc:=Lib.hid (huc.out.get HA.out)
 clear hu1 hb1 hb2 hz1 hsT hbb hcut c0 c1 c2
 go_wp2_with (first | (go_at_call 45;refine (HL.out _ (huwc.out.trans (show Up wc _ from uq))).mono ?_;rintro e w1 ⟨rfl,hu1⟩))
 apply wp_label
 clear k1 k2
 go_wp2_with (first | (go_at_call 66;refine (HP.out _ (huwc.out.trans (show Up wc _ from uq))).mono ?_;rintro e w2 ⟨tb,g,rfl,hsq,htb,htg,hgt,hu2⟩))
 simp only [gQw] at htb
 have B1 : Hid (w2.heap[W0.heap.size]? = some (.cells (jbC A K s T 0) TesT (0,0))):=(show Up wc w2 from uq).get hbc1.out
 have B2 : Hid (w2.heap[W0.heap.size + 1]? = some (.cells #[.pointer (some ⟨W0.heap.size,0,none⟩)] TesP (0,0))):=(show Up wc w2 from uq).get hbc2.out
 have B3 : Hid (w2.heap[qa]? = some (.cells #[.bool asked] BooT (0,0))):=(show Up wc w2 from uq).get hAc.out
 have B4 : Hid (w2.heap[w1.heap.size]? = some (.cells #[.slice none 0 0] ISlT (0,0))):=hu2.get (ja9 _ _)
 have hs1:=hu1.size
 skip
 have hu02 : Hid (Up w w2):=huwc.out.trans (show Up wc w2 from uq)
 obtain ⟨kb,hkb⟩ : ∃ q,Hid (W0.heap.size = q):=⟨_,rfl⟩
 obtain ⟨lb,hlb⟩ : ∃ q,Hid (w1.heap.size = q):=⟨_,rfl⟩
 have hZZ : Hid (w.heap.size ≤ kb ∧ qa = w.heap.size + 1 ∧ kb = w.heap.size + 2 ∧ kb + 1 < lb ∧ lb < w2.heap.size ∧ lb < tb):=by
  have e1:=hz0.out
  have e6:=hzc.out
  have e2:=hqa.out
  have e3:=ja0 B4.out
  have e4:=hkb.out
  have e5:=hlb.out
  unfold Hid
  omega
 rw [hkb.out] at B1 B2
 rw [hlb.out] at B4
 have hseq : Hid (ISeqAt w2 tb g ps):=hsq
 have hgT : Hid (∃ cs T f,w2.heap[g]? = some (.cells cs T f) ∧ (T = IntE ∨ T = BooT)):=hgt
 have htB : Hid (∃ cs f,w2.heap[tb]? = some (.cells cs ISlT f)):=by
  obtain ⟨off,cap,cs,T',fz,q1,q2,q3⟩:=hsq
  exact ⟨_,_,q1⟩
 have hgl : Hid (g < w2.heap.size ∧ tb < w2.heap.size ∧ g ≠ lb):=by
  obtain ⟨off,cap,cs,T',fz,q1,q2,q3⟩:=hsq
  refine ⟨ja0 q2,ja0 q1,fun e => ?_⟩
  obtain ⟨cs2,T2,f2,r1,r2⟩:=hgT.out
  rw [e,B4.out] at r1
  cases r1
  rcases r2 with r2 | r2 <;> exact absurd r2 (by decide)
 rw [hkb.out,hlb.out]
 obtain ⟨spec,hspec⟩ : ∃ f,Hid ((fun l => jaN asked says ins (tysC ts l)) = f):=⟨_,rfl⟩
 have hM : Hid (w0.heap.size ≤ w2.heap.size ∧ gm < w2.heap.size):=⟨Nat.le_trans HS.out.1.up.size hu02.out.size,Nat.lt_of_lt_of_le HS.out.2.2.2.2.2.2 hu02.out.size⟩
 have H0 : Hid (KJ dv w0 w A bs ts gm tb g kb qa lb w2.heap.size (jbC A K s T 0) asked 0 (spec []) w2):=by
  refine ⟨⟨[],[],tv,[],[],?_,Nat.zero_le _,⟨⟨_,B4.out,⟨rfl, .inl ⟨rfl,rfl⟩⟩,fun g hg => by simp [Value.ownBlock] at hg⟩,Nat.le_refl _⟩,rfl,?_⟩,B1.out,B2.out,B3.out,hgT.out,htB.out,fun x cs e => hu02.out.get e⟩
  ·rw [List.append_nil,List.append_nil]
   exact HS.out.1.later hu02.out
  ·rw [← hspec.out]
   rfl
 clear hsq htb htg hgt hu2 hu1 hs1 B1 B2 B3 B4 HT HA hz0 huc hbc1 hbc2 hzc hAc
 refine ja4 fun A2 W2 hA2 hW2 => ?_
 subst hW2
 refine (wpIn_wide (n:=2)).1 ?_
 refine wpIn_rangeFunc_ownG rfl (by omega) (gf:=jbR) (lb := #[.pointer (some ⟨tb,0,none⟩)]) (by subst hA2;rfl) trivial (enters_of Tryz.func155 (by kernel_rfl) rfl)
  (jdz tb ps (by have:=hpn.out;omega) W2 g hseq.out) TwoKeep.trans (fun W l o o' _ h1 h2 _ => TwoKeep.putObj _ W l o o' h1 h2) (Below.refl _ _) (fun _ => rfl)
  (fun (pre : List (OneI ps)) W => KInv dv w0 w A bs ts gm tb g kb qa lb W2.heap.size (jbC A K s T 0) asked spec pre W) (fun _ _ _ => False)
  (fun pre0 X Y row hs hg hr => KJ.own hM.out.1 hM.out.2 hs hg hr) (fun _ _ _ _ _ h _ _ => h) H0.out
  (fun (y : OneI ps) => { tmps:=(A2.tmps.setIfInBounds 66 (.int .i64 y.1)).setIfInBounds 14 (.int .i64 y.1),defers := [] }) ?assign ?body ?done ?stop
 case assign => intro l y W K hK;subst hA2;gi_wp2;simpa [numV] using hK
 case body =>
  rintro l pre ⟨y,hy⟩ W hI hpl
  obtain ⟨bs1,ts1,tv1,lk,us,s1,s2,s3,s4,s5⟩:=hI.st
  obtain ⟨v0,hv,hrow,hvM⟩:=s3.row
  obtain ⟨va,vcap,rfl⟩:=ja7 hrow
  obtain ⟨u,hu⟩:=jj4 HVS.out.1 hy
  have hpl2 : Hid (pre.length < ps.length):=hpl
  have hs2 : Hid (bs1.length ≤ 6000):=by have:=hpl2.out;have:=hpn.out;unfold Hid;omega
  have hnn : lk.length ≤ 100000:=by
   have h1:=congrArg List.length s4
   have h2:=congrArg List.length s5
   simp only [List.length_map] at h1 h2
   rw [← hspec.out] at h2
   replace h2 : us.length = (jaN asked says ins (tysC ts (jbz pre))).length:=h2
   have h3:=jld asked says ins (tysC ts (jbz pre))
   rw [jhW,jcl] at h3
   have:=hpl2.out;have:=hpn.out
   omega
  have HI:=Lib.hid (And.intro hI (And.intro s1 (And.intro s2 (And.intro s3 (And.intro s4 (And.intro s5 (And.intro hv (And.intro hrow hvM))))))))
  have HYU:=Lib.hid (And.intro hy hu)
  obtain ⟨nn,hn⟩ : ∃ nn,Hid (lk.length = nn):=⟨_,rfl⟩
  rw [hn.out] at hv hrow hnn
  obtain ⟨vs2,hvs⟩ : ∃ vs,Hid (lk.map numV = vs):=⟨_,rfl⟩
  rw [hvs.out] at hrow
  have HR:=Lib.hid hrow
  have hnx : Hid (spec (jbz pre) = jaN asked says ins (tysC ts (jbz pre)) ∧ spec (jbz pre ++ [y]) = jaN asked says ins (tysC ts (jbz pre) ++ [u.canon])):=by
   rw [← hspec.out]
   exact ⟨rfl,by show jaN asked says ins (tysC ts (jbz pre ++ [y])) = _;rw [jkw ts _ hu]⟩
  have hz8 : Hid (kb ≠ lb ∧ kb + 1 ≠ lb ∧ qa ≠ lb ∧ lb < W2.heap.size ∧ tb ≠ lb ∧ w0.heap.size ≤ lb):=by
   have:=hZZ.out
   have:=HS.out.1.up.size
   unfold Hid
   omega
  have hg8 : Hid (g < W2.heap.size ∧ tb < W2.heap.size ∧ g ≠ lb):=hgl.out
  obtain ⟨r,hr⟩ : ∃ r,says u.canon = r:=⟨_,rfl⟩
  have hr0:=Lib.hid hr
  have b2:=ja1 hI.b2 0
  have b3:=ja1 hI.b3 0
  have b4:=ja1 hv 0
  have l2:=ja0 hI.b2
  have l3:=ja0 hI.b3
  have l4:=ja0 hv
  simp only [gQa,gQz,gQs] at b2 b3 b4
  have HV:=Lib.hid hv
  clear hI hv hrow hvM hpl hr hu s1 s2 s3 s4 s5
  subst hA2
  simp only [List.setIfInBounds_toArray,List.set_cons_succ,List.set_cons_zero]
  have HZ : Hid ((Value.slice va nn vcap).ownBlock ≠ some lb):=fun e => by
   obtain ⟨cur,hc⟩:=jar HR.out e
   rw [HV.out] at hc
   injection hc with hc
   injection hc with _ hc _
   exact absurd hc (by decide)
  obtain ⟨i0,hi,hz0,hz1,hz2⟩:=info_parts jgr
  cases asked
  all_goals (
   gi_wp2_with (first
    | (refine ⟨trivial,rfl,?_⟩;gi_at_call 67;refine (CallsIn.inRound l (callsIn_wide.2 (HSA.out.1 y HYU.out.1 u HYU.out.2 _ kb bs1 ts1 tv1 _ (HI.out.2.1.later (show Up W _ from uq)) hs2.out ((show Up W _ from uq).get HI.out.1.b1)))).mono ?_;rintro e W3 ⟨rfl,hu3⟩;have U:=(show Up W W3 from uq);have HU3:=Lib.hid U;have hIW3:=Lib.hid (HI.out.1.on U);have b2:=ja1 hIW3.out.b2 0;have b3:=ja1 hIW3.out.b3 0;have hvW3:=Lib.hid (U.get HV.out);have b4:=ja1 hvW3.out 0;have f4:=jab hvW3.out 0;have l2:=ja0 hIW3.out.b2;have l3:=ja0 hIW3.out.b3;have l4:=ja0 hvW3.out;simp only [gQa,gQz,gQs] at b2 b3 b4;clear U;have hrr:=hr0.out;rw [hrr];clear hrr;rcases jkL (r:=r) with rfl | rfl | ⟨q1,q2⟩)
    | (refine ⟨trivial,rfl,?_⟩;gi_at_call 68;refine (CallsIn.inRound l (callsIn_wide.2 (HSA.out.2 y HYU.out.1 u HYU.out.2 _ kb bs1 ts1 tv1 _ (HI.out.2.1.later (show Up W _ from uq)) hs2.out ((show Up W _ from uq).get HI.out.1.b1) (by first | rfl | trivial) hr0.out))).mono ?_;rintro e W4 ⟨q,rfl,hq4⟩;have HQ4:=Lib.hid (hq4.from_ (show Up W _ from uq));clear hq4;have K4:=Lib.hid (HQ4.out.keep HI.out.2.1);have h2:=Lib.hid (K4.out.cells HI.out.1.b2 (by decide));have h3:=Lib.hid (K4.out.cells HI.out.1.b3 (by decide));have b2:=ja1 h2.out 0;have b3:=ja1 h3.out 0;have hvW4:=Lib.hid (K4.out.cells HV.out (by decide));have HR4:=Lib.hid (jgk HR.out K4.out);have b4:=ja1 hvW4.out 0;have f4:=jab hvW4.out 0;have l2:=ja0 h2.out;have l3:=ja0 h3.out;have l4:=ja0 hvW4.out;simp only [gQa,gQz,gQs] at b2 b3 b4)
    | (have hx:=HQ4.out;clear hx;gi_at_builtin;go_must (refine jaB rfl _ _ 43 rfl IntL i0 (.int .i64 0) 1 8 Tryz.underlying43 hi hz0 hz1 hz2 rfl (by decide) (.slice va nn vcap) nn vs2 rfl (ja5 HR4.out (show Up W4 _ from uq)) _ 1 1 rfl (by first | rfl | (simp;done) | omega) rfl (by intro u hu;have hu2 : u = .int .i64 q:=(by simpa using hu);rw [hu2];rfl) (by unfold maxLen;omega) (by omega) ?_;intro sa' cap' w7 hown' hgrow hblk;have hd:=Lib.hid (jan hgrow (Up.get (w:=W4) uq hvW4.out) HZ.out);have b4:=ja1 hd.out 0;have f4:=jab hd.out 0;have l4:=ja0 hd.out;simp only [gQa,gQz,gQs] at b4;have HY8:=Lib.hid (And.intro hown' (And.intro hgrow hblk));clear hown' hgrow hblk))
    | (gi_at_builtin;go_must (refine jaB rfl _ _ 43 rfl IntL i0 (.int .i64 0) 1 8 Tryz.underlying43 hi hz0 hz1 hz2 rfl (by decide) (.slice va nn vcap) nn vs2 rfl (ja5 HR.out uq) _ 1 1 rfl (by first | rfl | (simp;done) | omega) rfl (by intro u hu;have hu2 : u = .int .i64 y:=(by simpa using hu);rw [hu2];rfl) (by unfold maxLen;omega) (by omega) ?_;intro sa' cap' w7 hown' hgrow hblk;have hd:=Lib.hid (jan hgrow (Up.get (w:=W) uq HV.out) HZ.out);have b4:=ja1 hd.out 0;have f4:=jab hd.out 0;have l4:=ja0 hd.out;simp only [gQa,gQz,gQs] at b4;have HY7:=Lib.hid (And.intro hown' (And.intro hgrow hblk));clear hown' hgrow hblk))))
  all_goals (have hn9:=hn.out;have hv9:=hvs.out;subst hn9 hv9)
  all_goals first
   | (have hk:=(hnx.out.2.trans (jdU.2.2 hr0.out rfl)).trans (congrArg (fun z => z ++ [_]) hnx.out.1.symm);exact jfK (y:=⟨y,HYU.out.1⟩) hM.out hz8.out hg8.out HI.out.1 HI.out.2.1 HI.out.2.2.1 HI.out.2.2.2.1 HI.out.2.2.2.2.1 HI.out.2.2.2.2.2.1 (HQ4.out.later (show Up W4 _ from uq)) hk HI.out.2.2.2.2.2.2.1 HI.out.2.2.2.2.2.2.2.1 HI.out.2.2.2.2.2.2.2.2 HY8.out.1 HY8.out.2.1 HY8.out.2.2)
   | (have hk:=(hnx.out.2.trans (jdU.2.1 (by rw [hr0.out];first | decide | (unfold jcD;rw [q1,q2];rfl)) (by rw [hr0.out];first | decide | (rintro ⟨z1,z2⟩;cases z2) | (rintro ⟨z1,z2⟩;simp [z1] at q1)))).trans (congrArg (fun z => z ++ [_]) hnx.out.1.symm);exact jfK (y:=⟨y,HYU.out.1⟩) hM.out hz8.out hg8.out HI.out.1 HI.out.2.1 HI.out.2.2.1 HI.out.2.2.2.1 HI.out.2.2.2.2.1 HI.out.2.2.2.2.2.1 (AddQ.there HI.out.2.1 (show Up W _ from uq) (more HYU.out.2) rfl 10) hk HI.out.2.2.2.2.2.2.1 HI.out.2.2.2.2.2.2.2.1 HI.out.2.2.2.2.2.2.2.2 HY7.out.1 HY7.out.2.1 HY7.out.2.2)
   | (exfalso;have hcon : r = 2:=by assumption
      rw [hcon] at q1;exact absurd q1 (by decide))
   | (have hk:=(hnx.out.2.trans (jdU.1 (by rw [hr0.out];first | decide | (unfold jcD;rw [q1,q2];rfl)))).trans hnx.out.1.symm;exact jkc (y:=⟨y,HYU.out.1⟩) (show Up W _ from uq) HI.out.1 hk)
   | (exfalso;simp_all;done)
 case done =>
  rintro D zs W hD hzs hI hK
  have hzs : jbz zs = ps:=hzs
  obtain ⟨bs1,ts1,tv1,lk,us,s1,s2,s3,s4,s5⟩:=hI.st
  obtain ⟨v0,hv,hrow,hvM⟩:=s3.row
  obtain ⟨va,vcap,rfl⟩:=ja7 hrow
  have hzl : zs.length = ps.length:=by have h1:=congrArg List.length hzs;rw [jcl] at h1;exact h1
  have b1:=ja1 hI.b1 4
  have b2:=ja1 hI.b2 0
  have b4:=ja1 hv 0
  have l1:=ja0 hI.b1
  have l2:=ja0 hI.b2
  have l4:=ja0 hv
  simp only [gQa,gQz,gQs] at b1 b2 b4
  have hc : Hid (us.map Ty.canon = jaN asked says ins t.canon.flat):=by
   have h1:=s5
   rw [hzs, ← hspec.out] at h1
   have h2 : us.map Ty.canon = jaN asked says ins (tysC ts ps):=h1
   rw [jkx HVS.out.1,HVS.out.2] at h2
   exact h2
  have hsn : Hid (1 + sumN us ≤ N):=by
   have h1 : sumN us = sumN (us.map Ty.canon):=by
    unfold sumN
    rw [List.map_map,show (Ty.nodes ∘ Ty.canon) = Ty.nodes from funext Ty.nodes_canon]
   rw [hc.out] at h1
   have h2:=HS.out.2.2.2.2.1
   unfold Hid
   omega
  have hb9 : bs1.length ≤ 5000:=by have:=hpn.out;omega
  have HU:=Lib.hid (jhT s1 hrow rfl s4 hsn.out HS.out.2.2.2.2.2.1 (by rw [List.length_append];have:=HS.out.2.2.1;omega))
  have HB9:=Lib.hid hb9
  have HBZ:=Lib.hid hI.bz
  clear hI s1 s2 s3 s4 s5 hv hrow hvM hzs hzl hb9
  subst hA2
  go_wp2_with fail
  refine HU.out.mono ?_
  rintro e w9 ⟨i9,bs9,ts9,tv9,mv9,X9,rfl,q9,hmv,k1,k2,k3,k4,k5,hD9⟩
  have HQ:=Lib.hid (And.intro q9 (And.intro k1 (And.intro k2 (And.intro k3 (And.intro k4 (And.intro k5 (And.intro (hD9.same D _ hK (jkX _)) hD9)))))))
  subst hmv
  clear q9 hD9 k1 k2 k3 k4 k5
  go_wp2_with fail
  refine ⟨by simp, .inl ⟨_,_,rfl,run_takeDeferred HQ.out.2.2.2.2.2.2.1,?_⟩⟩
  refine ⟨.tuple #[.int .i64 i9, .int .i64 0],by simp [results,Tryz.results32,go_sem],?_⟩
  have h1:=HQ.out.1
  rw [List.append_assoc,List.append_assoc] at h1
  have hkj : KeepJ W2.heap.size w9 (w9.putObj D (Obj.deferred none)):=fun z o hz ho => by
   rw [World.putObj_heap_other (fun e => by
    subst e
    rw [HQ.out.2.2.2.2.2.2.1] at hz
    cases hz
    exact ho (.inr ⟨hD,rfl⟩))]
   exact hz
  have hup : Up w0 (w9.putObj D (Obj.deferred none)):=Up.grown (W:=w9) h1.up (grownBy_putObj' _ D _) (fun r e => by cases e;exact Nat.le_trans hM.out.1 hD)
  refine ⟨i9,bs1 ++ bs9,ts1 ++ ts9,tv9,_,X9,rfl,h1.keepJ hM.out.2 hkj hup,?_,?_,HQ.out.2.2.2.1,?_,HQ.out.2.2.2.2.2.1,fun z cs hz => ?_⟩
  ·rw [List.length_append]
   have e1:=HB9.out
   have e2:=HQ.out.2.1
   have e3:=HS.out.2.2.2.2.2.1
   omega
  ·rw [← List.append_assoc]
   exact HQ.out.2.2.1
  ·rw [HQ.out.2.2.2.2.1,hc.out]
   rfl
  ·have h2:=HQ.out.2.2.2.2.2.2.2.cells (HBZ.out z cs hz) (by decide)
   rw [World.putObj_heap_other (fun e => by
    subst e
    rw [HQ.out.2.2.2.2.2.2.1] at h2
    cases h2)]
   exact h2
 case stop => rintro D c pre W hD hSp h hK;exact h.elim
end Go.Proofs.YtiaepldmgighbaaGreatDoor
namespace Go.Proofs.YtiaepldmgighbaaGreatDoor
open Go.RowKit
set_option linter.unusedSimpArgs false
set_option linter.unusedVariables false
attribute [local go_sem] jcV
theorem jgO (t : Ty) : jgP t.canon.kind t.canon.num t.canon.name = jgP t.kind t.num t.name:=by
 cases t with
 | mk k n nm ps ns ms =>
   rw [Ty.canon_mk]
   simp only [Ty.kind,Ty.num,Ty.name]
   by_cases hk : k = 20
   ·subst hk;rfl
   ·rw [if_neg hk]
theorem jms {ts : List Ty} {t : Ty} (hn : t.names.length = t.parts.length) (hm : t.marks.length = t.parts.length) : jc1 ts t = (t.names.zip (t.parts.zip t.marks)).map fun x => (x.1,idOf ts x.2.1,x.2.2):=by
 unfold jc1 memOf
 apply List.ext_getElem?
 intro j
 rw [List.getElem?_map,List.getElem?_map]
 rcases Nat.lt_or_ge j t.parts.length with hj | hj
 ·obtain ⟨a,ha⟩ : ∃ a,t.names[j]? = some a:=⟨_,List.getElem?_eq_getElem (by omega)⟩
  obtain ⟨b,hb⟩ : ∃ a,t.parts[j]? = some a:=⟨_,List.getElem?_eq_getElem (by omega)⟩
  obtain ⟨c,hc⟩ : ∃ a,t.marks[j]? = some a:=⟨_,List.getElem?_eq_getElem (by omega)⟩
  have hz : (t.names.zip (t.parts.zip t.marks))[j]? = some (a,b,c):=List.getElem?_zip_eq_some.2 ⟨ha,List.getElem?_zip_eq_some.2 ⟨hb,hc⟩⟩
  rw [List.getElem?_range hj,hz]
  simp [part,List.getD_eq_getElem?_getD,ha,hb,hc]
 ·rw [List.getElem?_eq_none (by rw [List.length_range];exact hj),List.getElem?_eq_none (by simp only [List.length_zip];omega)]
  rfl
theorem jh6 {w : World} {B A : Nat} {bs : List Nat} {ts : List Ty} {tv mv dv : Value} (h : Are w B A bs ts tv mv dv) {i : Nat} {t : Ty} (ht : ts[i]? = some t) (s : ByteArray) :
  (t.kind ≠ 14 ∧ jb8 ts t = none ∧ jdn none s t.canon = .no) ∨ (t.kind = 14 ∧ jb8 ts t = some (jc1 ts t) ∧ hasM (jc1 ts t) s = none ∧ jdn none s t.canon = .lacks) ∨
   (t.kind = 14 ∧ jb8 ts t = some (jc1 ts t) ∧ ∃ nm z m p,hasM (jc1 ts t) s = some (nm,z,m) ∧ ts[z]? = some p ∧ jdn none s t.canon = .has p.canon m):=by
 by_cases hk : t.kind = 14
 ·refine .inr ?_
  have hp : jb8 ts t = some (jc1 ts t):=by unfold jb8;rw [if_pos hk]
  have hv:=(h.good t (List.mem_of_getElem? ht)).1
  have hl:=jkZ hv hk
  have hm:=jms (ts:=ts) hl.1 hl.2
  have hc : t.canon.names.zip (t.canon.parts.zip t.canon.marks) = (t.names.zip (t.parts.zip t.marks)).map fun x => (x.1,x.2.1.canon,x.2.2):=by
   cases t with
   | mk k n nm ps ns ms =>
     rw [Ty.canon_mk]
     simp only [Ty.names,Ty.parts,Ty.marks]
     rw [List.zip_map_left,List.zip_map_right]
     rfl
  have hmc : jeo none t.canon = some ((t.names.zip (t.parts.zip t.marks)).map fun x => (x.1,x.2.1.canon,x.2.2)):=by
   unfold jeo
   rw [Ty.canon_kind,if_pos hk,hc]
  cases hf : (t.names.zip (t.parts.zip t.marks)).find? (fun x => decide (x.1 = s)) with
  | none =>
    refine .inl ⟨hk,hp,?_,?_⟩
    ·rw [hm]
     unfold hasM
     rw [List.find?_map]
     simp only [Function.comp_def,hf]
     rfl
    ·unfold jdn
     rw [hmc]
     simp only [List.find?_map,Function.comp_def,hf]
     rfl
  | some x =>
    obtain ⟨nm,p0,m⟩:=x
    have hin:=List.mem_of_find?_eq_some hf
    have hp0 : p0 ∈ t.parts:=by
     have:=List.of_mem_zip hin
     exact (List.of_mem_zip this.2).1
    obtain ⟨p,hp1,hp2⟩:=h.rows.id (List.mem_of_getElem? ht) hp0
    refine .inr ⟨hk,hp,nm,idOf ts p0,m,p,?_,hp1,?_⟩
    ·rw [hm]
     unfold hasM
     rw [List.find?_map]
     simp only [Function.comp_def,hf]
     rfl
    ·unfold jdn
     rw [hmc]
     simp only [List.find?_map,Function.comp_def,hf,Option.map_some]
     rw [hp2]
 ·exact .inl ⟨hk,by unfold jb8;rw [if_neg hk],by unfold jdn jeo;rw [Ty.canon_kind,if_neg hk];by_cases h17 : t.kind = 17 <;> simp [h17]⟩
theorem jiQ {w : World} {B A : Nat} {bs : List Nat} {ts : List Ty} {tv mv dv : Value} (h : Are w B A bs ts tv mv dv) {i : Nat} {t : Ty} (ht : ts[i]? = some t) : ∀ l,jb8 ts t = some l → l.length ≤ 100000:=fun l hl => by
 unfold jb8 at hl
 split at hl
 ·cases hl
  unfold jc1
  rw [List.length_map,List.length_range]
  exact (h.few (List.mem_of_getElem? ht)).1
 ·cases hl
theorem joc {w : World} {B A : Nat} {bs : List Nat} {ts : List Ty} {tv mv : Value} (h : Are w B A bs ts tv mv (.map none)) {i : Nat} {t : Ty} (ht : ts[i]? = some t) (kb : Nat) (K T : Int) (s : ByteArray) (er : Int) (hk : w.heap[kb]? = some (.cells (jbC A K s T er) TesT (0,0))) :
  Calls Tryz.prog 106 #[.pointer (some ⟨kb,0,none⟩), .int .i64 i] w fun e w' => e = .returned (.int .i64 (hasR none s t.canon)) ∧ Up w w':=by
 refine (jod h ht kb K T s er (jb8 ts t) (jiQ h ht) (jfM h ht) hk).mono ?_
 rintro e w' ⟨rfl,hu⟩
 refine ⟨?_,hu⟩
 unfold hasR
 rcases jh6 h ht s with ⟨h1,h2,h3⟩ | ⟨h1,h2,h3,h4⟩ | ⟨h1,h2,nm,z,m,p,h3,h4,h5⟩
 ·rw [h2,h3];rfl
 ·rw [h2,h4,Ty.canon_kind]
  unfold hasN
  simp only [h3]
 ·rw [h2,h5]
  unfold hasN
  simp only [h3]
  cases m <;> rfl
theorem jlt {w : World} {B A : Nat} {bs : List Nat} {ts : List Ty} {tv mv dv : Value} (h : Are w B A bs ts tv mv dv) {z : Nat} {p : Ty} (hz : ts[z]? = some p) (v : Ty) :
  jj9 v.canon p.canon = if (jb5 ts z p).length = 1 then isC v (ts.getD ((jb5 ts z p).headD 0) (ja3 3)) else if (jb5 ts z p).any (fun q => isC v (ts.getD q (ja3 3)) != 0) = true then 2 else 0:=by
 obtain ⟨vs,h1,h2⟩:=jcw h hz
 unfold jj9
 rw [← h2]
 have hl : vs.length = (jb5 ts z p).length:=by have:=congrArg List.length h1;simpa using this.symm
 rw [List.length_map,hl]
 have key : ∀ (l : List Nat) (vs : List Ty),l.map (fun z => ts[z]?) = vs.map some → (vs.map Ty.canon).any (fun q => isC v.canon q != 0) = l.any (fun q => isC v (ts.getD q (ja3 3)) != 0):=by
  intro l
  induction l with
  | nil => intro vs h;cases vs with | nil => rfl | cons a b => simp at h
  | cons x r ih =>
    intro vs h
    cases vs with
    | nil => simp at h
    | cons a b =>
      simp only [List.map_cons,List.cons.injEq] at h
      simp only [List.map_cons,List.any_cons]
      rw [ih b h.2,jf0,List.getD_eq_getElem?_getD,h.1]
      rfl
 rw [key _ _ h1]
 split
 ·rename_i hone
  match hp : jb5 ts z p,vs,hone,h1 with
  | [x],[a],_,h1 =>
    simp only [List.map_cons,List.map_nil,List.cons.injEq,and_true] at h1
    simp only [List.map_cons,List.headD_cons]
    rw [jf0,List.getD_eq_getElem?_getD,h1]
    rfl
  | [x],[],_,h1 => simp at h1
  | [x],a :: b :: c,_,h1 => simp at h1
  | [],_,h1,_ => simp at h1
  | a :: b :: c,_,h1,_ => simp at h1
 ·rfl
abbrev jlp : Nat:=162
theorem jk5 {w : World} {B A : Nat} {bs : List Nat} {ts : List Ty} {tv mv dv : Value} (h : Are w B A bs ts tv mv dv) {i T : Nat} {t v : Ty} (ht : ts[i]? = some t) (hv : ts[T]? = some v) (kq kb : Nat) (K : Int) (s : ByteArray) (er : Int) (hk : w.heap[kb]? = some (.cells (jbC A K s T er) TesT (0,0))) (hq : w.heap[kq]? = some (.cells #[.pointer (some ⟨kb,0,none⟩)] TesP (0,0))) :
  Calls Tryz.prog jlp #[.int .i64 i, .pointer (some ⟨kq,0,none⟩)] w fun e w' => e = .returned (.bool (isC v t != 0)) ∧ Up w w':=by
 have HI:=Lib.hid (fun W (hW : Up w W) => jli (h.up hW) ht hv kb K s er (hW.get hk))
 have q0:=ja1 hq 0
 have q9:=ja0 hq
 simp only [gQa,gQz,gQs] at q0
 obtain ⟨r,hr⟩ : ∃ r,Hid (isC v t = r):=⟨_,rfl⟩
 rw [hr.out] at HI ⊢
 clear h ht hv hk hq
 go_enter Tryz.func162,Tryz.ntmps162
 go_wp2_with (first | (go_at_call 104;refine (HI.out _ (show Up w _ from uq)).mono ?_;rintro e w2 ⟨rfl,hu2⟩))
 all_goals go_ret
 all_goals exact ⟨by simp [bne,BEq.beq],uq⟩
set_option maxRecDepth 100000
set_option maxHeartbeats 1600000
theorem jkl (p : Nat → Bool) (xs : List Nat) (a : Option Addr) (cap kq : Nat) (w : World) (hr : w.ownsRow 0 IntL 1 (.slice a xs.length cap) xs.length (xs.map numV)) (hl : xs.length ≤ 100000)
  (hp : ∀ x ∈ xs,∀ W,Up w W → Calls Tryz.prog jlp #[.int .i64 x, .pointer (some ⟨kq,0,none⟩)] W fun e w' => e = .returned (.bool (p x)) ∧ Up W w') :
  Calls Tryz.prog 187 #[.slice a xs.length cap, .func (.func jlp) #[] #[.pointer (some ⟨kq,0,none⟩)]] w fun e w' => ((xs.any p = false ∧ e = .returned (.int .i64 (-1))) ∨ ∃ j : Nat,xs.any p = true ∧ e = .returned (.int .i64 j)) ∧ Up w w':=by
 have HR:=Lib.hid hr
 have HP:=Lib.hid hp
 obtain ⟨n,hn⟩ : ∃ n,Hid (xs.length = n):=⟨_,rfl⟩
 rw [hn.out] at hl ⊢
 clear hr hp
 go_enter Tryz.func187,Tryz.ntmps187
 go_wp2_with fail
 go_loopw [8] (fun i wr => ∃ j : Nat,j ≤ n ∧ i = .int .i64 j ∧ Hid (∀ y ∈ xs.take j,p y = false) ∧ Up w wr) (fun i _ => n - (intOf i).toNat)
 case atStart => exact ⟨0,Nat.zero_le _,rfl,(by unfold Hid;simp),uq⟩
 case round =>
  obtain ⟨j,hj,rfl,hno,hup⟩:=hrel
  by_cases hlt : j < n
  ·have hji : (j : Int) < n:=by omega
   obtain ⟨x,hx⟩ : ∃ x,xs[j]? = some x:=⟨_,List.getElem?_eq_getElem (by rw [hn.out];exact hlt)⟩
   obtain ⟨b,off,rfl,hbl,y0⟩:=jgu (ja5 HR.out hup) rfl j x hx
   have HX:=Lib.hid hx
   have HPX:=Lib.hid (HP.out x (List.mem_of_getElem? hx))
   obtain ⟨r,hr⟩ : ∃ r,Hid (p x = r):=⟨_,rfl⟩
   rw [hr.out] at HPX
   clear hx hlt
   cases r
   ·go_wp2_with (first | (go_at_call 162;refine (HPX.out _ (hup.trans (show Up wr _ from uq))).mono ?_;rintro e w2 ⟨rfl,hu2⟩))
    refine ⟨⟨j + 1,by omega,by simp,fun y hy => ?_,hup.trans (show Up wr _ from uq)⟩,by simp [intOf];omega⟩
    rw [List.take_add_one,HX.out] at hy
    rcases List.mem_append.1 hy with q | q
    ·exact hno.out y q
    ·simp at q;subst q;exact hr.out
   ·go_wp2_with (first | (go_at_call 162;refine (HPX.out _ (hup.trans (show Up wr _ from uq))).mono ?_;rintro e w2 ⟨rfl,hu2⟩))
    refine bodyPost_ret (v := .int .i64 j) (by simp [results,Tryz.results187,go_sem]) rfl ?_
    exact ⟨.inr ⟨j,List.any_eq_true.2 ⟨x,List.mem_of_getElem? HX.out,hr.out⟩,rfl⟩,hup.trans (show Up wr _ from uq)⟩
  ·obtain rfl : j = n:=by omega
   clear hlt
   go_wp2_with fail
   refine bodyPost_ret (v := .int .i64 (-1)) (by simp [results,Tryz.results187,go_sem]) rfl ?_
   refine ⟨.inl ⟨?_,rfl⟩,hup.trans (show Up wr _ from uq)⟩
   have:=hno.out
   rw [← hn.out,List.take_length] at this
   rw [List.any_eq_false]
   exact fun y hy => by rw [this y hy];simp
theorem jgC (p : Nat → Bool) (xs : List Nat) (a : Option Addr) (cap kq : Nat) (w : World) (hr : w.ownsRow 0 IntL 1 (.slice a xs.length cap) xs.length (xs.map numV)) (hl : xs.length ≤ 100000)
  (hp : ∀ x ∈ xs,∀ W,Up w W → Calls Tryz.prog jlp #[.int .i64 x, .pointer (some ⟨kq,0,none⟩)] W fun e w' => e = .returned (.bool (p x)) ∧ Up W w') :
  Calls Tryz.prog 161 #[.slice a xs.length cap, .func (.func jlp) #[] #[.pointer (some ⟨kq,0,none⟩)]] w fun e w' => e = .returned (.bool (xs.any p)) ∧ Up w w':=by
 have HX:=Lib.hid (fun W (hW : Up w W) => jkl p xs a cap kq W (ja5 hr hW) hl (fun x hx W' hW' => hp x hx W' (hW.trans hW')))
 obtain ⟨n,hn⟩ : ∃ n,Hid (xs.length = n):=⟨_,rfl⟩
 rw [hn.out] at HX ⊢
 obtain ⟨r,hr2⟩ : ∃ r,Hid (xs.any p = r):=⟨_,rfl⟩
 rw [hr2.out] at HX ⊢
 clear hr hl hp
 go_enter Tryz.func161,Tryz.ntmps161
 cases r
 ·go_wp2_with (first | (go_at_call 187;refine (HX.out _ (show Up w _ from uq)).mono ?_;(rintro e w2 ⟨⟨_,rfl⟩ | ⟨j,h,rfl⟩,hu2⟩;rotate_left;cases h)))
  go_ret
  exact ⟨rfl,uq⟩
 ·go_wp2_with (first | (go_at_call 187;refine (HX.out _ (show Up w _ from uq)).mono ?_;(rintro e w2 ⟨⟨h,rfl⟩ | ⟨j,_,rfl⟩,hu2⟩;cases h;have hj0 : (0 : Int) ≤ j:=by omega)))
  go_ret
  exact ⟨by simp,uq⟩
set_option maxHeartbeats 6400000
theorem jls {w : World} {B A : Nat} {bs : List Nat} {ts : List Ty} {tv mv : Value} (h : Are w B A bs ts tv mv (.map none)) {i T : Nat} {t v : Ty} (ht : ts[i]? = some t) (hv : ts[T]? = some v) (kb : Nat) (K : Int) (s : ByteArray) (er : Int) (hk : w.heap[kb]? = some (.cells (jbC A K s T er) TesT (0,0))) :
  Calls Tryz.prog 107 #[.pointer (some ⟨kb,0,none⟩), .int .i64 i] w fun e w' => e = .returned (.int .i64 (jcG none s v.canon t.canon)) ∧ Up w w':=by
 have HA:=Lib.hid (fun W (hW : Up w W) => jc6 (h.up hW) ht kb K T s er (hW.get hk))
 have HPC:=Lib.hid (fun W (hW : Up w W) => jh5 i kb A K T s er (jb8 ts t) (jiQ h ht) W (jfM (h.up hW) ht) (hW.get hk))
 have HK:=Lib.hid hk
 have HH:=Lib.hid (And.intro h (And.intro hv ht))
 rcases jh6 h ht s with ⟨h1,h2,h3⟩ | ⟨h1,h2,h3,h4⟩ | ⟨h1,h2,nm,z,m,p,h3,h4,h5⟩
 ·have e : jcG none s v.canon t.canon = 2:=by unfold jcG;rw [h3]
  rw [e]
  rw [h2] at HPC
  unfold pieR at HPC
  clear h ht hv hk h1 h2 h3 e
  go_enter Tryz.func107,Tryz.ntmps107
  go_wp2_with (first | (go_at_call 159;refine (HPC.out _ (show Up w _ from uq)).mono ?_;rintro e w2 ⟨rfl,hu2⟩))
  all_goals go_ret
  all_goals exact ⟨rfl,uq⟩
 ·have e : jcG none s v.canon t.canon = 0:=by unfold jcG;rw [h4,Ty.canon_kind,if_pos h1]
  rw [e]
  rw [h2] at HPC
  unfold pieR at HPC
  simp only [h3] at HPC
  have hk14:=Lib.hid h1
  clear h ht hv hk h1 h2 h3 h4 e
  go_enter Tryz.func107,Tryz.ntmps107
  go_wp2_with (first | (go_at_call 159;refine (HPC.out _ (show Up w _ from uq)).mono ?_;rintro e w2 ⟨rfl,hu2⟩;have s1:=hu2.get (ja9 _ _);have x0:=ja1 s1 0;have x9:=ja0 s1;simp only [gQa,gQz] at x0;clear s1) | (go_at_call 108;refine (HA.out _ (show Up w _ from uq)).mono ?_;rintro e w3 ⟨pa,pc,na,nc,ma,mc,rfl,hv2,hu3⟩;simp only [tyA,hk14.out];clear hv2))
  all_goals go_ret
  all_goals exact ⟨rfl,uq⟩
 ·rw [h2] at HPC
  unfold pieR at HPC
  simp only [h3,pieV] at HPC
  cases m
  ·have e : jcG none s v.canon t.canon = jj9 v.canon p.canon:=by unfold jcG;rw [h5]
   have HP:=Lib.hid (fun W (hW : Up w W) => jh7 (h.up hW) h4)
   have hxl : Hid ((jb5 ts z p).length ≤ 100000):=by
    have hf:=h.few (List.mem_of_getElem? h4)
    unfold Hid jb5
    split
    ·rw [List.length_map];omega
    ·simp
   have HTY : Hid (∀ x ∈ jb5 ts z p,∃ u,ts[x]? = some u):=fun x hx => by
    obtain ⟨vs,r1,r2⟩:=jcw h h4
    obtain ⟨j,hj⟩:=List.getElem?_of_mem hx
    have hh:=congrArg (·[j]?) r1
    simp only [List.getElem?_map,hj,Option.map_some] at hh
    cases hvj : vs[j]? with
    | none => rw [hvj] at hh;cases hh
    | some u => rw [hvj] at hh;exact ⟨u,by simpa using hh⟩
   rw [e,jlt h h4]
   obtain ⟨xs,hxs⟩ : ∃ l,Hid (jb5 ts z p = l):=⟨_,rfl⟩
   rw [hxs.out] at HP hxl HTY ⊢
   obtain ⟨f,hf⟩ : ∃ f : Nat → Int,Hid ((fun q => isC v (ts.getD q (ja3 3))) = f):=⟨_,rfl⟩
   have hf1 : Hid (∀ (x : Nat) (u : Ty),ts[x]? = some u → isC v u = f x):=fun x u hu => by
    rw [← hf.out]
    show _ = isC v (ts.getD x (ja3 3))
    rw [List.getD_eq_getElem?_getD,hu]
    rfl
   have hf2 : isC v (ts.getD (xs.headD 0) (ja3 3)) = f (xs.headD 0):=by rw [← hf.out]
   have hf3 : (xs.any fun q => isC v (ts.getD q (ja3 3)) != 0) = xs.any fun q => f q != 0:=by rw [← hf.out]
   rw [hf2,hf3]
   clear h ht hv hk h1 h2 h3 h4 h5 e hf2 hf3 hf
   obtain ⟨n,hn⟩ : ∃ n,Hid (xs.length = n):=⟨_,rfl⟩
   rw [hn.out]
   obtain ⟨R,hR⟩ : ∃ R,Hid ((if n = 1 then f (xs.headD 0) else if (xs.any fun q => f q != 0) = true then (2 : Int) else 0) = R):=⟨_,rfl⟩
   rw [hR.out]
   go_enter Tryz.func107,Tryz.ntmps107
   go_wp2_with (go_at_call 159;refine (HPC.out _ (show Up w _ from uq)).mono ?_;rintro e w2 ⟨rfl,hu2⟩;have s1:=hu2.get (ja9 _ _);have HQ:=Lib.hid s1;have x0:=ja1 s1 0;have x9:=ja0 s1;simp only [gQa,gQz] at x0;clear s1)
   have hP2 : Hid ((w2.alloc (.cells #[.string nm, .int .i64 z, .bool false] PieT)).heap[w2.heap.size]? = some (.cells #[.string nm, .int .i64 z, .bool false] PieT (0,0))):=ja9 _ _
   have hU2 : Hid (Up w w2):=uq
   refine ja4 fun A3 W3 hA3 hW3 => ?_
   rw [← hW3] at hP2
   have hU3 : Hid (Up w W3):=by rw [hW3];exact uq
   have hQ3 : Hid (W3.heap[w.heap.size]? = some (.cells #[.pointer (some ⟨kb,0,none⟩)] TesP (0,0))):=by rw [hW3];exact jah HQ.out
   obtain ⟨qp,hqp⟩ : ∃ q,Hid (w2.heap.size = q):=⟨_,rfl⟩
   rw [hqp.out] at hP2 hA3
   obtain ⟨qk,hqk⟩ : ∃ q,Hid (w.heap.size = q):=⟨_,rfl⟩
   rw [hqk.out] at hQ3 hA3
   have HS : Hid (∀ X : World,Up W3 X → X.cell? ⟨qk,0,none⟩ = some (.pointer (some ⟨kb,0,none⟩)) ∧ X.cell? ⟨kb,0,none⟩ = some (.pointer (some ⟨A,0,none⟩)) ∧ X.cell? ⟨qp,1,none⟩ = some (.int .i64 z)):=fun X hX => ⟨ja1 (hX.get hQ3.out) 0,ja1 (hX.get (hU3.out.get HK.out)) 0,ja1 (hX.get hP2.out) 1⟩
   clear hW3 x0 x9 hu2
   subst hA3
   have y1:=(HS.out W3 uq).1
   have y2:=(HS.out W3 uq).2.1
   have y3:=(HS.out W3 uq).2.2
   go_region_held3 (fun X => X.cell? ⟨qk,0,none⟩ = some (.pointer (some ⟨kb,0,none⟩)) ∧ X.cell? ⟨kb,0,none⟩ = some (.pointer (some ⟨A,0,none⟩)) ∧ X.cell? ⟨qp,1,none⟩ = some (.int .i64 z)) (exact HS.out _ (show Up W3 _ from uq)) (first
    | (go_at_call 66;refine (HP.out _ (hU3.out.trans (show Up W3 _ from uq))).mono ?_;rintro e w3 ⟨tb,g,rfl,hsq,_,_,_,hu3⟩;have HSQ:=Lib.hid hsq;have hu3':=(show Up W3 w3 from uq);clear hsq)
    | (go_at_call 160;refine (jiw xs hxl.out tb g _ (HSQ.out.up uq)).mono ?_;rintro e w4 ⟨lv,rfl,hr,hu4⟩;rw [hn.out] at hr;obtain ⟨la,lc,rfl⟩:=ja7 hr;have HR:=Lib.hid hr;have hu4':=(show Up W3 w4 from uq);clear hr))
   have HU4 : Hid (Up w w4):=hU3.out.trans hu4'
   have z1:=(HS.out w4 hu4').1
   have zl:=jaj z1
   have hQ4 : Hid (w4.heap[qk]? = some (.cells #[.pointer (some ⟨kb,0,none⟩)] TesP (0,0))):=hu4'.get hQ3.out
   by_cases h1 : n = 1
   ·subst h1
    obtain ⟨x,hx⟩ : ∃ x,xs = [x]:=List.length_eq_one_iff.1 hn.out
    subst hx
    obtain ⟨u,hu⟩:=HTY.out x (by simp)
    have HI:=Lib.hid (fun W (hW : Up w4 W) => jli (HH.out.1.up (HU4.out.trans hW)) hu HH.out.2.1 kb K s er ((HU4.out.trans hW).get HK.out))
    rw [hf1.out x u hu] at HI
    obtain ⟨bl,off,rfl,hbl,y0⟩:=jgu HR.out rfl 0 x rfl
    simp only [Nat.add_zero] at y0
    clear y1 y2 y3 hu HTY
    go_wp2_with fail
    go_region_law (first | (go_simp;go_at_call 104;refine (HI.out _ (show Up w4 _ from uq)).mono ?_;rintro e w5 ⟨rfl,hu5⟩))
    all_goals go_wp2_with fail
    all_goals go_ret
    all_goals exact ⟨by have q:=hR.out;simp only [if_true,List.headD_cons] at q;rw [← q];rfl,HU4.out.trans (show Up w4 _ from uq)⟩
   ·have hC:=jgC (fun q => f q != 0) xs la lc qk
    rw [hn.out] at hC
    have HC:=Lib.hid (fun W (hW : Up w4 W) => hC W (ja5 HR.out hW) (by rw [← hn.out];exact hxl.out) (fun x hx W' hW' => by
     obtain ⟨u,hu⟩:=HTY.out x hx
     have q:=jk5 (HH.out.1.up (HU4.out.trans (hW.trans hW'))) hu HH.out.2.1 qk kb K s er ((HU4.out.trans (hW.trans hW')).get HK.out) ((hW.trans hW').get hQ4.out)
     rw [hf1.out x u hu] at q
     exact q))
    obtain ⟨r,hr⟩ : ∃ r,Hid ((xs.any fun q => f q != 0) = r):=⟨_,rfl⟩
    rw [hr.out] at HC
    have H1:=Lib.hid h1
    have h1i : ((n : Int) == 1) = false:=by simp;omega
    clear y1 y2 y3 HTY hC h1
    cases r
    ·go_wp2_with (first | (go_at_call 161;refine (HC.out _ (show Up w4 _ from uq)).mono ?_;rintro e w5 ⟨rfl,hu5⟩))
     go_ret
     exact ⟨by rw [← hR.out,if_neg H1.out,hr.out];rfl,HU4.out.trans (show Up w4 _ from uq)⟩
    ·go_wp2_with (first | (go_at_call 161;refine (HC.out _ (show Up w4 _ from uq)).mono ?_;rintro e w5 ⟨rfl,hu5⟩))
     go_ret
     exact ⟨by rw [← hR.out,if_neg H1.out,hr.out];rfl,HU4.out.trans (show Up w4 _ from uq)⟩
  ·have e : jcG none s v.canon t.canon = 2:=by unfold jcG;rw [h5]
   rw [e]
   clear h ht hv hk h1 h2 h3 h4 h5 e
   go_enter Tryz.func107,Tryz.ntmps107
   go_wp2_with (first | (go_at_call 159;refine (HPC.out _ (show Up w _ from uq)).mono ?_;rintro e w2 ⟨rfl,hu2⟩))
   all_goals go_ret
   all_goals exact ⟨rfl,uq⟩
end Go.Proofs.YtiaepldmgighbaaGreatDoor
