import Derived.Test.YtiaepldmgighbaaGreatDoorU39
import Derived.Test.YtiaepldmgighbaaGreatDoorU28
import Derived.Test.YtiaepldmgighbaaGreatDoorU32
import Derived.Test.YtiaepldmgighbaaGreatDoorU38
import Derived.Test.YtiaepldmgighbaaGreatDoorU40a
import Derived.Test.YtiaepldmgighbaaGreatDoorU40b
import Derived.Test.YtiaepldmgighbaaGreatDoorU40c
namespace Go.Proofs.YtiaepldmgighbaaGreatDoor
open Go.RowKit
set_option linter.unusedSimpArgs false
set_option maxHeartbeats 40000000
set_option maxRecDepth 100000
theorem jo0 (N M : Nat → Prop) (B : Nat) (k n : Int) (nm : ByteArray) (ids nv mv pv : Value) (qs : List Nat) (ps : List Ty) (ns : List ByteArray) (ms : List Bool) (m : Int) (w : World) (hi : ∃ a l c,ids = .slice a l c) (h : MayH N M B nm nv mv pv qs ps ns ms m w) (hn1 : -9223372036854775808 ≤ n) (hn2 : n ≤ 9223372036854775807) :
  Calls Tryz.prog 56 #[typV k n nm ids nv mv,pv] w (MayR (Ty.mk k n nm ps ns ms) w):=by
 obtain ⟨ia,il,ic,rfl⟩:=hi
 obtain ⟨pa,pcap,rfl,_,_⟩:=h.row.form
 obtain ⟨na,ncap,rfl,_,_⟩:=h.names.form
 obtain ⟨ma,mcap,rfl,_,_⟩:=h.marks.form
 simp only [List.length_map] at h ⊢
 by_cases k11 : k = 11
 ·subst k11;exact may_11 N M B n nm ia na ma pa il ic ncap mcap pcap qs ps ns ms m w h hn1 hn2
 by_cases k12 : k = 12
 ·subst k12;exact may_12 N M B n nm ia na ma pa il ic ncap mcap pcap qs ps ns ms m w h hn1 hn2
 by_cases k13 : k = 13
 ·subst k13;exact may_13 N M B n nm ia na ma pa il ic ncap mcap pcap qs ps ns ms m w h hn1 hn2
 by_cases k14 : k = 14
 ·subst k14;exact may_14 N M B n nm ia na ma pa il ic ncap mcap pcap qs ps ns ms m w h hn1 hn2
 by_cases k15 : k = 15
 ·subst k15;exact may_15 N M B n nm ia na ma pa il ic ncap mcap pcap qs ps ns ms m w h hn1 hn2
 by_cases k17 : k = 17
 ·subst k17;exact may_17 N M B n nm ia na ma pa il ic ncap mcap pcap qs ps ns ms m w h hn1 hn2
 by_cases hk : k = 18 ∨ k = 19 ∨ k = 21 ∨ k = 22 ∨ k = 23
 ·exact may_18 N M B k hk n nm ia na ma pa il ic ncap mcap pcap qs ps ns ms m w h hn1 hn2
 by_cases k20 : k = 20
 ·subst k20;exact may_20 N M B n nm ia na ma pa il ic ncap mcap pcap qs ps ns ms m w h hn1 hn2
 exact may_0 N M B k (by omega) n nm ia na ma pa il ic ncap mcap pcap qs ps ns ms m w h hn1 hn2
theorem Up.of_below {w w' : World} (h : Below w.heap.size w w') : Up w w':=⟨h.os,h.tape,h.output,h.size,fun i hi => h.block i hi⟩
theorem jbQ {N : Nat → Prop} {w0 w : World} {T : TypeId} {v : Value} {n : Nat} {us : List Value} (h : w.ownsRow w0.heap.size T 1 v n us) (hN : Open N w0) (hl : us.length = n) (hn : n ≤ 1000000000) : RowOf T N w v us:=by
 subst hl
 rcases h.2 with ⟨hv,h0⟩ | ⟨g,cap,cur,hv,hB,hg,hc,hu⟩
 ·rw [List.length_eq_zero_iff.1 h0,hv];exact RowOf.nil _ _ _
 ·refine ⟨some ⟨g,0,none⟩,cap,hv,hc,hn,fun j u hj => ⟨g,0,cur,(0,0),rfl,hN g hB,hg,?_⟩⟩
  have h2:=hu.2.2
  rw [Nat.mul_one] at h2
  rw [← h2,List.getElem?_take] at hj
  split at hj
  ·rw [Nat.zero_add, ← Array.getElem?_toList];exact hj
  ·cases hj
theorem jfd (N N' : Nat → Prop) (v : Value) (l : List ByteArray) (w : World) (h : RowV N w v (l.map .string)) (hl1 : l.length ≤ 2000000) (hN : Open N' w) :
  Calls Tryz.prog 58 #[v] w fun e w' => ∃ v',e = .returned v' ∧ RowOf StrT N' w' v' (l.map .string) ∧ Up w w':=by
 obtain ⟨a,cap,rfl,hcap,hlen⟩:=h.form
 rw [List.length_map] at hlen hcap
 cases a with
 | none =>
   have h0 : l = []:=by
    cases l with
    | nil => rfl
    | cons x r =>
      obtain ⟨g,off,cap',e,_⟩:=h.at_ (j:=0) (u := .string x) rfl
      cases e
   subst h0
   refine (Tryz.slices_Clone_string_nil 0 cap w).mono ?_
   rintro e w' ⟨rfl,rfl⟩
   exact ⟨_,rfl,RowOf.nil _ _ _,Up.refl _⟩
 | some ad =>
   cases l with
   | nil =>
     refine (Tryz.slices_Clone_string_zero ad cap w).mono ?_
     rintro e w' ⟨v',rfl,hv,_,hb⟩
     exact ⟨v',rfl,jbQ hv hN rfl (by omega),Up.of_below hb⟩
   | cons l0 lr =>
   obtain ⟨l,hle⟩ : ∃ l,l = l0 :: lr:=⟨_,rfl⟩
   obtain ⟨b,off,rfl⟩ : ∃ b off,ad = ⟨b,off,none⟩:=by
    obtain ⟨g,off,cap',e,_⟩:=h.at_ (j:=0) (u := .string l0) rfl
    injection e with e _ _
    injection e with e
    exact ⟨g,off,e⟩
   rw [← hle] at h hl1 hlen hcap ⊢
   clear hle
   rw [List.length_map]
   refine (Tryz.slices_Clone_string b off l.length cap l w (Nat.le_refl _) (by omega) (fun j hj => ?_)).mono ?_
   ·obtain ⟨s,hs⟩ : ∃ s,l[j]? = some s:=⟨_,List.getElem?_eq_getElem hj⟩
    obtain ⟨g,off',cap',e,hc,_⟩:=h.at_ (j:=j) (u := .string s) (by rw [List.getElem?_map,hs];rfl)
    injection e with e _ _
    injection e with e
    injection e with e1 e2 _
    subst e1 e2
    rw [hc]
    simp [List.getD,hs]
   ·rintro e w' ⟨v',rfl,hv,_,hb⟩
    rw [List.take_length] at hv
    exact ⟨v',rfl,jbQ hv hN (by simp) (by omega),Up.of_below hb⟩
theorem jhG : (Tryz.prog.info? BooT).map (fun i => (i.zero,i.size,i.bytes)) = some (some (.bool false),1,1):=by kernel_rfl
theorem jff (ad : Addr) (c : Nat) (w : World) :
  Calls Tryz.prog 59 #[.slice (some ad) 0 c] w fun e w' => ∃ v',e = .returned v' ∧ w'.ownsRow w.heap.size BooT 1 v' 0 [] ∧ Below w.heap.size w w':=by
 obtain ⟨i0,hi,hz0,hz1,hz2⟩:=info_parts jhG
 have q24 : ∀ (w : World) (a : Option Addr) (n c n' c' : Nat),(binOp .eql 31 (.slice a n c) (.slice none n' c')).run Tryz.prog w = .ok (.bool a.isNone) w:=fun w a n c n' c' => Lib.run_eql_slice_nil w _ _ a n c n' c' Tryz.underlying31
 have u24 : ∀ w,Sem.run Tryz.prog (underlying 31) w = .ok (TypeDesc.slice BooT) w:=run_underlying Tryz.underlying31
 go_enter Tryz.func59,Tryz.ntmps59
 go_wp2_with (at_builtin;refine wpList_append_own _ rfl _ _ 31 rfl w.heap.size BooT i0 (.bool false) 1 1 Tryz.underlying31 hi hz0 hz1 hz2 rfl (by decide) _ _ _ rfl (World.ownsRow_made w #[] 0 (Nat.le_refl _) (Nat.zero_le _) rfl) ad 0 c [] rfl rfl (by intro j u hj;simp at hj) (by intro u hu;cases hu) (by unfold maxLen;omega) (by omega) (by simp) ?_)
 intro v' w1 hown hgrow hnil
 go_wp2
 go_ret
 refine ⟨v',rfl,by simpa using hown,?_⟩
 exact ((Below.refl _ w).alloc (Nat.le_refl _) _).grown hgrow (by simp) (by intro k hk;simp [Value.ownBlock] at hk;omega)
theorem jfe (N N' : Nat → Prop) (v : Value) (l : List Bool) (w : World) (h : RowV N w v (l.map .bool)) (hl1 : l.length ≤ 2000000) (hN : Open N' w) :
  Calls Tryz.prog 59 #[v] w fun e w' => ∃ v',e = .returned v' ∧ RowOf BooT N' w' v' (l.map .bool) ∧ Up w w':=by
 obtain ⟨a,cap,rfl,hcap,hlen⟩:=h.form
 rw [List.length_map] at hlen hcap
 cases a with
 | none =>
   have h0 : l = []:=by
    cases l with
    | nil => rfl
    | cons x r =>
      obtain ⟨g,off,cap',e,_⟩:=h.at_ (j:=0) (u := .bool x) rfl
      cases e
   subst h0
   refine (Tryz.slices_Clone_nil_f59 0 cap w).mono ?_
   rintro e w' ⟨rfl,rfl⟩
   exact ⟨_,rfl,RowOf.nil _ _ _,Up.refl _⟩
 | some ad =>
   cases l with
   | nil =>
     refine (jff ad cap w).mono ?_
     rintro e w' ⟨v',rfl,hv,hb⟩
     exact ⟨v',rfl,jbQ hv hN rfl (by omega),Up.of_below hb⟩
   | cons l0 lr =>
   obtain ⟨l,hle⟩ : ∃ l,l = l0 :: lr:=⟨_,rfl⟩
   obtain ⟨b,off,rfl⟩ : ∃ b off,ad = ⟨b,off,none⟩:=by
    obtain ⟨g,off,cap',e,_⟩:=h.at_ (j:=0) (u := .bool l0) rfl
    injection e with e _ _
    injection e with e
    exact ⟨g,off,e⟩
   rw [← hle] at h hl1 hlen hcap ⊢
   clear hle
   obtain ⟨i0,hi,hz0,hz1,hz2⟩:=info_parts jhG
   rw [List.length_map]
   refine (Tryz.slices_Clone_f59 i0 (.bool false) 1 1 hi hz0 hz1 hz2 rfl (by decide) (fun w => by kernel_rfl) b off l.length cap (l.map .bool) w (by simp) (by unfold maxLen;omega) (by omega) (fun j u hj => ?_) (fun u hu => ?_)).mono ?_
   ·obtain ⟨g,off',cap',e,hc,_⟩:=h.at_ hj
    injection e with e _ _
    injection e with e
    injection e with e1 e2 _
    subst e1 e2
    exact hc
   ·obtain ⟨x,_,rfl⟩:=List.mem_map.1 hu
    rfl
   ·rintro e w' ⟨v',rfl,hv,_,hb⟩
    exact ⟨v',rfl,jbQ hv hN (by simp) (by omega),Up.of_below hb⟩
structure FindH (M : Nat → Prop) (B A : Nat) (bs : List Nat) (ts : List Ty) (tv mv dv : Value) (zs : List Nat) (us : List Ty) (a : Option Addr) (nm : ByteArray) (nv kv : Value) (ns : List ByteArray) (ms : List Bool) (m : Int) (w : World) : Prop where
 are : Are w B A bs ts tv mv dv
 ids : IdsAt w a zs
 typs : zs.map (fun z => ts[z]?) = us.map some
 fit : Fit us
 glob : GlobB B w
 few : bs.length ≤ 500000
 names : RowV M w nv (ns.map .string)
 marks : RowV M w kv (ms.map .bool)
 ln : ns.length ≤ 2000000
 lm : ms.length ≤ 2000000
 small : ∀ s ∈ ns,s.size ≤ 2000000
 nm : nm.size ≤ 2000000
 max : w.cell? ⟨0,0,none⟩ = some (.int .i64 m)
def FindR (B A : Nat) (bs : List Nat) (ts : List Ty) (tv mv dv : Value) (w : World) (u : Ty) (e : Ending) (w' : World) : Prop :=
 (e = .returned (.tuple #[.int .i64 0, .int .i64 1]) ∧ Up w w') ∨ (u.Valid ∧ ∃ w2 : World,Memo jag B w w2 ∧ KeepR B A bs ts tv mv dv w2 u e w')
theorem jhd {N : Nat → Prop} {w : World} {T : TypeId} {v : Value} {n : Nat} {us : List Value} (h : w.ownsRow 0 T 1 v n us) (hN : ∀ g,v.ownBlock = some g → N g) (hl : us.length = n) (hn : n ≤ 1000000000) : RowOf T N w v us:=by
 subst hl
 rcases h.2 with ⟨hv,h0⟩ | ⟨g,cap,cur,hv,hB,hg,hc,hu⟩
 ·rw [List.length_eq_zero_iff.1 h0,hv];exact RowOf.nil _ _ _
 ·refine ⟨some ⟨g,0,none⟩,cap,hv,hc,hn,fun j u hj => ⟨g,0,cur,(0,0),rfl,hN g (by rw [hv];rfl),hg,?_⟩⟩
  have h2:=hu.2.2
  rw [Nat.mul_one] at h2
  rw [← h2,List.getElem?_take] at hj
  split at hj
  ·rw [Nat.zero_add, ← Array.getElem?_toList];exact hj
  ·cases hj
theorem KeepR.pair {B A : Nat} {bs : List Nat} {ts : List Ty} {tv mv dv : Value} {w w' : World} {t : Ty} {e : Ending} (h : KeepR B A bs ts tv mv dv w t e w') : ∃ i c : Int,e = .returned (.tuple #[.int .i64 i, .int .i64 c]):=by
 rcases h with ⟨_,i,rfl,_⟩ | ⟨_,rfl,_⟩
 ·exact ⟨i,0,rfl⟩
 ·exact ⟨0,9,rfl⟩
theorem KeepR.memo {B A : Nat} {bs : List Nat} {ts : List Ty} {tv mv dv : Value} {w w' : World} {t : Ty} {e : Ending} (h : KeepR B A bs ts tv mv dv w t e w') : Memo (arS A tv mv) B w w':=by
 rcases h with ⟨_,i,_,i',bs',ts',tv',mv',_,_,hL,_⟩ | ⟨_,_,hu⟩
 ·exact hL.memo
 ·exact Memo.of_up _ _ hu
theorem FindH.may {M : Nat → Prop} {B A : Nat} {bs : List Nat} {ts : List Ty} {tv mv dv : Value} {zs : List Nat} {us : List Ty} {a : Option Addr} {nm : ByteArray} {nv kv : Value} {ns : List ByteArray} {ms : List Bool} {m : Int} {w : World} (h : FindH M B A bs ts tv mv dv zs us a nm nv kv ns ms m w) {W : World} {v : Value} (hW : Up w W) (hv : W.ownsRow 0 TpT 1 v zs.length (zs.map fun z => ptrV (bs.getD z 0))) :
  MayH (fun x => ¬ arS A tv mv x) M B nm nv kv v (zs.map fun z => bs.getD z 0) us ns ms m W:=by
 have hlen : zs.length = us.length:=by have:=congrArg List.length h.typs;simpa using this
 have hrow:=jdq hv (by simp) (by have:=h.fit.len;omega)
 have e : (zs.map fun z => ptrV (bs.getD z 0)) = (zs.map fun z => bs.getD z 0).map ptrV:=by rw [List.map_map];rfl
 rw [e] at hrow
 refine ⟨hrow,by rw [List.length_map];exact hlen,fun j b t h1 h2 => ?_,h.fit.valid,h.names.up hW,h.marks.up hW,fun s hs => Nat.le_trans (h.small s hs) (by decide),Nat.le_trans h.nm (by decide),(hW.cells _ _ (jaj h.max)).trans h.max⟩
 rw [List.getElem?_map] at h1
 cases hzj : zs[j]? with
 | none => rw [hzj] at h1;cases h1
 | some z =>
   rw [hzj] at h1
   have h3 : ts[z]? = some t:=by
    have:=congrArg (·[j]?) h.typs
    simp only [List.getElem?_map,hzj,h2,Option.map_some,Option.some.injEq] at this
    exact this
   have hzl : z < bs.length:=by rw [← h.are.len];exact (List.getElem?_eq_some_iff.1 h3).1
   obtain ⟨b',hb'⟩ : ∃ b,bs[z]? = some b:=⟨_,List.getElem?_eq_getElem hzl⟩
   simp only [Option.map_some,Option.some.injEq,List.getD,hb',Option.getD_some] at h1
   subst h1
   exact (h.are.ty z b' t hb' h3).up hW
def FindG (Pm : Prop) (B A : Nat) (bs : List Nat) (ts : List Ty) (tv mv dv : Value) (w : World) (u : Ty) (e : Ending) (w' : World) : Prop :=
 (Pm ∧ e = .returned (.tuple #[.int .i64 0, .int .i64 1]) ∧ Up w w') ∨ (u.Valid ∧ ∃ w2 : World,Memo jag B w w2 ∧ KeepR B A bs ts tv mv dv w2 u e w')
theorem jjn (Pm : Prop) (M : Nat → Prop) (B A : Nat) (bs : List Nat) (ts : List Ty) (tv mv dv : Value) (zs : List Nat) (us : List Ty) (a : Option Addr) (cap : Nat) (k n : Int) (nm : ByteArray) (nv kv : Value) (ns : List ByteArray) (ms : List Bool) (m : Int) (w : World) (h : FindH M B A bs ts tv mv dv zs us a nm nv kv ns ms m w) (hgen : ∀ (W : World) (v : Value),Up w W → W.ownsRow 0 TpT 1 v zs.length (zs.map fun z => ptrV (bs.getD z 0)) → Calls Tryz.prog 56 #[typV k n nm (.slice a zs.length cap) nv kv,v] W fun e w' => (∃ b,e = .returned (.bool b) ∧ (b = true → (Ty.mk k n nm us ns ms).Valid) ∧ (b = false → Pm)) ∧ Up W w') :
  Calls Tryz.prog 25 #[.pointer (some ⟨A,0,none⟩),typV k n nm (.slice a zs.length cap) nv kv] w (FindG Pm B A bs ts tv mv dv w (Ty.mk k n nm us ns ms)):=by
 have H:=Lib.hid h
 have HGN:=Lib.hid hgen
 have hlen : zs.length = us.length:=by have:=congrArg List.length h.typs;simpa using this
 have hat : ∀ (j z : Nat) (u : Ty),zs[j]? = some z → us[j]? = some u → ts[z]? = some u:=fun j z u h1 h2 => by
  have:=congrArg (·[j]?) h.typs
  simp only [List.getElem?_map,h1,h2,Option.map_some,Option.some.injEq] at this
  exact this
 have hr : ∀ z ∈ zs,z < bs.length:=fun z hz' => by
  obtain ⟨j,hj⟩:=List.getElem?_of_mem hz'
  have hjl:=(List.getElem?_eq_some_iff.1 hj).1
  obtain ⟨u,hu2⟩ : ∃ u,us[j]? = some u:=⟨_,List.getElem?_eq_getElem (by omega)⟩
  have:=(List.getElem?_eq_some_iff.1 (hat j z u hj hu2)).1
  rw [← h.are.len]
  exact this
 have a4:=ja0 h.are.head
 have HL:=Lib.hid (And.intro hat (And.intro hlen hr))
 obtain ⟨na,ncap,rfl,_,_⟩:=h.names.form
 obtain ⟨ka,kcap,rfl,_,_⟩:=h.marks.form
 have hmay : Hid (∀ (W : World) (v : Value),Up w W → W.ownsRow 0 TpT 1 v zs.length (zs.map fun z => ptrV (bs.getD z 0)) → MayH (fun x => ¬ arS A tv mv x) M B nm (.slice na (ns.map Value.string).length ncap) (.slice ka (ms.map Value.bool).length kcap) v (zs.map fun z => bs.getD z 0) us ns ms m W):=fun W v hW hv => H.out.may hW hv
 clear h hgen hat hlen hr
 simp only [List.length_map] at *
 go_enter Tryz.func25,Tryz.ntmps25
 go_upto_region 1 with (fail)
 refine ja4 fun A2 W2 hA2 hW2 => ?_
 have hu0 : Hid (Up w W2):=by subst hW2;exact uq
 obtain ⟨q,hq⟩ : ∃ q,Hid (w.heap.size = q):=⟨_,rfl⟩
 have HQ : Hid (W2.heap[q]? = some (.cells #[.int .i64 k, .int .i64 n, .string nm, .slice a zs.length cap, .slice na ns.length ncap, .slice ka ms.length kcap] 46 (0,0))):=by subst hW2;rw [← hq.out];exact jaa _ _ _ rfl
 rw [hq.out] at hA2
 clear hW2
 subst hA2
 have a4:=hu0.out.size
 have hAl : A < W2.heap.size:=by omega
 have x0:=ja1 HQ.out 0
 have x1:=ja1 HQ.out 1
 have x2:=ja1 HQ.out 2
 have x3:=ja1 HQ.out 3
 have x4:=ja1 HQ.out 4
 have x5:=ja1 HQ.out 5
 simp only [gQa,gQz,gQs] at x0 x1 x2 x3 x4 x5
 have xl:=ja0 HQ.out
 have hall:=Lib.hid (jnw dv A tv mv bs zs a cap W2 (hu0.out.get H.out.are.head) (ja5 H.out.are.row hu0.out) (H.out.ids.up hu0.out) HL.out.2.2 (by have:=H.out.fit.len;have:=HL.out.2.1;omega))
 go_wp2_with (first
  | (go_at_call 53;refine hall.out.mono ?_;rintro e w3 ⟨v,rfl,h1,h2,hu2⟩;obtain ⟨va,vcap,rfl⟩:=ja7 h1;have HV:=Lib.hid (And.intro h1 (And.intro h2 hu2));have HQ3:=Lib.hid (hu2.get HQ.out);have x0:=ja1 HQ3.out 0;have x1:=ja1 HQ3.out 1;have x2:=ja1 HQ3.out 2;have x3:=ja1 HQ3.out 3;have x4:=ja1 HQ3.out 4;have x5:=ja1 HQ3.out 5;simp only [gQa,gQz,gQs] at x0 x1 x2 x3 x4 x5;have xl:=ja0 HQ3.out;have HMY:=Lib.hid (HGN.out w3 _ (hu0.out.trans hu2) h1);clear h1 h2)
  | (go_at_call 56;refine HMY.out.mono ?_;(rintro e w4 ⟨⟨(_ | _),rfl,hk,hkf⟩,hu4⟩ <;> (have HK:=Lib.hid (And.intro hk hkf);have HQ4:=Lib.hid (hu4.get HQ3.out);have x0:=ja1 HQ4.out 0;have x1:=ja1 HQ4.out 1;have x2:=ja1 HQ4.out 2;have x3:=ja1 HQ4.out 3;have x4:=ja1 HQ4.out 4;have x5:=ja1 HQ4.out 5;simp only [gQa,gQz,gQs] at x0 x1 x2 x3 x4 x5;have xl:=ja0 HQ4.out;clear hk hkf))))
 ·refine bodyPost_ret (v := .tuple #[.int .i64 0, .int .i64 1]) (by simp [results,Tryz.results25,go_sem]) rfl ?_
  exact .inl ⟨HK.out.2 (by first | rfl | trivial),rfl,hu0.out.trans (HV.out.2.2.trans hu4)⟩
 ·have hval:=HK.out.1 (by first | rfl | trivial)
  have HW:=Lib.hid (And.intro (hu0.out.trans (HV.out.2.2.trans hu4)) hval)
  have hN : Hid (Open (fun x => ¬ arS A tv mv x) w):=H.out.are.open_
  have hqS : Hid (¬ arS A tv mv q):=hN.out q (by rw [← hq.out];exact Nat.le_refl _)
  have hc1:=Lib.hid (fun (W : World) (hW : Up w W) => jfd M (fun x => ¬ arS A tv mv x) _ ns W (H.out.names.up hW) H.out.ln (hN.out.up hW))
  have hc2:=Lib.hid (fun (W : World) (hW : Up w W) => jfe M (fun x => ¬ arS A tv mv x) _ ms W (H.out.marks.up hW) H.out.lm (hN.out.up hW))
  have hrw : Hid (RowOf TpT (fun x => ¬ arS A tv mv x) w3 (.slice va zs.length vcap) ((zs.map fun z => bs.getD z 0).map ptrV)):=by
   unfold Hid
   rw [List.map_map]
   exact jhd HV.out.1 (fun g hg => hN.out g (Nat.le_trans hu0.out.size (HV.out.2.1 g hg))) (by simp) (by have:=H.out.fit.len;have:=HL.out.2.1;omega)
  have HMM:=Lib.hid (hmay.out w3 _ (hu0.out.trans HV.out.2.2) HV.out.1)
  have HU4:=Lib.hid hu4
  clear hval
  go_region_held3 (fun X => X.cell? ⟨q,0,none⟩ = some (.int .i64 k) ∧ X.cell? ⟨q,1,none⟩ = some (.int .i64 n) ∧ X.cell? ⟨q,2,none⟩ = some (.string nm) ∧ X.cell? ⟨q,4,none⟩ = some (.slice na ns.length ncap) ∧ X.cell? ⟨q,5,none⟩ = some (.slice ka ms.length kcap)) (((try dsimp only);(repeat' apply And.intro);all_goals (first | go_keep | assumption))) (first | (go_at_call 58;refine (hc1.out _ (HW.out.1.trans uq)).mono ?_;rintro e w5 ⟨nv',rfl,hr5,hu5⟩;obtain ⟨nva,nvc,rfl,_,_⟩:=hr5.form;simp only [List.length_map] at hr5;have HC1:=Lib.hid (And.intro hr5 hu5);have HQ5:=Lib.hid (hu5.get (Up.get (w:=w4) uq HQ4.out));have x0:=ja1 HQ5.out 0;have x1:=ja1 HQ5.out 1;have x2:=ja1 HQ5.out 2;have x4:=ja1 HQ5.out 4;have x5:=ja1 HQ5.out 5;simp only [gQa,gQz,gQs] at x0 x1 x2 x4 x5;have xl:=ja0 HQ5.out;clear hr5) | (go_at_call 59;refine (hc2.out _ (HW.out.1.trans uq)).mono ?_;rintro e w6 ⟨mv',rfl,hr6,hu6⟩;obtain ⟨mva,mvc,rfl,_,_⟩:=hr6.form;simp only [List.length_map] at hr6;have HC2:=Lib.hid (And.intro hr6 hu6);have HQ6:=Lib.hid (hu6.get (Up.get (w:=w5) uq HQ5.out));have x0:=ja1 HQ6.out 0;have x1:=ja1 HQ6.out 1;have x2:=ja1 HQ6.out 2;have x4:=ja1 HQ6.out 4;have x5:=ja1 HQ6.out 5;simp only [gQa,gQz,gQs] at x0 x1 x2 x4 x5;have xl:=ja0 HQ6.out;clear hr6) | (go_at_call 57;refine (jhl (fun x => ¬ arS A tv mv x) B k n nm (zs.map fun z => bs.getD z 0) us ns ms _ _ _ _ (Nat.le_trans H.out.are.lt (Up.size (HW.out.1.trans (show Up w4 _ from uq)))) (hrw.out.up (HU4.out.trans (show Up w4 _ from uq))) (HC1.out.1.up (show Up w5 _ from uq)) (HC2.out.1.up (show Up w6 _ from uq)) HMM.out.len (HMM.out.up (HU4.out.trans (show Up w4 _ from uq))).tys).mono ?_;rintro e w7 ⟨b7,rfl,hb7,hl7,hu7⟩;have HC3:=Lib.hid (And.intro hb7 hu7);have HQ7:=Lib.hid (hu7.get (Up.get (w:=w6) uq HQ6.out));have x0:=ja1 HQ7.out 0;have x1:=ja1 HQ7.out 1;have x2:=ja1 HQ7.out 2;have x4:=ja1 HQ7.out 4;have x5:=ja1 HQ7.out 5;simp only [gQa,gQz,gQs] at x0 x1 x2 x4 x5;have xl:=ja0 HQ7.out;clear hb7) | (go_at_call 54;refine (jiV (Ty.mk k n nm us ns ms) HW.out.2 (Ty.namesLe_mk.2 ⟨H.out.nm,H.out.small,H.out.fit.names⟩) B A b7 bs ts tv mv dv _ (H.out.are.up (HW.out.1.trans (show Up w4 _ from uq))) (HC3.out.1.up (show Up w7 _ from uq)) (H.out.glob.memo (Memo.of_up jag B (HW.out.1.trans (show Up w4 _ from uq)))) (by have h1:=H.out.fit.nodes;have h2:=H.out.few;rw [Ty.nodes_mk];omega)).mono ?_;intro e w8 hK;obtain ⟨i8,c8,rfl⟩:=hK.pair;have HK8:=Lib.hid hK;have HQ8:=Lib.hid (hK.memo.cells (Up.get (w:=w7) uq HQ7.out) (by decide) hqS.out);have x0:=ja1 HQ8.out 0;have x1:=ja1 HQ8.out 1;have x2:=ja1 HQ8.out 2;have x4:=ja1 HQ8.out 4;have x5:=ja1 HQ8.out 5;simp only [gQa,gQz,gQs] at x0 x1 x2 x4 x5;have xl:=ja0 HQ8.out;clear hK))
  all_goals (go_wp2_with fail)
  all_goals refine bodyPost_ret (v := .tuple #[.int .i64 i8, .int .i64 c8]) (by simp [results,Tryz.results25,go_sem]) rfl ?_
  all_goals exact .inr ⟨HW.out.2,_,Memo.of_up _ _ (HW.out.1.trans (show Up w4 _ from uq)),HK8.out⟩
theorem jn6 (M : Nat → Prop) (B A : Nat) (bs : List Nat) (ts : List Ty) (tv mv dv : Value) (zs : List Nat) (us : List Ty) (a : Option Addr) (cap : Nat) (k n : Int) (nm : ByteArray) (nv kv : Value) (ns : List ByteArray) (ms : List Bool) (m : Int) (w : World) (h : FindH M B A bs ts tv mv dv zs us a nm nv kv ns ms m w) (hn1 : -9223372036854775808 ≤ n) (hn2 : n ≤ 9223372036854775807) :
  Calls Tryz.prog 25 #[.pointer (some ⟨A,0,none⟩),typV k n nm (.slice a zs.length cap) nv kv] w (FindR B A bs ts tv mv dv w (Ty.mk k n nm us ns ms)):=by
 refine (jjn True M B A bs ts tv mv dv zs us a cap k n nm nv kv ns ms m w h fun W v hW hv => ?_).mono fun e w' hR => hR.imp (fun q => q.2) id
 refine (jo0 _ M B k n nm (.slice a zs.length cap) _ _ _ _ us ns ms m W ⟨a,zs.length,cap,rfl⟩ (h.may hW hv) hn1 hn2).mono ?_
 rintro e w' ⟨⟨b,h1,h2⟩,h3⟩
 exact ⟨⟨b,h1,h2,fun _ => trivial⟩,h3⟩
end Go.Proofs.YtiaepldmgighbaaGreatDoor
