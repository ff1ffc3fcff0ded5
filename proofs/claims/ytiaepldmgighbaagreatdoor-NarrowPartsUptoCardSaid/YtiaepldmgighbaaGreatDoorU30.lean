import Derived.Test.YtiaepldmgighbaaGreatDoorU29
import Derived.Test.YtiaepldmgighbaaGreatDoorU28
import Derived.Test.YtiaepldmgighbaaGreatDoorU03
namespace Go.Proofs.YtiaepldmgighbaaGreatDoor
open Go.RowKit
set_option linter.unusedSimpArgs false
theorem jaD {B : Nat} {w w' : World} {T : TypeId} {v : Value} {n : Nat} {xs : List Value} (h : w.ownsRow 0 T 1 v n xs) (hT : T ≠ TyT) (m : Memo jag B w w') : w'.ownsRow 0 T 1 v n xs:=ja8 h fun g hg => by
 rcases h.2 with ⟨hv,_⟩ | ⟨g',cap,cur,hv,_,hc,_⟩
 ·rw [hv] at hg;cases hg
 ·rw [hv] at hg;cases hg
  exact (m.cells hc hT (fun e => e)).trans hc.symm
theorem Memo.pushed {B : Nat} {a w w2 : World} {T : TypeId} {v : Value} {n : Nat} {xs : List Value} (h : Memo jag B a w) (hr : w.ownsRow 0 T 1 v n xs) (hT : T ≠ TyT) (hv : ∀ g,v.ownBlock = some g → a.heap.size ≤ g) (hB : B ≤ a.heap.size) (hg : w.grownBy w2 v.ownBlock) : Memo jag B a w2:=by
 have k : Memo (fun x => a.heap.size ≤ x) B w w2:=Memo.grown hg fun r e => by
  refine ⟨hv r e,Nat.le_trans hB (hv r e),?_⟩
  rcases hr.2 with ⟨h0,_⟩ | ⟨g',cap,cur,h0,_,hc,_⟩
  ·rw [h0] at e;cases e
  ·rw [h0] at e;cases e
   exact ⟨_,_,_,hc,hT⟩
 exact ((h.mono fun _ e => e.elim).trans k).fresh fun _ e => e
set_option maxRecDepth 100000
set_option maxHeartbeats 3200000
theorem jjw (n : Int) (nm : ByteArray) (ps : List Ty) (ns : List ByteArray) (ms : List Bool) (hne : ps ≠ []) (hlen : ps.length ≤ 100000) (hT : ∀ p ∈ ps,jaL p ∧ p.text.size ≤ 100000000000000) (hs0 : (Ty.mk 16 n nm ps ns ms).text.size ≤ 100000000000000) : jaO (.mk 16 n nm ps ns ms):=by
 intro N B b W ht hg
 have e : (Ty.mk 16 n nm ps ns ms).text = jav ⟨#[32,124,32]⟩ (ps.map fun p => jaK p.kind p.text):=by
  rw [Ty.text_mk]
  simp [jap]
  rfl
 rw [e] at hs0 ⊢
 have hBW : Hid (B ≤ W.heap.size):=Nat.le_trans ht.ge (Nat.le_of_lt ht.lt)
 obtain ⟨pv,nv,mv,qs,V⟩:=ht.view
 have HV:=Lib.hid (And.intro V (And.intro hg hT))
 have HJ:=Lib.hid hs0
 have a0:=V.c0
 have a3:=V.c3
 have a4:=V.lt
 obtain ⟨pa,pcap,rfl,_,_⟩:=V.parts
 clear ht hg hT V e hs0
 go_enter Tryz.func101,Tryz.ntmps101
 go_wp2_with fail
 go_loopw [11,141] (fun v i wr => ∃ j : Nat,j ≤ ps.length ∧ i = .int .i64 j ∧ wr.ownsRow 0 StrT 1 v j ((ps.take j).map fun p => .string (jaK p.kind p.text)) ∧ (∀ g,v.ownBlock = some g → W.heap.size ≤ g) ∧ Memo jag B W wr) (fun _ i _ => ps.length - (intOf i).toNat)
 case atStart => exact ⟨0,Nat.zero_le _,rfl,(show W.ownsRow 0 StrT 1 (.slice none 0 0) 0 [] from ⟨rfl, .inl ⟨rfl,rfl⟩⟩),(fun g hg => by simp [Value.ownBlock] at hg),Memo.refl _ _ _⟩
 case round =>
  obtain ⟨j,hj,rfl,hv,hvb,hmo⟩:=hrel
  by_cases hlt : j < ps.length
  ·have hji : (j : Int) < ps.length:=by omega
   obtain ⟨p,hp⟩ : ∃ p,ps[j]? = some p:=⟨_,List.getElem?_eq_getElem hlt⟩
   obtain ⟨q,g,off,cap,he,hcap,hgl,hcell,hpt,hkeep⟩:=(HV.out.1.memo hmo).part hp
   injection he with he1 he2 he3
   subst he1 he3
   have HX:=Lib.hid (And.intro hpt (And.intro (HV.out.2.1.memo hmo) (HV.out.2.2 p (List.mem_of_getElem? hp))))
   obtain ⟨va,vcap,rfl⟩:=ja7 hv
   have HO:=Lib.hid (And.intro hv (And.intro hvb hmo))
   have HNX : Hid ((ps.take (j + 1)).map (fun p => Value.string (jaK p.kind p.text)) = (ps.take j).map (fun p => Value.string (jaK p.kind p.text)) ++ [.string (jaK p.kind p.text)]):=by
    unfold Hid
    rw [List.take_add_one,hp,List.map_append]
    rfl
   obtain ⟨vs,hvs⟩ : ∃ vs,Hid ((ps.take j).map (fun p => Value.string (jaK p.kind p.text)) = vs):=⟨_,rfl⟩
   rw [hvs.out] at HO HNX
   obtain ⟨pt,hpt2⟩ : ∃ pt,Hid (jas [15] p.kind p.text = pt):=⟨_,rfl⟩
   have HNX : Hid ((ps.take (j + 1)).map (fun p => Value.string (jaK p.kind p.text)) = vs ++ [.string pt]):=by unfold Hid;rw [HNX.out, ← hpt2.out];rfl
   obtain ⟨i0,hi,hz0,hz1,hz2⟩:=info_parts jem
   clear hp hv hvb hmo hlt hpt hkeep he2
   go_wp2_with (first | (go_at_call 96;refine (jdl [15] wr.heap.size 1 q p N B _ (HX.out.1.up uq) (HX.out.2.1.up uq) HX.out.2.2.1 HX.out.2.2.2 (by intro j z hz;cases j with | zero => simp at hz;subst hz;simp | succ j => simp at hz) (by simp) (by simp)).mono ?_;rintro e w2 ⟨rfl,hm2⟩;rw [hpt2.out];have M2:=Lib.hid hm2;have O2:=Lib.hid (jaD (ja5 HO.out.1 (show Up wr (wr.alloc _) from uq)) (by decide) hm2);clear hm2) | (at_builtin;go_must (refine jae rfl _ _ 30 rfl StrT i0 (.string ⟨#[]⟩) 1 16 Tryz.underlying30 hi hz0 hz1 hz2 rfl (by decide) (.slice va j vcap) j vs rfl (ja5 O2.out uq) _ 1 1 rfl (by first | rfl | (simp;done) | omega) rfl (by intro u hu;have hu2 : u = .string pt:=(by simpa using hu);rw [hu2];rfl) (by unfold maxLen;omega) (by omega) ?_;intro sa' cap' w7 hown' hgrow hblk;have HY:=Lib.hid (And.intro hown' (And.intro hgrow hblk));clear hown' hgrow hblk)))
   refine ⟨⟨j + 1,by omega,by simp,by rw [HNX.out];exact HY.out.1,fun g hg => ?_,?_⟩,by simp [intOf];omega⟩
   ·rcases HY.out.2.2 with q | ⟨g',q,q2⟩
    ·exact HO.out.2.1 g (by rw [← q];exact hg)
    ·rw [q] at hg
     cases hg
     have:=HO.out.2.2.size
     have:=M2.out.size
     simp only [gQw] at this q2
     omega
   ·have k1 : Memo jag B W w2:=HO.out.2.2.trans ((Memo.of_up _ _ (show Up wr (wr.alloc _) from uq)).trans M2.out)
    refine Memo.pushed (k1.up (show Up w2 (w2.alloc _) from uq)) (ja5 O2.out uq) (by decide) HO.out.2.1 hBW.out HY.out.2.1
  ·obtain rfl : j = ps.length:=by omega
   rw [List.take_length] at hv
   obtain ⟨rg,rcap,cur,rfl,hrg,hrc,hcur⟩:=jaY hv (List.length_pos_iff.2 hne)
   have HR:=Lib.hid (And.intro hrg (And.intro hrc (And.intro hcur hmo)))
   have hlj : Hid ((ps.map fun p => jaK p.kind p.text).length = ps.length):=List.length_map _
   have hJ:=Tryz.strings_Join rg 0 rcap (ps.map fun p => jaK p.kind p.text) ⟨#[32,124,32]⟩ wr (fun i s hs => (ja1 hrg _).trans (hcur i (.string s) (by
    rw [List.getElem?_map] at hs
    rw [List.getElem?_map]
    cases hq : ps[i]? with
    | none => rw [hq] at hs;cases hs
    | some z => rw [hq] at hs;cases hs;rfl))) (ja0 hrg) (by rw [hlj.out];omega) (by rw [hlj.out];exact hrc) (by
      have q:=HJ.out
      have q2 : (jav ⟨#[32,124,32]⟩ (ps.map fun p => jaK p.kind p.text)).size = (Lib.join ((ps.map fun p => jaK p.kind p.text).map (·.data.toList)) (⟨#[32,124,32]⟩ : ByteArray).data.toList).length:=by simp only [jav,ByteArray.size,List.size_toArray]
      omega)
   rw [hlj.out] at hJ
   obtain ⟨js,hjs⟩ : ∃ js,Hid (jav ⟨#[32,124,32]⟩ (ps.map fun p => jaK p.kind p.text) = js):=⟨_,rfl⟩
   have HJ2 : Hid (Calls Tryz.prog 151 #[.slice (some ⟨rg,0,none⟩) ps.length rcap, .string ⟨#[32,124,32]⟩] wr fun e w' => e = .returned (.string js) ∧ Below wr.heap.size wr w'):=by
    unfold Hid
    rw [← hjs.out]
    exact hJ
   clear hlt hv hvb hrg hrc hcur hJ hmo
   go_wp2_with (first | (go_at_call 151;refine HJ2.out.mono ?_;rintro e w2 ⟨rfl,hu2⟩;have hu2 : Up wr w2:=hu2))
   refine bodyPost_ret (v := .string js) (by simp [results,Tryz.results101,go_sem]) rfl ?_
   exact ⟨by rw [hjs.out],HR.out.2.2.2.up hu2⟩
theorem jkz (N : Nat → Prop) (B b : Nat) (k n : Int) (nm : ByteArray) (ps : List Ty) (ns : List ByteArray) (ms : List Bool) (pv nv mv : Value) (qs : List Nat) (W : World) (V : View N B W b k n nm ps ns ms pv nv mv qs) (hBW0 : B ≤ W.heap.size) (hg : Glob W) (hlen : ps.length ≤ 100000) (hT : ∀ p ∈ ps,jaL p) :
  Calls Tryz.prog 153 #[pv] W fun e w' => ∃ v,e = .returned v ∧ w'.ownsRow 0 StrT 1 v ps.length (ps.map fun p => .string p.text) ∧ (∀ g,v.ownBlock = some g → W.heap.size ≤ g) ∧ Memo jag B W w':=by
 have hBW : Hid (B ≤ W.heap.size):=hBW0
 have HV:=Lib.hid (And.intro V (And.intro hg hT))
 obtain ⟨pa,pcap,rfl,_,_⟩:=V.parts
 clear hg hT V
 go_enter Tryz.func153,Tryz.ntmps153
 go_wp2_with fail
 go_loopw [3,8] (fun v i wr => ∃ j : Nat,j ≤ ps.length ∧ i = .int .i64 j ∧ wr.ownsRow 0 StrT 1 v j ((ps.take j).map fun p => .string p.text) ∧ (∀ g,v.ownBlock = some g → W.heap.size ≤ g) ∧ Memo jag B W wr) (fun _ i _ => ps.length - (intOf i).toNat)
 case atStart => exact ⟨0,Nat.zero_le _,rfl,(show W.ownsRow 0 StrT 1 (.slice none 0 0) 0 [] from ⟨rfl, .inl ⟨rfl,rfl⟩⟩),(fun g hg => by simp [Value.ownBlock] at hg),Memo.refl _ _ _⟩
 case round =>
  obtain ⟨j,hj,rfl,hv,hvb,hmo⟩:=hrel
  by_cases hlt : j < ps.length
  ·have hji : (j : Int) < ps.length:=by omega
   obtain ⟨p,hp⟩ : ∃ p,ps[j]? = some p:=⟨_,List.getElem?_eq_getElem hlt⟩
   obtain ⟨q,g,off,cap,he,hcap,hgl,hcell,hpt,hkeep⟩:=(HV.out.1.memo hmo).part hp
   injection he with he1 he2 he3
   subst he1 he3
   have HX:=Lib.hid (And.intro hpt (And.intro (HV.out.2.1.memo hmo) (HV.out.2.2 p (List.mem_of_getElem? hp))))
   obtain ⟨va,vcap,rfl⟩:=ja7 hv
   have HO:=Lib.hid (And.intro hv (And.intro hvb hmo))
   have HNX : Hid ((ps.take (j + 1)).map (fun p => Value.string p.text) = (ps.take j).map (fun p => Value.string p.text) ++ [.string p.text]):=by
    unfold Hid
    rw [List.take_add_one,hp,List.map_append]
    rfl
   obtain ⟨vs,hvs⟩ : ∃ vs,Hid ((ps.take j).map (fun p => Value.string p.text) = vs):=⟨_,rfl⟩
   rw [hvs.out] at HO HNX
   obtain ⟨pt,hpt2⟩ : ∃ pt,Hid (p.text = pt):=⟨_,rfl⟩
   rw [hpt2.out] at HNX
   obtain ⟨i0,hi,hz0,hz1,hz2⟩:=info_parts jem
   clear hp hv hvb hmo hlt hpt hkeep he2
   go_wp2_with (first | (go_at_call 61;refine (HX.out.2.2 N B q _ (HX.out.1.up uq) (HX.out.2.1.up uq)).mono ?_;rintro e w2 ⟨rfl,hm2⟩;rw [hpt2.out];have M2:=Lib.hid (And.intro hm2 ((Memo.of_up jag B (show Up wr _ from uq)).trans hm2));have O2:=Lib.hid (jaD (ja5 HO.out.1 (show Up wr _ from uq)) (by decide) hm2);clear hm2) | (at_builtin;go_must (refine jae rfl _ _ 30 rfl StrT i0 (.string ⟨#[]⟩) 1 16 Tryz.underlying30 hi hz0 hz1 hz2 rfl (by decide) (.slice va j vcap) j vs rfl (ja5 O2.out uq) _ 1 1 rfl (by first | rfl | (simp;done) | omega) rfl (by intro u hu;have hu2 : u = .string pt:=(by simpa using hu);rw [hu2];rfl) (by unfold maxLen;omega) (by omega) ?_;intro sa' cap' w7 hown' hgrow hblk;have HY:=Lib.hid (And.intro hown' (And.intro hgrow hblk));clear hown' hgrow hblk)))
   refine ⟨⟨j + 1,by omega,by simp,by rw [HNX.out];exact HY.out.1,fun g hg => ?_,?_⟩,by simp [intOf];omega⟩
   ·rcases HY.out.2.2 with q | ⟨g',q,q2⟩
    ·exact HO.out.2.1 g (by rw [← q];exact hg)
    ·rw [q] at hg
     cases hg
     have:=HO.out.2.2.size
     have:=M2.out.2.size
     (try simp only [gQw] at q2)
     omega
   ·have k1 : Memo jag B W w2:=HO.out.2.2.trans M2.out.2
    refine Memo.pushed (k1.up (show Up w2 (w2.alloc _) from uq)) (ja5 O2.out uq) (by decide) HO.out.2.1 hBW.out HY.out.2.1
  ·obtain rfl : j = ps.length:=by omega
   rw [List.take_length] at hv
   obtain ⟨va,vcap,rfl⟩:=ja7 hv
   have HO:=Lib.hid (And.intro hv (And.intro hvb hmo))
   clear hv hvb hmo
   go_wp2_with fail
   refine bodyPost_ret (v := .slice va ps.length vcap) (by simp [results,Tryz.results153,go_sem]) rfl ?_
   exact ⟨_,rfl,HO.out⟩
theorem jiW (sep : ByteArray) (l : List ByteArray) (v : Value) (w : World) (h : w.ownsRow 0 StrT 1 v l.length (l.map .string)) (hne : l ≠ []) (hlen : l.length ≤ 100000) (hs : (jav sep l).size ≤ 100000000000000) :
  Calls Tryz.prog 151 #[v, .string sep] w fun e w' => e = .returned (.string (jav sep l)) ∧ Up w w':=by
 obtain ⟨rg,rcap,cur,rfl,hrg,hrc,hcur⟩:=jaY h (List.length_pos_iff.2 hne)
 have hJ:=Tryz.strings_Join rg 0 rcap l sep w (fun i s hs => (ja1 hrg _).trans (hcur i (.string s) (by rw [List.getElem?_map,hs];rfl))) (ja0 hrg) (by omega) hrc (by
  have q2 : (jav sep l).size = (Lib.join (l.map (·.data.toList)) sep.data.toList).length:=by simp only [jav,ByteArray.size,List.size_toArray]
  omega)
 exact hJ
theorem jjv (n : Int) (nm : ByteArray) (ps : List Ty) (ns : List ByteArray) (ms : List Bool) (h0 : -9223372036854775808 ≤ n) (h1 : n ≤ 9223372036854775807) (hnm : nm.size ≤ 1000000000) (hlen : ps.length ≤ 100000) (hT : ∀ p ∈ ps,jaL p) (hs0 : (Ty.mk 17 n nm ps ns ms).text.size ≤ 100000000000000) : jaO (.mk 17 n nm ps ns ms):=by
 intro N B b W ht hg
 have hBW : Hid (B ≤ W.heap.size):=Nat.le_trans ht.ge (Nat.le_of_lt ht.lt)
 obtain ⟨pv,nv,mv,qs,V⟩:=ht.view
 have HV:=Lib.hid (And.intro V (And.intro hg hT))
 have hq : Hid (-9223372036854775808 ≤ n ∧ n ≤ 9223372036854775807 ∧ nm.size ≤ 1000000000):=⟨h0,h1,hnm⟩
 have a0:=V.c0
 have a3:=V.c3
 have a4:=V.lt
 obtain ⟨pa,pcap,rfl,_,_⟩:=V.parts
 obtain ⟨x,hx⟩ : ∃ x,Hid (jbn nm n = x):=⟨_,rfl⟩
 have hz:=jbx n h0 h1
 have hz2 : (jbn nm n).size = nm.size + 1 + (numS n).size:=by
  unfold jbn
  simp only [ByteArray.size_append]
  rfl
 have hxs : x.size ≤ 1000000100:=by rw [← hx.out];omega
 rcases hps : ps with _ | ⟨p0,r⟩
 ·have e : (Ty.mk 17 n nm [] ns ms).text = jbn nm n:=by rw [Ty.text_mk];simp [jap]
  rw [e,hx.out]
  have hl0 : ¬ (0 : Int) < ps.length:=by rw [hps];simp
  have hl2 : Hid (ps = []):=hps
  clear ht hg hT V e hs0 h0 h1 hnm hz hz2 hps
  go_enter Tryz.func101,Tryz.ntmps101
  go_wp2_with (first | (go_at_call 152;refine (jcy b n nm _ ((HV.out.1.memo (Memo.of_up _ _ uq)).c1) ((HV.out.1.memo (Memo.of_up _ _ uq)).c2) hq.out.1 hq.out.2.1 hq.out.2.2 (HV.out.2.1.up uq).now.1).mono ?_;rintro e w2 ⟨rfl,hu2⟩;rw [hx.out]))
  go_ret
  exact ⟨rfl,Memo.of_up _ _ uq⟩
 ·have e : (Ty.mk 17 n nm (p0 :: r) ns ms).text = jbn nm n ++ ⟨#[60]⟩ ++ jav ⟨#[44,32]⟩ (ps.map Ty.text) ++ ⟨#[62]⟩:=by
   rw [Ty.text_mk,hps]
   simp [jap]
   rfl
  rw [hps,e] at hs0
  rw [e,hx.out]
  rw [hx.out] at hs0
  have hl0 : (0 : Int) < ps.length:=by rw [hps];simp only [List.length_cons];omega
  have hl2 : Hid (ps ≠ []):=by unfold Hid;rw [hps];simp
  have hjsz : (jav ⟨#[44,32]⟩ (ps.map Ty.text)).size ≤ 100000000000000:=by
   simp only [ByteArray.size_append] at hs0
   omega
  obtain ⟨js,hjs⟩ : ∃ js,Hid (jav ⟨#[44,32]⟩ (ps.map Ty.text) = js):=⟨_,rfl⟩
  have HJS:=Lib.hid hjsz
  rw [hjs.out] at hjsz ⊢
  have hji : js.size ≤ 100000000000000:=by omega
  have z1 : ¬ 9223372036854775807 < x.size + 1:=by omega
  have z2 : ¬ 9223372036854775807 < x.size + 1 + js.size:=by omega
  have z3 : ¬ 9223372036854775807 < x.size + 1 + js.size + 1:=by omega
  have HTX : Hid (∀ W',Up W W' → Calls Tryz.prog 153 #[.slice pa ps.length pcap] W' fun e w' => ∃ v,e = .returned v ∧ w'.ownsRow 0 StrT 1 v ps.length (ps.map fun p => .string p.text) ∧ Memo jag B W w'):=fun W' hW' =>
   (jkz N B b 17 n nm ps ns ms (.slice pa ps.length pcap) nv mv qs W' (HV.out.1.memo (Memo.of_up _ _ hW')) (Nat.le_trans hBW.out hW'.size) (HV.out.2.1.up hW') hlen HV.out.2.2).mono fun e w' ⟨v,h1,h2,_,h4⟩ => ⟨v,h1,h2,(Memo.of_up jag B hW').trans h4⟩
  have HNB : Hid (∀ W',Memo jag B W W' → Calls Tryz.prog 152 #[.pointer (some ⟨b,0,none⟩)] W' fun e w' => e = .returned (.string x) ∧ Up W' w'):=fun W' hW' => by
   rw [← hx.out]
   exact jcy b n nm W' (HV.out.1.memo hW').c1 (HV.out.1.memo hW').c2 hq.out.1 hq.out.2.1 hq.out.2.2 (HV.out.2.1.memo hW').now.1
  clear ht hg hT V e hs0 h0 h1 hnm hz hz2 hps hjsz
  go_enter Tryz.func101,Tryz.ntmps101
  go_wp2_with fail
  go_region_law (first | (go_simp;go_at_call 152;refine (HNB.out _ (by first | exact M3.out.2.up uq | exact Memo.of_up _ _ uq)).mono ?_;rintro e w2 ⟨rfl,hu2⟩;have a3 : w2.cell? ⟨b,3,none⟩ = some (.slice pa ps.length pcap):=(by first | exact (HV.out.1.memo (M3.out.2.up uq)).c3 | exact (HV.out.1.memo (Memo.of_up _ _ uq)).c3)) | (go_simp;go_at_call 153;refine (HTX.out _ (by exact uq)).mono ?_;rintro e w3 ⟨v,rfl,hv3,hm3⟩;have M3:=Lib.hid (And.intro hv3 hm3);clear hv3 hm3) | (go_simp;go_at_call 151;refine (jiW ⟨#[44,32]⟩ (ps.map Ty.text) v _ (by have:=ja5 M3.out.1 uq;simpa [Function.comp_def] using this) (by simpa using hl2.out) (by simpa using hlen) HJS.out).mono ?_;rintro e w4 ⟨rfl,hu4⟩;rw [hjs.out]))
  all_goals (go_wp2_with fail;go_ret;exact ⟨rfl,M3.out.2.up uq⟩)
theorem jjV (m : Bool) (w : World) : Calls Tryz.prog 150 #[.bool m] w fun e w' => e = .returned (.string (jds m)) ∧ Up w w':=by
 cases m with
 | true =>
   go_enter Tryz.func150,Tryz.ntmps150
   go_wp2_with fail
   go_ret
   exact ⟨rfl,uq⟩
 | false =>
   go_enter Tryz.func150,Tryz.ntmps150
   go_wp2_with fail
   go_ret
   exact ⟨rfl,uq⟩
theorem View.name {N : Nat → Prop} {B : Nat} {w : World} {b : Nat} {k n : Int} {nm : ByteArray} {ps : List Ty} {ns : List ByteArray} {ms : List Bool} {pv nv mv : Value} {qs : List Nat} (h : View N B w b k n nm ps ns ms pv nv mv qs) {j : Nat} {s : ByteArray} (hj : ns[j]? = some s) :
  ∃ g off cap,nv = .slice (some ⟨g,off,none⟩) ns.length cap ∧ ns.length ≤ cap ∧ ns.length ≤ 1000000000 ∧ ∀ w',Memo jag B w w' → g < w'.heap.size ∧ w'.cell? ⟨g,off + j,none⟩ = some (.string s):=by
 obtain ⟨a,cap,e,h2,h4,h3⟩:=h.hn
 obtain ⟨g,off,cs,fz,r1,_,r3,r4⟩:=h3 j (.string s) (by rw [List.getElem?_map,hj];rfl)
 subst r1
 rw [List.length_map] at e h2 h4
 exact ⟨g,off,cap,e,h2,h4,fun w' m => ⟨ja0 (m.cells r3 (by decide) (fun e => e)),(ja1 (m.cells r3 (by decide) (fun e => e)) _).trans r4⟩⟩
theorem View.mark {N : Nat → Prop} {B : Nat} {w : World} {b : Nat} {k n : Int} {nm : ByteArray} {ps : List Ty} {ns : List ByteArray} {ms : List Bool} {pv nv mv : Value} {qs : List Nat} (h : View N B w b k n nm ps ns ms pv nv mv qs) {j : Nat} {m : Bool} (hj : ms[j]? = some m) :
  ∃ g off cap,mv = .slice (some ⟨g,off,none⟩) ms.length cap ∧ ms.length ≤ cap ∧ ms.length ≤ 1000000000 ∧ ∀ w',Memo jag B w w' → g < w'.heap.size ∧ w'.cell? ⟨g,off + j,none⟩ = some (.bool m):=by
 obtain ⟨a,cap,e,h2,h4,h3⟩:=h.hm
 obtain ⟨g,off,cs,fz,r1,_,r3,r4⟩:=h3 j (.bool m) (by rw [List.getElem?_map,hj];rfl)
 subst r1
 rw [List.length_map] at e h2 h4
 exact ⟨g,off,cap,e,h2,h4,fun w' m => ⟨ja0 (m.cells r3 (by decide) (fun e => e)),(ja1 (m.cells r3 (by decide) (fun e => e)) _).trans r4⟩⟩
theorem jlg (sep : ByteArray) : jav sep [] = ⟨#[]⟩:=by simp [jav,Lib.join_nil]
theorem jiX (sep : ByteArray) (l : List ByteArray) (sa : Option Addr) (cap n : Nat) (w : World) (hn : n = l.length) (h : w.ownsRow 0 StrT 1 (.slice sa n cap) n (l.map .string)) (hlen : l.length ≤ 100000) (hs : (jav sep l).size ≤ 100000000000000) :
  Calls Tryz.prog 151 #[.slice sa n cap, .string sep] w fun e w' => e = .returned (.string (jav sep l)) ∧ Up w w':=by
 subst hn
 cases l with
 | nil =>
   rw [jlg]
   refine (Tryz.strings_Join_none sa cap sep w).mono ?_
   rintro e w' ⟨h1,h2⟩
   refine ⟨h1,?_⟩
   rw [h2]
   exact Up.refl _
 | cons x r => exact jiW sep (x :: r) (.slice sa (x :: r).length cap) w h (by simp) hlen hs
def memS (nm : ByteArray) (m : Bool) (t : ByteArray) : ByteArray:=nm ++ jds m ++ ⟨#[58,32]⟩ ++ t
def jhk (xs : List (ByteArray × Bool × Ty)) : List Value:=xs.map fun x => .string (memS x.1 x.2.1 x.2.2.text)
theorem jlh (xs : List (ByteArray × Bool × Ty)) (va : Option Addr) (vcap : Nat) (w : World) (h : w.ownsRow 0 StrT 1 (.slice va xs.length vcap) xs.length (jhk xs)) (hlen : xs.length ≤ 100000) (hs : (jav ⟨#[59,32]⟩ (xs.map fun x => memS x.1 x.2.1 x.2.2.text)).size ≤ 100000000000000) :
  Calls Tryz.prog 151 #[.slice va xs.length vcap, .string ⟨#[59,32]⟩] w fun e w' => e = .returned (.string (jav ⟨#[59,32]⟩ (xs.map fun x => memS x.1 x.2.1 x.2.2.text))) ∧ Up w w':=by
 have e2 : jhk xs = (xs.map fun x => memS x.1 x.2.1 x.2.2.text).map Value.string:=by
  unfold jhk
  rw [List.map_map]
  rfl
 have e3 : xs.length = (xs.map fun x => memS x.1 x.2.1 x.2.2.text).length:=(List.length_map _).symm
 rw [e2] at h
 have h5 : (xs.map fun x => memS x.1 x.2.1 x.2.2.text).length ≤ 100000:=by rw [List.length_map];exact hlen
 generalize (xs.map fun x => memS x.1 x.2.1 x.2.2.text) = l at *
 exact jiX ⟨#[59,32]⟩ l va vcap xs.length w e3 h h5 hs
theorem jiO (n : Int) (nm : ByteArray) (xs : List (ByteArray × Bool × Ty)) : (Ty.mk 14 n nm (xs.map (·.2.2)) (xs.map (·.1)) (xs.map (·.2.1))).text = ⟨#[123]⟩ ++ jav ⟨#[59,32]⟩ (xs.map fun x => memS x.1 x.2.1 x.2.2.text) ++ ⟨#[125]⟩:=by
 rw [Ty.text_mk]
 unfold jap
 rw [if_neg (by decide),if_neg (by decide),if_neg (by decide),if_pos rfl]
 congr 3
 induction xs with
 | nil => rfl
 | cons x r ih => simp only [List.map_cons,jaC];rw [ih];rfl
theorem jjy (n : Int) (nm : ByteArray) (xs : List (ByteArray × Bool × Ty)) (hlen : xs.length ≤ 100000) (hT : ∀ x ∈ xs,jaL x.2.2 ∧ x.2.2.text.size ≤ 100000000000000 ∧ x.1.size ≤ 1000000000)
  (hs0 : (jav ⟨#[59,32]⟩ (xs.map fun x => memS x.1 x.2.1 x.2.2.text)).size ≤ 100000000000000) : jaO (.mk 14 n nm (xs.map (·.2.2)) (xs.map (·.1)) (xs.map (·.2.1))):=by
 intro N B b W ht hg
 have e:=jiO n nm xs
 rw [e]
 have hBW : Hid (B ≤ W.heap.size):=Nat.le_trans ht.ge (Nat.le_of_lt ht.lt)
 obtain ⟨pv,nv,mv,qs,V⟩:=ht.view
 have HV:=Lib.hid (And.intro V (And.intro hg hT))
 have HJ:=Lib.hid hs0
 have a0:=V.c0
 have a3:=V.c3
 have a4:=V.lt
 obtain ⟨pa,pcap,rfl,_,_⟩:=V.parts
 rw [List.length_map] at a3
 clear ht hg hT V e hs0
 go_enter Tryz.func101,Tryz.ntmps101
 go_wp2_with fail
 go_loopw [3,50] (fun v i wr => ∃ j : Nat,j ≤ xs.length ∧ i = .int .i64 j ∧ wr.ownsRow 0 StrT 1 v j (jhk (xs.take j)) ∧ (∀ g,v.ownBlock = some g → W.heap.size ≤ g) ∧ Memo jag B W wr) (fun _ i _ => xs.length - (intOf i).toNat)
 case atStart => exact ⟨0,Nat.zero_le _,rfl,(show W.ownsRow 0 StrT 1 (.slice none 0 0) 0 [] from ⟨rfl, .inl ⟨rfl,rfl⟩⟩),(fun g hg => by simp [Value.ownBlock] at hg),Memo.refl _ _ _⟩
 case round =>
  obtain ⟨j,hj,rfl,hv,hvb,hmo⟩:=hrel
  by_cases hlt : j < xs.length
  ·have hji : (j : Int) < xs.length:=by omega
   obtain ⟨⟨s,m,p⟩,hx⟩ : ∃ x,xs[j]? = some x:=⟨_,List.getElem?_eq_getElem hlt⟩
   have VR:=HV.out.1.memo hmo
   obtain ⟨q,g,off,cap,he,hcap,hgl,hcell,hpt,hkeep⟩:=VR.part (j:=j) (p:=p) (by rw [List.getElem?_map,hx];rfl)
   obtain ⟨ng,noff,ncap,hne,hncap,hnl,hnk⟩:=HV.out.1.name (j:=j) (s:=s) (by rw [List.getElem?_map,hx];rfl)
   obtain ⟨mg,moff,mcap,hme,hmcap,hml,hmk⟩:=HV.out.1.mark (j:=j) (m:=m) (by rw [List.getElem?_map,hx];rfl)
   injection he with he1 he2 he3
   subst he1 he3
   subst hne hme
   rw [List.length_map] at hncap hnl hmcap hml
   have HX:=Lib.hid (And.intro hpt (And.intro (HV.out.2.1.memo hmo) (HV.out.2.2 _ (List.mem_of_getElem? hx))))
   obtain ⟨va,vcap,rfl⟩:=ja7 hv
   have HO:=Lib.hid (And.intro hv (And.intro hvb hmo))
   have HK:=Lib.hid (And.intro hkeep (And.intro hnk (And.intro hmk VR)))
   have HNX : Hid (jhk (xs.take (j + 1)) = jhk (xs.take j) ++ [.string (memS s m p.text)]):=by
    unfold Hid jhk
    rw [List.take_add_one,hx,List.map_append]
    rfl
   obtain ⟨vs,hvs⟩ : ∃ vs,Hid (jhk (xs.take j) = vs):=⟨_,rfl⟩
   rw [hvs.out] at HO HNX
   unfold memS at HNX
   have s1:=HX.out.2.2.2.2
   have s2:=HX.out.2.2.2.1
   have s3:=jfV m
   obtain ⟨pt,hpt2⟩ : ∃ pt,Hid (p.text = pt):=⟨_,rfl⟩
   obtain ⟨mk,hmk2⟩ : ∃ mk,Hid (jds m = mk):=⟨_,rfl⟩
   rw [hpt2.out,hmk2.out] at HNX
   simp only at s1 s2
   rw [hpt2.out] at s2
   rw [hmk2.out] at s3
   have z1 : ¬ 9223372036854775807 < s.size + mk.size:=by omega
   have z2 : ¬ 9223372036854775807 < s.size + mk.size + 2:=by omega
   have z3 : ¬ 9223372036854775807 < s.size + mk.size + 2 + pt.size:=by omega
   obtain ⟨i0,hi,hz0,hz1,hz2⟩:=info_parts jem
   have c4:=VR.c4
   have c5:=VR.c5
   have cl:=VR.lt
   have dn:=hnk wr hmo
   have dm:=hmk wr hmo
   have dn1:=dn.1
   have dn2:=dn.2
   have dm1:=dm.1
   have dm2:=dm.2
   rw [List.length_map] at c4 c5
   clear hx hv hvb hmo hlt hpt hkeep hnk hmk dn dm VR he2
   go_upto_region 13 with (fail)
   go_region_held3 (fun X => X.cell? ⟨b,4,none⟩ = some (.slice (some ⟨ng,noff,none⟩) xs.length ncap) ∧ X.cell? ⟨ng,noff + j,none⟩ = some (.string s) ∧ X.cell? ⟨b,5,none⟩ = some (.slice (some ⟨mg,moff,none⟩) xs.length mcap) ∧ X.cell? ⟨mg,moff + j,none⟩ = some (.bool m)) (((try dsimp only);(repeat' apply And.intro);all_goals (first | go_keep | assumption))) (first | (go_at_call 150;refine (jjV m _).mono ?_;rintro e w2 ⟨rfl,hu2⟩;rw [hmk2.out];have M2 : Memo jag B W w2:=HO.out.2.2.trans (Memo.of_up jag B (show Up wr w2 from uq));have c4:=(HV.out.1.memo M2).c4;have c5:=(HV.out.1.memo M2).c5;rw [List.length_map] at c4 c5;have dm1:=(HK.out.2.2.1 w2 M2).1;have dm2:=(HK.out.2.2.1 w2 M2).2;have cl:=(HV.out.1.memo M2).lt;have dn1:=(HK.out.2.1 w2 M2).1;have dn2:=(HK.out.2.1 w2 M2).2;clear M2) | (go_at_call 61;refine (HX.out.2.2.1 N B q _ (HX.out.1.up uq) (HX.out.2.1.up uq)).mono ?_;rintro e w3 ⟨rfl,hm3⟩;rw [hpt2.out];have M3 : Memo jag B wr w3:=(Memo.of_up jag B (show Up wr _ from uq)).trans hm3;have M4 : Memo jag B W w3:=HO.out.2.2.trans M3;have c4:=(HV.out.1.memo M4).c4;have c5:=(HV.out.1.memo M4).c5;rw [List.length_map] at c4 c5;have dm1:=(HK.out.2.2.1 w3 M4).1;have dm2:=(HK.out.2.2.1 w3 M4).2;have cl:=(HV.out.1.memo M4).lt;have dn1:=(HK.out.2.1 w3 M4).1;have dn2:=(HK.out.2.1 w3 M4).2;have O3:=Lib.hid (And.intro (jaD HO.out.1 (by decide) M3) M4);clear hm3 M3 M4) | (refine jcp rfl _ _ 30 rfl StrT i0 (.string ⟨#[]⟩) 1 16 Tryz.underlying30 hi hz0 hz1 hz2 rfl (by decide) (.slice va j vcap) j vs rfl (ja5 O3.out.1 uq) _ 1 1 rfl (by first | rfl | (simp;done) | omega) rfl (by intro u hu;have hu2 : u = .string (s ++ mk ++ ⟨#[58,32]⟩ ++ pt):=(by simpa using hu);rw [hu2];rfl) (by unfold maxLen;omega) (by omega) ?_;intro sa' cap' w7 hown' hgrow hblk;have M7 : Memo jag B W w7:=Memo.pushed (O3.out.2.up (show Up w3 _ from uq)) (ja5 O3.out.1 uq) (by decide) HO.out.2.1 hBW.out hgrow;have c4:=(HV.out.1.memo M7).c4;have c5:=(HV.out.1.memo M7).c5;rw [List.length_map] at c4 c5;have dm1:=(HK.out.2.2.1 w7 M7).1;have dm2:=(HK.out.2.2.1 w7 M7).2;have cl:=(HV.out.1.memo M7).lt;have dn1:=(HK.out.2.1 w7 M7).1;have dn2:=(HK.out.2.1 w7 M7).2;have HY:=Lib.hid (And.intro hown' (And.intro hblk M7));clear hown' hgrow hblk M7))
   all_goals
    go_wp2_with fail
    refine ⟨⟨j + 1,by omega,by simp,by rw [HNX.out];exact HY.out.1,fun g hg => ?_,HY.out.2.2⟩,by simp [intOf];omega⟩
    rcases HY.out.2.1 with q | ⟨g',q,q2⟩
    ·exact HO.out.2.1 g (by rw [← q];exact hg)
    ·rw [q] at hg
     cases hg
     have:=O3.out.2.size
     (try simp only [gQw] at q2)
     omega
  ·obtain rfl : j = xs.length:=by omega
   rw [List.take_length] at hv
   obtain ⟨va,vcap,rfl⟩:=ja7 hv
   have HJ2 : Hid (Calls Tryz.prog 151 #[.slice va xs.length vcap, .string ⟨#[59,32]⟩] wr fun e w' => e = .returned (.string (jav ⟨#[59,32]⟩ (xs.map fun x => memS x.1 x.2.1 x.2.2.text))) ∧ Up wr w'):=by
    exact jlh xs va vcap wr hv hlen HJ.out
   have HM:=Lib.hid hmo
   have hjs:=HJ.out
   obtain ⟨js,hjs2⟩ : ∃ js,Hid (jav ⟨#[59,32]⟩ (xs.map fun x => memS x.1 x.2.1 x.2.2.text) = js):=⟨_,rfl⟩
   rw [hjs2.out] at HJ2 hjs
   have z1 : ¬ 9223372036854775807 < 1 + js.size:=by omega
   have z2 : ¬ 9223372036854775807 < 1 + js.size + 1:=by omega
   clear hv hvb hmo hlt
   go_wp2_with (first | (go_at_call 151;refine HJ2.out.mono ?_;rintro e w2 ⟨rfl,hu2⟩))
   refine bodyPost_ret (v := .string (⟨#[123]⟩ ++ js ++ ⟨#[125]⟩)) (by simp [results,Tryz.results101,go_sem]) rfl ?_
   exact ⟨by rw [hjs2.out],HM.out.up hu2⟩
def parS (t : Ty) (m : Bool) : ByteArray:=if m = true then jas [15,16] t.kind t.text ++ ⟨#[63]⟩ else t.text
def jh9 (xs : List (Ty × Bool)) : List Value:=xs.map fun x => .string (parS x.1 x.2)
theorem jlo (n : Int) (nm : ByteArray) (xs : List (Ty × Bool)) (r : Ty) (ns : List ByteArray) : (Ty.mk 15 n nm (xs.map (·.1) ++ [r]) ns (xs.map (·.2))).text = ⟨#[40]⟩ ++ jav ⟨#[44,32]⟩ (xs.map fun x => parS x.1 x.2) ++ ⟨#[41,32,61,62,32]⟩ ++ r.text:=by
 rw [Ty.text_mk]
 unfold jap
 rw [if_neg (by decide),if_neg (by decide),if_neg (by decide),if_neg (by decide),if_pos rfl]
 rw [List.map_append,List.map_cons,List.map_nil,List.dropLast_concat]
 have e : ∀ xs : List (Ty × Bool),jaM ((xs.map (·.1)).map fun p => (p.kind,p.text)) (xs.map (·.2)) = xs.map fun x => parS x.1 x.2:=by
  intro xs
  induction xs with
  | nil => rfl
  | cons x r ih => simp only [List.map_cons,jaM];rw [ih];rfl
 rw [e]
 simp [List.getLastD_eq_getLast?]
theorem jlf (xs : List (Ty × Bool)) (va : Option Addr) (vcap : Nat) (w : World) (h : w.ownsRow 0 StrT 1 (.slice va xs.length vcap) xs.length (jh9 xs)) (hlen : xs.length ≤ 100000) (hs : (jav ⟨#[44,32]⟩ (xs.map fun x => parS x.1 x.2)).size ≤ 100000000000000) :
  Calls Tryz.prog 151 #[.slice va xs.length vcap, .string ⟨#[44,32]⟩] w fun e w' => e = .returned (.string (jav ⟨#[44,32]⟩ (xs.map fun x => parS x.1 x.2))) ∧ Up w w':=by
 have e2 : jh9 xs = (xs.map fun x => parS x.1 x.2).map Value.string:=by
  unfold jh9
  rw [List.map_map]
  rfl
 have e3 : xs.length = (xs.map fun x => parS x.1 x.2).length:=(List.length_map _).symm
 rw [e2] at h
 have h5 : (xs.map fun x => parS x.1 x.2).length ≤ 100000:=by rw [List.length_map];exact hlen
 generalize (xs.map fun x => parS x.1 x.2) = l at *
 exact jiX ⟨#[44,32]⟩ l va vcap xs.length w e3 h h5 hs
theorem jjx (n : Int) (nm : ByteArray) (xs : List (Ty × Bool)) (r : Ty) (ns : List ByteArray) (hlen : xs.length ≤ 100000) (hT : ∀ x ∈ xs,jaL x.1 ∧ x.1.text.size ≤ 100000000000000) (hR : jaL r ∧ r.text.size ≤ 100000000000000)
  (hs0 : (jav ⟨#[44,32]⟩ (xs.map fun x => parS x.1 x.2)).size ≤ 100000000000000) : jaO (.mk 15 n nm (xs.map (·.1) ++ [r]) ns (xs.map (·.2))):=by
 intro N B b W ht hg
 rw [jlo]
 have hBW : Hid (B ≤ W.heap.size):=Nat.le_trans ht.ge (Nat.le_of_lt ht.lt)
 obtain ⟨pv,nv,mv,qs,V⟩:=ht.view
 have HV:=Lib.hid (And.intro V (And.intro hg (And.intro hT hR)))
 have HJ:=Lib.hid hs0
 obtain ⟨lq,lg,loff,lcap,hle,hlcap,_,hlcell,hlty,hlk⟩:=V.part (j:=xs.length) (p:=r) (by rw [List.getElem?_append_right (by simp)];simp)
 have a0:=V.c0
 have a3:=V.c3
 have a5:=V.c5
 have a4:=V.lt
 have hpl : (xs.map (·.1) ++ [r]).length = xs.length + 1:=by simp
 rw [hpl] at hle hlcap
 subst hle
 have hwr:=IntWalk.i64_in ((xs.length : Int) + 1 - 1) (by omega)
 clear ht hg hT V hs0 hR
 go_enter Tryz.func101,Tryz.ntmps101
 go_wp2_with fail
 go_loopw [7,98] (fun v i wr => ∃ j : Nat,j ≤ xs.length ∧ i = .int .i64 j ∧ wr.ownsRow 0 StrT 1 v j (jh9 (xs.take j)) ∧ (∀ g,v.ownBlock = some g → W.heap.size ≤ g) ∧ Memo jag B W wr) (fun _ i _ => xs.length - (intOf i).toNat)
 case atStart => exact ⟨0,Nat.zero_le _,rfl,(show W.ownsRow 0 StrT 1 (.slice none 0 0) 0 [] from ⟨rfl, .inl ⟨rfl,rfl⟩⟩),(fun g hg => by simp [Value.ownBlock] at hg),Memo.refl _ _ _⟩
 case round =>
  obtain ⟨j,hj,rfl,hv,hvb,hmo⟩:=hrel
  by_cases hlt : j < xs.length
  ·have hji : (j : Int) < xs.length:=by omega
   obtain ⟨⟨p,m⟩,hx⟩ : ∃ x,xs[j]? = some x:=⟨_,List.getElem?_eq_getElem hlt⟩
   have VR:=HV.out.1.memo hmo
   obtain ⟨q,g,off,cap,he,hcap,hgl,hcell,hpt,hkeep⟩:=VR.part (j:=j) (p:=p) (by rw [List.getElem?_append_left (by simpa using hlt),List.getElem?_map,hx];rfl)
   obtain ⟨mg,moff,mcap,hme,hmcap,hml,hmk⟩:=HV.out.1.mark (j:=j) (m:=m) (by rw [List.getElem?_map,hx];rfl)
   injection he with he1 he2 he3
   injection he1 with he1
   injection he1 with he1 he4 _
   subst he1 he4 he3 hme
   rw [List.length_map] at hmcap hml
   have HX:=Lib.hid (And.intro hpt (And.intro (HV.out.2.1.memo hmo) (HV.out.2.2.1 _ (List.mem_of_getElem? hx))))
   obtain ⟨va,vcap,rfl⟩:=ja7 hv
   have HO:=Lib.hid (And.intro hv (And.intro hvb hmo))
   have hmk:=Lib.hid hmk
   have HNX : Hid (jh9 (xs.take (j + 1)) = jh9 (xs.take j) ++ [.string (parS p m)]):=by
    unfold Hid jh9
    rw [List.take_add_one,hx,List.map_append]
    rfl
   obtain ⟨vs,hvs⟩ : ∃ vs,Hid (jh9 (xs.take j) = vs):=⟨_,rfl⟩
   rw [hvs.out] at HO HNX
   unfold parS at HNX
   have s2:=HX.out.2.2.2
   have s4:=jaU [15,16] p.kind p.text
   obtain ⟨rt,hrt2⟩ : ∃ rt,Hid (jas [15,16] p.kind p.text = rt):=⟨_,rfl⟩
   simp only at s2
   obtain ⟨pt,hpt2⟩ : ∃ pt,Hid (p.text = pt):=⟨_,rfl⟩
   rw [hrt2.out,hpt2.out] at s4
   rw [hrt2.out,hpt2.out] at HNX
   rw [hpt2.out] at s2
   have z1 : ¬ 9223372036854775807 < rt.size + 1:=by omega
   obtain ⟨i0,hi,hz0,hz1,hz2⟩:=info_parts jem
   clear hx hv hvb hmo hlt hpt hkeep VR he2
   cases m with
   | true =>
     rw [if_pos rfl] at HNX
     go_wp2_with (first | (go_at_call 61;refine (HX.out.2.2.1 N B q _ (HX.out.1.up uq) (HX.out.2.1.up uq)).mono ?_;rintro e w3 ⟨rfl,hm3⟩;rw [hpt2.out];have M3 : Memo jag B wr w3:=(Memo.of_up jag B (show Up wr _ from uq)).trans hm3;have M4 : Memo jag B W w3:=HO.out.2.2.trans M3;have c5:=(HV.out.1.memo M4).c5;rw [List.length_map] at c5;have cl:=(HV.out.1.memo M4).lt;have dm1:=(hmk.out w3 M4).1;have dm2:=(hmk.out w3 M4).2;have O3:=Lib.hid (And.intro (jaD HO.out.1 (by decide) M3) (And.intro M4 M3));clear hm3 M3 M4) | (go_at_call 96;refine (jdl [15,16] w3.heap.size 2 q p N B _ ((HX.out.1.memo O3.out.2.2).up uq) ((HX.out.2.1.memo O3.out.2.2).up uq) HX.out.2.2.1 HX.out.2.2.2 (by intro j z hz;match j,hz with | 0,hz => (simp at hz;subst hz;simp) | 1,hz => (simp at hz;subst hz;simp) | j + 2,hz => simp at hz) (by simp) (by simp)).mono ?_;rintro e w5 ⟨rfl,hm5⟩;rw [hrt2.out];have M5 : Memo jag B w3 w5:=(Memo.of_up jag B (show Up w3 _ from uq)).trans hm5;have O5:=Lib.hid (And.intro (jaD O3.out.1 (by decide) M5) (O3.out.2.1.trans M5));clear hm5 M5) | (at_builtin;go_must (refine jae rfl _ _ 30 rfl StrT i0 (.string ⟨#[]⟩) 1 16 Tryz.underlying30 hi hz0 hz1 hz2 rfl (by decide) (.slice va j vcap) j vs rfl (ja5 O5.out.1 uq) _ 1 1 rfl (by first | rfl | (simp;done) | omega) rfl (by intro u hu;have hu2 : u = .string (rt ++ ⟨#[63]⟩):=(by simpa using hu);rw [hu2];rfl) (by unfold maxLen;omega) (by omega) ?_;intro sa' cap' w7 hown' hgrow hblk;have M7 : Memo jag B W w7:=Memo.pushed (O5.out.2.up (show Up w5 _ from uq)) (ja5 O5.out.1 uq) (by decide) HO.out.2.1 hBW.out hgrow;have HY:=Lib.hid (And.intro hown' (And.intro hblk M7));clear hown' hgrow hblk M7)))
     refine ⟨⟨j + 1,by omega,by simp,by rw [HNX.out];exact HY.out.1,fun g hg => ?_,HY.out.2.2⟩,by simp [intOf];omega⟩
     rcases HY.out.2.1 with q | ⟨g',q,q2⟩
     ·exact HO.out.2.1 g (by rw [← q];exact hg)
     ·rw [q] at hg
      cases hg
      have:=O5.out.2.size
      (try simp only [gQw] at q2)
      omega
   | false =>
     rw [if_neg (by decide)] at HNX
     go_wp2_with (first | (go_at_call 61;refine (HX.out.2.2.1 N B q _ (HX.out.1.up uq) (HX.out.2.1.up uq)).mono ?_;rintro e w3 ⟨rfl,hm3⟩;rw [hpt2.out];have M3 : Memo jag B wr w3:=(Memo.of_up jag B (show Up wr _ from uq)).trans hm3;have M4 : Memo jag B W w3:=HO.out.2.2.trans M3;have c5:=(HV.out.1.memo M4).c5;rw [List.length_map] at c5;have cl:=(HV.out.1.memo M4).lt;have dm1:=(hmk.out w3 M4).1;have dm2:=(hmk.out w3 M4).2;have O3:=Lib.hid (And.intro (jaD HO.out.1 (by decide) M3) (And.intro M4 M3));clear hm3 M3 M4) | (at_builtin;go_must (refine jae rfl _ _ 30 rfl StrT i0 (.string ⟨#[]⟩) 1 16 Tryz.underlying30 hi hz0 hz1 hz2 rfl (by decide) (.slice va j vcap) j vs rfl (ja5 O3.out.1 uq) _ 1 1 rfl (by first | rfl | (simp;done) | omega) rfl (by intro u hu;have hu2 : u = .string pt:=(by simpa using hu);rw [hu2];rfl) (by unfold maxLen;omega) (by omega) ?_;intro sa' cap' w7 hown' hgrow hblk;have M7 : Memo jag B W w7:=Memo.pushed (O3.out.2.1.up (show Up w3 _ from uq)) (ja5 O3.out.1 uq) (by decide) HO.out.2.1 hBW.out hgrow;have HY:=Lib.hid (And.intro hown' (And.intro hblk M7));clear hown' hgrow hblk M7)))
     refine ⟨⟨j + 1,by omega,by simp,by rw [HNX.out];exact HY.out.1,fun g hg => ?_,HY.out.2.2⟩,by simp [intOf];omega⟩
     rcases HY.out.2.1 with q | ⟨g',q,q2⟩
     ·exact HO.out.2.1 g (by rw [← q];exact hg)
     ·rw [q] at hg
      cases hg
      have:=O3.out.2.1.size
      (try simp only [gQw] at q2)
      omega
  ·obtain rfl : j = xs.length:=by omega
   rw [List.take_length] at hv
   obtain ⟨va,vcap,rfl⟩:=ja7 hv
   have hjs:=HJ.out
   obtain ⟨js,hjs2⟩ : ∃ js,Hid (jav ⟨#[44,32]⟩ (xs.map fun x => parS x.1 x.2) = js):=⟨_,rfl⟩
   rw [hjs2.out] at hjs
   have s2:=HV.out.2.2.2.2
   obtain ⟨pt,hpt2⟩ : ∃ pt,Hid (r.text = pt):=⟨_,rfl⟩
   rw [hpt2.out] at s2
   have z1 : ¬ 9223372036854775807 < 1 + js.size:=by omega
   have z2 : ¬ 9223372036854775807 < 1 + js.size + 5:=by omega
   have z3 : ¬ 9223372036854775807 < 1 + js.size + 5 + pt.size:=by omega
   have C1 : Hid (∀ i : MemoOf B wr,Calls Tryz.prog 151 #[.slice va xs.length vcap, .string ⟨#[44,32]⟩] i.W fun e w' => e = .returned (.string js) ∧ Memo jag B i.W w'):=fun i => by
    rw [← hjs2.out]
    exact (jlf xs va vcap i.W (jaD hv (by decide) i.memo) hlen HJ.out).mono fun e w' ⟨h1,h2⟩ => ⟨h1,Memo.of_up _ _ h2⟩
   have C2 : Hid (∀ i : MemoOf B wr,Calls Tryz.prog 61 #[.pointer (some ⟨lq,0,none⟩)] i.W fun e w' => e = .returned (.string pt) ∧ Memo jag B i.W w'):=fun i => by
    rw [← hpt2.out]
    exact HV.out.2.2.2.1 N B lq i.W (hlty.memo (hmo.trans i.memo)) (HV.out.2.1.memo (hmo.trans i.memo))
   have r3 : ∀ i : MemoOf B wr,i.W.cell? ⟨b,3,none⟩ = some (.slice (some ⟨lg,loff,none⟩) (xs.length + 1) lcap):=fun i => by
    have q:=(HV.out.1.memo (hmo.trans i.memo)).c3
    simpa using q
   have r4 : ∀ i : MemoOf B wr,i.W.cell? ⟨lg,loff + xs.length,none⟩ = some (.pointer (some ⟨lq,0,none⟩)):=fun i => hlk i.W (hmo.trans i.memo)
   have HM:=Lib.hid hmo
   clear hv hvb hmo hlt hlk
   go_wp2_with fail
   refine jbt B (by kernel_rfl) (by kernel_rfl) ?_
   repeat (go_big_quiet_step (first | ((go_at_call 151;rename_i i;exact Calls.memo_of i (C1.out i))) | ((go_at_call 61;rename_i i;exact Calls.memo_of i (C2.out i)))))
   refine wpQuiet_nil ?_
   intro _ hw'
   obtain ⟨⟨w2,hm2⟩,hw''⟩:=hw'
   subst hw''
   have M2:=Lib.hid hm2
   clear r3 r4 hm2
   go_wp2_with fail
   refine bodyPost_ret (v := .string (⟨#[40]⟩ ++ js ++ ⟨#[41,32,61,62,32]⟩ ++ pt)) (by simp [results,Tryz.results101,go_sem]) rfl ?_
   exact ⟨by rw [hjs2.out,hpt2.out],HM.out.trans M2.out⟩
end Go.Proofs.YtiaepldmgighbaaGreatDoor
