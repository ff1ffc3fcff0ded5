import Derived.Test.YtiaepldmgighbaaGreatDoorU39
import Derived.Test.YtiaepldmgighbaaGreatDoorU28
import Derived.Test.YtiaepldmgighbaaGreatDoorU32
import Derived.Test.YtiaepldmgighbaaGreatDoorU38
namespace Go.Proofs.YtiaepldmgighbaaGreatDoor
open Go.RowKit
set_option linter.unusedSimpArgs false
theorem jnj : ∀ (l : List Nat) (a : Nat),a ≤ 1099511627776 → (l.map fun x => min x 1099511627776).foldl (fun a x => min (a + x) 1099511627776) a = min (a + l.sum) 1099511627776
 | [],a,h => by simp;omega
 | x :: r,a,h => by
   rw [List.map_cons,List.foldl_cons,jnj r _ (Nat.min_le_right _ _),List.sum_cons]
   omega
mutual
theorem Ty.size_nodes : ∀ t : Ty,t.size = min t.nodes 1099511627776
 | .mk k n nm ps ns ms => by
   rw [Ty.size,Ty.nodes,Ty.sizes_nodes ps,jnj _ _ (by decide),Ty.nodesL_eq]
theorem Ty.sizes_nodes : ∀ ps : List Ty,Ty.sizes ps = (ps.map Ty.nodes).map fun x => min x 1099511627776
 | [] => rfl
 | p :: r => by rw [Ty.sizes,Ty.size_nodes p,Ty.sizes_nodes r];rfl
end
def KeepR (B A : Nat) (bs : List Nat) (ts : List Ty) (tv mv dv : Value) (w : World) (t : Ty) (e : Ending) (w' : World) : Prop :=
 (t.nodes ≤ 500 ∧ ∃ i : Nat,e = .returned (.tuple #[.int .i64 i, .int .i64 0]) ∧ LayR B A bs ts tv mv dv w t (.returned (.int .i64 i)) w') ∨ (500 < t.nodes ∧ e = .returned (.tuple #[.int .i64 0, .int .i64 9]) ∧ Up w w')
set_option maxHeartbeats 1600000
theorem jiV (t : Ty) (hv : t.Valid) (hn : t.namesLe 2000000) (B A b : Nat) (bs : List Nat) (ts : List Ty) (tv mv dv : Value) (w : World) (hA : Are w B A bs ts tv mv dv) (ht : TyAt (fun x => ¬ arS A tv mv x) B w b t) (hg : GlobB B w) (hf : bs.length + t.nodes ≤ 1000000) :
  Calls Tryz.prog 54 #[.pointer (some ⟨A,0,none⟩), .pointer (some ⟨b,0,none⟩)] w (KeepR B A bs ts tv mv dv w t):=by
 have a6:=View.cell6 ht
 have a4:=ht.lt
 have hsz:=Ty.size_nodes t
 by_cases h5 : t.nodes ≤ 500
 ·have h500 : ((t.size : Nat) : Int) ≤ 500:=by omega
  have HL:=Lib.hid (jo8 hv h5 hn B A b bs ts tv mv dv w hA ht hg hf)
  have H5:=Lib.hid h5
  obtain ⟨sz,hszz⟩ : ∃ sz,Hid (t.size = sz):=⟨_,rfl⟩
  rw [hszz.out] at a6 h500
  clear hA ht hg hf hsz h5
  go_enter Tryz.func54,Tryz.ntmps54
  go_wp2_with (first | (go_at_call 48;refine HL.out.mono ?_;rintro e w2 ⟨⟨i,bs',ts',tv',mv',rfl,h1,h2,h3,h4,h5⟩,_⟩;have HR:=Lib.hid (show LayR B A bs ts tv mv dv w t (.returned (.int .i64 i)) w2 from ⟨i,bs',ts',tv',mv',rfl,h1,h2,h3,h4,h5⟩);clear h1 h2 h3 h4 h5))
  refine bodyPost_ret (v := .tuple #[.int .i64 i, .int .i64 0]) (by simp [results,Tryz.results54,go_sem]) rfl ?_
  exact .inl ⟨H5.out,i,rfl,HR.out⟩
 ·have h500 : 500 < ((t.size : Nat) : Int):=by omega
  have H5:=Lib.hid h5
  obtain ⟨sz,hszz⟩ : ∃ sz,Hid (t.size = sz):=⟨_,rfl⟩
  rw [hszz.out] at a6 h500
  clear hA ht hg hf hsz h5
  go_enter Tryz.func54,Tryz.ntmps54
  go_wp2_with fail
  refine bodyPost_ret (v := .tuple #[.int .i64 0, .int .i64 9]) (by simp [results,Tryz.results54,go_sem]) rfl ?_
  exact .inr ⟨by have:=H5.out;omega,rfl,uq⟩
theorem Len_in (dv : Value) (B A : Nat) (bs : List Nat) (ts : List Ty) (tv mv : Value) (w : World) (h : Are w B A bs ts tv mv dv) :
  Calls Tryz.prog 45 #[.pointer (some ⟨A,0,none⟩)] w fun e w' => e = .returned (.int .i64 bs.length) ∧ Up w w':=by
 obtain ⟨ta,tcap,rfl⟩:=ja7 h.row
 have a0:=ja1 h.head 0
 have a4:=ja0 h.head
 simp only [gQa,gQz] at a0
 clear h
 go_enter Tryz.func45,Tryz.ntmps45
 go_wp2_with fail
 go_ret
 exact ⟨rfl,uq⟩
theorem Are.at_ {w : World} {B A : Nat} {bs : List Nat} {ts : List Ty} {tv mv dv : Value} (h : Are w B A bs ts tv mv dv) {i : Nat} {t : Ty} (hi : ts[i]? = some t) :
  ∃ b gr rcap,bs[i]? = some b ∧ tv = .slice (some ⟨gr,0,none⟩) bs.length rcap ∧ w.cell? ⟨gr,i,none⟩ = some (.pointer (some ⟨b,0,none⟩)) ∧ gr < w.heap.size ∧ i < bs.length ∧ TyAt (fun x => ¬ arS A tv mv x) B w b t:=by
 have hil : i < bs.length:=by rw [← h.len];exact (List.getElem?_eq_some_iff.1 hi).1
 obtain ⟨b,hb⟩ : ∃ b,bs[i]? = some b:=⟨_,List.getElem?_eq_getElem hil⟩
 obtain ⟨gr,rcap,cur,rfl,hgr,hrc,hcur⟩:=jaY h.row (by omega)
 refine ⟨b,gr,rcap,hb,rfl,?_,ja0 hgr,hil,h.ty i b t hb hi⟩
 have q:=(ja1 hgr (0 + i)).trans (hcur i (ptrV b) (by rw [List.getElem?_map,hb];rfl))
 rw [Nat.zero_add] at q
 exact q
theorem jot (dv : Value) (B A : Nat) (bs : List Nat) (ts : List Ty) (tv mv : Value) (i : Nat) (t : Ty) (w : World) (h : Are w B A bs ts tv mv dv) (hi : ts[i]? = some t) (hg : GlobB B w) :
  Calls Tryz.prog 27 #[.pointer (some ⟨A,0,none⟩), .int .i64 i] w fun e w' => e = .returned (.string t.text) ∧ Memo jag B w w':=by
 obtain ⟨b,gr,rcap,hb,rfl,y0,yl,hil,hbt⟩:=h.at_ hi
 have HH:=Lib.hid h.head
 have hgd:=h.good t (List.mem_of_getElem? hi)
 have HT:=Lib.hid (fun W (hW : Up w W) => jej hgd.1 ⟨by have:=hgd.2.1;omega,hgd.2.2⟩ _ B b W (hbt.up hW) (hg.glob.up hW))
 obtain ⟨s,hs⟩ : ∃ s,Hid (t.text = s):=⟨_,rfl⟩
 rw [hs.out] at HT ⊢
 have hji : (i : Int) < bs.length:=by omega
 clear h hi hb hbt hg hgd
 go_enter Tryz.func27,Tryz.ntmps27
 go_wp2_with (first | (go_at_call 60;refine (jg0 dv A bs.length rcap _ _ i hil _ HH.out).mono ?_;rintro e w2 ⟨rfl,hu2⟩;have hh:=hu2.get HH.out;have a0:=ja1 hh 0;have a4:=ja0 hh;simp only [gQa,gQz,gQs] at a0;have y0:=(hu2.cells _ _ yl).trans y0;clear hh) | (go_at_call 61;refine (HT.out _ (show Up w _ from uq)).mono ?_;rintro e w3 ⟨rfl,hm3⟩;have HM3:=Lib.hid ((Memo.of_up jag B (show Up w _ from uq)).trans hm3);clear hm3))
 go_ret
 exact ⟨rfl,HM3.out⟩
def IdsAt (w : World) (a : Option Addr) (zs : List Nat) : Prop := ∀ (j z : Nat),zs[j]? = some z → ∃ b off,a = some ⟨b,off,none⟩ ∧ b < w.heap.size ∧ w.cell? ⟨b,off + j,none⟩ = some (.int .i64 z)
theorem IdsAt.up {w w' : World} {a : Option Addr} {zs : List Nat} (h : IdsAt w a zs) (k : Up w w') : IdsAt w' a zs:=fun j z hj => by
 obtain ⟨b,off,h1,h2,h3⟩:=h j z hj
 exact ⟨b,off,h1,Nat.lt_of_lt_of_le h2 k.size,(k.cells _ _ h2).trans h3⟩
theorem Are.open_ {w : World} {B A : Nat} {bs : List Nat} {ts : List Ty} {tv mv dv : Value} (h : Are w B A bs ts tv mv dv) : Open (fun x => ¬ arS A tv mv x) w:=fun x hx e => by
 rcases e with e | e | e
 ·have:=ja0 h.head;omega
 ·have:=(h.row.lt x e).2;omega
 ·rcases h.ids with ⟨h9,_⟩ | ⟨g,es,clk,h9,_,hm,_⟩
  ·rw [h9] at e;cases e
  ·rw [h9] at e
   cases e
   have:=ja0 hm
   omega
theorem jdq {w : World} {v : Value} {n : Nat} {us : List Value} (h : w.ownsRow 0 TpT 1 v n us) (hl : us.length = n) (hn : n ≤ 1000000000) : RowOf TpT (fun _ => True) w v us:=by
 subst hl
 rcases Nat.eq_zero_or_pos us.length with h0 | h0
 ·rcases h.2 with ⟨hv,_⟩ | ⟨g,cap,cur,hv,_,hg,hc,hu⟩
  ·rw [List.length_eq_zero_iff.1 h0,hv];exact RowOf.nil _ _ _
  ·refine ⟨some ⟨g,0,none⟩,cap,hv,by omega,hn,fun j u hu => ?_⟩
   rw [List.length_eq_zero_iff.1 h0] at hu
   simp at hu
 ·obtain ⟨g,cap,cur,hv,hg,hc,hu⟩:=jaY h h0
  exact ⟨some ⟨g,0,none⟩,cap,hv,hc,hn,fun j u hj => ⟨g,0,cur,(0,0),rfl,trivial,hg,hu j u hj⟩⟩
def UniR (B A : Nat) (bs : List Nat) (ts : List Ty) (tv mv dv : Value) (w : World) (c : Ty) (e : Ending) (w' : World) : Prop :=
 ∃ (u : Ty) (w2 : World),u.Valid ∧ u.canon = c ∧ Memo jag B w w2 ∧ KeepR B A bs ts tv mv dv w2 u e w'
set_option maxRecDepth 100000
set_option maxHeartbeats 3200000
theorem jer (B A : Nat) (bs : List Nat) (ts : List Ty) (tv mv dv : Value) (zs : List Nat) (us : List Ty) (a : Option Addr) (cap : Nat) (w : World) (hA : Are w B A bs ts tv mv dv) (hz : IdsAt w a zs) (hu : zs.map (fun z => ts[z]?) = us.map some) (hf : Fit us) (hg : GlobB B w) (hb : bs.length ≤ 500000) :
  Calls Tryz.prog 24 #[.pointer (some ⟨A,0,none⟩), .slice a zs.length cap] w (UniR B A bs ts tv mv dv w (jal (us.map Ty.canon))):=by
 have hlen : zs.length = us.length:=by have:=congrArg List.length hu;simpa using this
 have hat : ∀ (j z : Nat) (u : Ty),zs[j]? = some z → us[j]? = some u → ts[z]? = some u:=fun j z u h1 h2 => by
  have:=congrArg (·[j]?) hu
  simp only [List.getElem?_map,h1,h2,Option.map_some,Option.some.injEq] at this
  exact this
 have hr : ∀ z ∈ zs,z < bs.length:=fun z hz' => by
  obtain ⟨j,hj⟩:=List.getElem?_of_mem hz'
  have hjl:=(List.getElem?_eq_some_iff.1 hj).1
  obtain ⟨u,hu2⟩ : ∃ u,us[j]? = some u:=⟨_,List.getElem?_eq_getElem (by omega)⟩
  have:=(List.getElem?_eq_some_iff.1 (hat j z u hj hu2)).1
  rw [← hA.len]
  exact this
 have hall:=Lib.hid (jnw dv A tv mv bs zs a cap w hA.head hA.row hz hr (by have:=hf.len;omega))
 have HA:=Lib.hid hA
 have HF:=Lib.hid (And.intro hf (And.intro hg (And.intro hat (And.intro hlen (And.intro hr hb)))))
 have a4:=ja0 hA.head
 have hun : Hid (∀ (W : World) (v : Value),Up w W → W.ownsRow 0 TpT 1 v zs.length (zs.map fun z => ptrV (bs.getD z 0)) → Calls Tryz.prog 55 #[v] W (DoR (fun x => ¬ arS A tv mv x) B W (jal (us.map Ty.canon)))):=fun W v hW hv => by
  obtain ⟨va,vcap,rfl⟩:=ja7 hv
  have hrow:=jdq hv (by simp) (by have:=HF.out.1.len;have:=HF.out.2.2.2.1;omega)
  have e : (zs.map fun z => ptrV (bs.getD z 0)) = (zs.map fun z => bs.getD z 0).map ptrV:=by rw [List.map_map];rfl
  rw [e] at hrow
  have q:=jjq (fun x => ¬ arS A tv mv x) B va vcap (zs.map fun z => bs.getD z 0) us W (by rw [List.length_map];exact hrow) (by rw [List.length_map];exact HF.out.2.2.2.1) (fun j b t h1 h2 => by
   rw [List.getElem?_map] at h1
   cases hzj : zs[j]? with
   | none => rw [hzj] at h1;cases h1
   | some z =>
     rw [hzj] at h1
     have h3:=HF.out.2.2.1 j z t hzj h2
     have hzl:=HF.out.2.2.2.2.1 z (List.mem_of_getElem? hzj)
     obtain ⟨b',hb'⟩ : ∃ b,bs[z]? = some b:=⟨_,List.getElem?_eq_getElem hzl⟩
     simp only [Option.map_some,Option.some.injEq,List.getD,hb',Option.getD_some] at h1
     subst h1
     exact (HA.out.ty z b' t hb' h3).up hW) HF.out.1 (Nat.le_trans HA.out.lt hW.size) (HF.out.2.1.glob.up hW) ((HA.out.open_).up hW)
  rw [List.length_map] at q
  exact q
 have hkp : Hid (∀ (W : World) (c : Nat) (u : Ty),Memo jag B w W → TyAt (fun x => ¬ arS A tv mv x) B W c u → u.Valid → u.canon = jal (us.map Ty.canon) → Calls Tryz.prog 54 #[.pointer (some ⟨A,0,none⟩), .pointer (some ⟨c,0,none⟩)] W (KeepR B A bs ts tv mv dv W u)):=fun W c u hm hc hv hcn => by
  refine jiV u hv ?_ B A c bs ts tv mv dv W (HA.out.memo hm) hc (HF.out.2.1.memo hm) ?_
  ·rw [← Ty.namesLe_canon,hcn]
   exact jgN fun t ht => by
    obtain ⟨x,hx,rfl⟩:=List.mem_map.1 ht
    exact (Ty.namesLe_canon x).2 (HF.out.1.names x hx)
  ·rw [← Ty.nodes_canon,hcn]
   have h1:=jbb (us.map Ty.canon)
   rw [List.map_map,show (Ty.nodes ∘ Ty.canon) = Ty.nodes from funext Ty.nodes_canon] at h1
   have:=HF.out.1.nodes
   have:=HF.out.2.2.2.2.2
   omega
 clear hA hz hu hf hg hlen hat hr hb
 go_enter Tryz.func24,Tryz.ntmps24
 go_wp2_with (first
  | (go_at_call 53;refine hall.out.mono ?_;rintro e w2 ⟨v,rfl,h1,h2,hu2⟩;have hun2:=hun.out w2 v hu2 h1;have HU:=Lib.hid hun2;have HU2:=Lib.hid hu2;clear h1 h2 hun2)
  | (go_at_call 55;refine HU.out.mono ?_;rintro e w3 ⟨c,u,rfl,hc,hv,hcn,hm3⟩;have HC:=Lib.hid (And.intro hc (And.intro hv (And.intro hcn ((Memo.of_up jag B HU2.out).trans hm3))));clear hc hv hcn hm3)
  | (go_at_call 54;refine (hkp.out _ c u HC.out.2.2.2 HC.out.1 HC.out.2.1 HC.out.2.2.1).mono ?_;(rintro e w4 (⟨h5,i,rfl,hL⟩ | ⟨h5,rfl,hL⟩) <;> (have HK:=Lib.hid (And.intro h5 hL);clear h5 hL))))
 ·refine bodyPost_ret (v := .tuple #[.int .i64 i, .int .i64 0]) (by simp [results,Tryz.results24,go_sem]) rfl ?_
  exact ⟨u,w3,HC.out.2.1,HC.out.2.2.1,HC.out.2.2.2, .inl ⟨HK.out.1,i,rfl,HK.out.2⟩⟩
 ·refine bodyPost_ret (v := .tuple #[.int .i64 0, .int .i64 9]) (by simp [results,Tryz.results24,go_sem]) rfl ?_
  exact ⟨u,w3,HC.out.2.1,HC.out.2.2.1,HC.out.2.2.2, .inr ⟨HK.out.1,rfl,HK.out.2⟩⟩
end Go.Proofs.YtiaepldmgighbaaGreatDoor
