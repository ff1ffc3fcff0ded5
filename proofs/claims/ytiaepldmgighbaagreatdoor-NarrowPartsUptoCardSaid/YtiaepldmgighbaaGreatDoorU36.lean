import Derived.Test.YtiaepldmgighbaaGreatDoorU33
import Derived.Test.YtiaepldmgighbaaGreatDoorU35
namespace Go.Proofs.YtiaepldmgighbaaGreatDoor
open Go.RowKit
set_option linter.unusedSimpArgs false
def Open (N : Nat → Prop) (w : World) : Prop := ∀ x,w.heap.size ≤ x → N x
theorem Open.memo {N : Nat → Prop} {S : Nat → Prop} {B : Nat} {w w' : World} (h : Open N w) (k : Memo S B w w') : Open N w':=fun x hx => h x (Nat.le_trans k.size hx)
theorem Open.up {N : Nat → Prop} {w w' : World} (h : Open N w) (k : Up w w') : Open N w':=fun x hx => h x (Nat.le_trans k.size hx)
def DoR (N : Nat → Prop) (B : Nat) (w : World) (c' : Ty) (e : Ending) (w' : World) : Prop := ∃ c u,e = .returned (.pointer (some ⟨c,0,none⟩)) ∧ TyAt N B w' c u ∧ u.Valid ∧ u.canon = c' ∧ Memo jag B w w'
structure Fit (ts : List Ty) : Prop where
 valid : ∀ t ∈ ts,t.Valid
 names : ∀ t ∈ ts,t.namesLe 2000000
 nodes : (ts.map Ty.nodes).sum ≤ 90000
 len : ts.length ≤ 1000
theorem Fit.sm {ts : List Ty} (h : Fit ts) {t : Ty} (ht : t ∈ ts) : Sm t:=⟨by have:=jd7 (List.mem_map_of_mem (f:=Ty.nodes) ht);have:=h.nodes;omega,h.names t ht⟩
theorem Ty.namesLe_part {M : Nat} {t : Ty} (h : t.namesLe M) : ∀ p ∈ t.parts,p.namesLe M:=by
 cases t with
 | mk k n nm ps ns ms => exact (Ty.namesLe_mk.1 h).2.2
theorem Sm.of_part {t p : Ty} (h : Sm t) (hp : p ∈ t.parts) : Sm p:=by
 cases t with
 | mk k n nm ps ns ms => exact h.part hp
theorem jjZ {t : Ty} (h : t.Valid) : ∀ p ∈ t.flat,p.Valid ∧ p.kind ≠ 16:=by
 intro p hp
 unfold Ty.flat at hp
 split at hp
 ·rename_i hk
  revert hk hp
  cases h with
  | un ps hl hk' hs hg hpv => intro _ hp;exact ⟨hpv p hp,(hk' p hp).1⟩
  | basic => intro h;exact absurd h (by simp only [Ty.kind];omega)
  | num => intro h;exact absurd h (by simp only [Ty.kind];omega)
  | str => intro h;exact absurd h (by simp only [Ty.kind];omega)
  | arr => intro h;exact absurd h (by simp only [Ty.kind];omega)
  | obj => intro h;exact absurd h (by simp only [Ty.kind];omega)
  | fn => intro h;exact absurd h (by simp only [Ty.kind];omega)
  | ref => intro h;exact absurd h (by simp only [Ty.kind];omega)
  | named hk => intro h;exact absurd h (by simp only [Ty.kind];omega)
  | case => intro h;exact absurd h (by simp only [Ty.kind];omega)
 ·rename_i hk
  cases List.mem_singleton.1 hp
  exact ⟨h,hk⟩
theorem jog {t : Ty} (h : Sm t) : ∀ p ∈ t.flat,Sm p:=by
 intro p hp
 unfold Ty.flat at hp
 split at hp
 ·exact h.of_part hp
 ·cases List.mem_singleton.1 hp
  exact h
theorem jdW (t : Ty) : t.canon.flat = t.flat.map Ty.canon:=by
 unfold Ty.flat
 rw [Ty.canon_kind]
 split
 ·exact Ty.canon_parts t
 ·rfl
theorem jf7 (t : Ty) : t.flat.length ≤ t.nodes:=by
 unfold Ty.flat
 split
 ·cases t with
  | mk k n nm ps ns ms =>
    rw [Ty.nodes_mk]
    have:=Ty.parts_nodes ps
    show ps.length ≤ _
    omega
 ·have:=t.nodes_pos
  simpa using this
theorem jhS {t : Ty} (h : t.Valid) (hk : t.kind = 16) : t.parts ≠ []:=by
 revert hk
 cases h with
 | un ps hl => intro _ e;simp only [Ty.parts] at e;subst e;simp at hl
 | basic => intro h;exact absurd h (by simp only [Ty.kind];omega)
 | num => intro h;exact absurd h (by simp only [Ty.kind];omega)
 | str => intro h;exact absurd h (by simp only [Ty.kind];omega)
 | arr => intro h;exact absurd h (by simp only [Ty.kind];omega)
 | obj => intro h;exact absurd h (by simp only [Ty.kind];omega)
 | fn => intro h;exact absurd h (by simp only [Ty.kind];omega)
 | ref => intro h;exact absurd h (by simp only [Ty.kind];omega)
 | named hk => intro h;exact absurd h (by simp only [Ty.kind];omega)
 | case => intro h;exact absurd h (by simp only [Ty.kind];omega)
theorem jej {t : Ty} (h : t.Valid) (hs : Sm t) : jaL t:=jm2 jh3 h hs
theorem jiF {t : Ty} (h : t.Valid) (hs : Sm t) : jgB t:=jkC jh3 h hs
theorem jj5 {N : Nat → Prop} {B : Nat} {tr : Nat → Ty} {w : World} (htr : ∀ b t,TyAt N B w b t → tr b = t) : ∀ (bs : List Nat) (ts : List Ty),bs.length = ts.length → (∀ (j b : Nat) (t : Ty),bs[j]? = some b → ts[j]? = some t → TyAt N B w b t) → (∀ t ∈ ts,t.Valid) →
  ∃ G : List (Nat × List Nat),G.map (·.1) = bs ∧ (∀ x ∈ G,FlatIn N B tr w x ∧ tr x.1 ∈ ts) ∧ G.map (fun x => tr x.1) = ts
 | [],[],_,_,_ => ⟨[],rfl,(fun x hx => by cases hx),rfl⟩
 | [],t :: ts,h,_,_ => by simp at h
 | b :: bs,[],h,_,_ => by simp at h
 | b :: bs,t :: ts,h,ht,hv => by
   obtain ⟨G,h1,h2,h3⟩:=jj5 htr bs ts (by simpa using h) (fun j c u h1 h2 => ht (j + 1) c u (by simpa using h1) (by simpa using h2)) (fun u hu => hv u (by simp [hu]))
   have hbt:=ht 0 b t rfl rfl
   obtain ⟨qs,hq⟩:=FlatIn.of htr hbt fun hk => jhS (hv t (by simp)) hk
   have e:=htr b t hbt
   exact ⟨(b,qs) :: G,by simp [h1],(fun x hx => by
    rcases List.mem_cons.1 hx with rfl | hx
    ·exact ⟨hq,by show tr b ∈ _;rw [e];simp⟩
    ·exact ⟨(h2 x hx).1,List.mem_cons_of_mem _ (h2 x hx).2⟩),by simp [h3,e]⟩
theorem jjq (N : Nat → Prop) (B : Nat) (sa : Option Addr) (cap : Nat) (bs : List Nat) (ts : List Ty) (w : World) (hrow : RowOf TpT (fun _ => True) w (.slice sa bs.length cap) (bs.map ptrV)) (hl : bs.length = ts.length)
  (hty : ∀ (j b : Nat) (t : Ty),bs[j]? = some b → ts[j]? = some t → TyAt N B w b t) (hf : Fit ts) (hB : B ≤ w.heap.size) (hG : Glob w) (hN : Open N w) :
  Calls Tryz.prog 55 #[.slice sa bs.length cap] w (DoR N B w (jal (ts.map Ty.canon))):=by
 have htr : ∀ b t,TyAt (fun x => N x ∧ x < w.heap.size) B w b t → trOf (fun x => N x ∧ x < w.heap.size) B w b = t:=fun b t h => jnF h
 obtain ⟨G,h1,h2,h3⟩:=jj5 htr bs ts hl (fun j b t q1 q2 => (hty j b t q1 q2).there) hf.valid
 have hGl : G.length = bs.length:=by rw [← h1,List.length_map]
 have hr : G.map (fun x => ptrV x.1) = bs.map ptrV:=by rw [← h1,List.map_map];rfl
 have hflat : (G.flatMap (·.2)).map (trOf (fun x => N x ∧ x < w.heap.size) B w) = ts.flatMap Ty.flat:=by
  rw [List.map_flatMap, ← h3,List.flatMap_map]
  have key : ∀ L : List (Nat × List Nat),(∀ x ∈ L,FlatIn (fun x => N x ∧ x < w.heap.size) B (trOf (fun x => N x ∧ x < w.heap.size) B w) w x) → L.flatMap (fun x => x.2.map (trOf (fun x => N x ∧ x < w.heap.size) B w)) = L.flatMap fun x => (trOf (fun x => N x ∧ x < w.heap.size) B w x.1).flat:=by
   intro L hL
   induction L with
   | nil => rfl
   | cons x r ih =>
     rw [List.flatMap_cons,List.flatMap_cons,ih fun y hy => hL y (by simp [hy]),(hL x (by simp)).flat]
  exact key G fun x hx => (h2 x hx).1
 have hlen2 : ∀ L : List Ty,(L.flatMap Ty.flat).length ≤ (L.map Ty.nodes).sum:=by
  intro L
  induction L with
  | nil => simp
  | cons t r ih =>
    have:=jf7 t
    simp only [List.flatMap_cons,List.length_append,List.map_cons,List.sum_cons]
    omega
 have hfl : (G.flatMap (·.2)).length ≤ 100000:=by
  have e:=congrArg List.length hflat
  rw [List.length_map] at e
  rw [e]
  have:=hlen2 ts
  have:=hf.nodes
  omega
 have hu:=jku G (trOf (fun x => N x ∧ x < w.heap.size) B w) (fun x => N x ∧ x < w.heap.size) B sa cap w (by rw [hGl,hr];exact hrow) (by rw [hGl,hl];exact hf.len) (fun x hx => ⟨(h2 x hx).1,by
  have e:=congrArg List.length (h2 x hx).1.flat
  rw [List.length_map] at e
  rw [e]
  have:=jf7 (trOf (fun x => N x ∧ x < w.heap.size) B w x.1)
  have:=(hf.sm (h2 x hx).2).nodes
  omega⟩) hfl hB hG (fun x hx => hx.2) (fun q hq => by
  obtain ⟨x,hx,hqx⟩:=List.mem_flatMap.1 hq
  have hm : trOf (fun x => N x ∧ x < w.heap.size) B w q ∈ (trOf (fun x => N x ∧ x < w.heap.size) B w x.1).flat:=by
   rw [← (h2 x hx).1.flat]
   exact List.mem_map_of_mem hqx
  obtain ⟨v1,v2⟩:=jjZ (hf.valid _ (h2 x hx).2) _ hm
  have s1:=jog (hf.sm (h2 x hx).2) _ hm
  exact ⟨(h2 x hx).1.tys q hqx,v1,v2,s1,jej v1 s1,fun e he => jej (v1.parts e he) (s1.of_part he)⟩)
 rw [hGl] at hu
 refine hu.mono ?_
 rintro e w' ⟨c,u,rfl,q1,q2,q3,q4⟩
 refine ⟨c,u,rfl,q1.weaken fun x hx _ => ?_,q2,?_,q4⟩
 ·rcases hx with hx | hx
  ·exact hx.1
  ·exact hN x hx
 ·rw [q3]
  unfold jal
  congr 1
  have : (G.flatMap (·.2)).map (fun q => (trOf (fun x => N x ∧ x < w.heap.size) B w q).canon) = (ts.flatMap Ty.flat).map Ty.canon:=by
   rw [← hflat,List.map_map]
   rfl
  rw [this,List.map_flatMap,List.flatMap_map]
  congr 1
  funext t
  exact (jdW t).symm
theorem jg0 (dv : Value) (A n tcap : Nat) (ta : Option Addr) (mv : Value) (z : Nat) (hz : z < n) (w : World) (hA : w.heap[A]? = some (.cells #[.slice ta n tcap,mv,dv] ArT (0,0))) :
  Calls Tryz.prog 60 #[.pointer (some ⟨A,0,none⟩), .int .i64 z] w fun e w' => e = .returned (.bool true) ∧ Up w w':=by
 have a0:=ja1 hA 0
 have a4:=ja0 hA
 simp only [gQa,gQz,gQs] at a0
 have hzi : (z : Int) < n:=by omega
 clear hA
 go_enter Tryz.func60,Tryz.ntmps60
 go_wp2_with fail
 (try go_quiet (fail))
 (try go_wp2_with fail)
 go_ret
 exact ⟨rfl,uq⟩
set_option maxRecDepth 100000
set_option maxHeartbeats 3200000
theorem jnw (dv : Value) (A : Nat) (tv mv : Value) (bs zs : List Nat) (a : Option Addr) (cap : Nat) (w : World) (hA : w.heap[A]? = some (.cells #[tv,mv,dv] ArT (0,0))) (hrow : w.ownsRow 0 TpT 1 tv bs.length (bs.map ptrV))
  (hz : ∀ (j z : Nat),zs[j]? = some z → ∃ b off,a = some ⟨b,off,none⟩ ∧ b < w.heap.size ∧ w.cell? ⟨b,off + j,none⟩ = some (.int .i64 z)) (hr : ∀ z ∈ zs,z < bs.length) (hf : zs.length ≤ 1000000) :
  Calls Tryz.prog 53 #[.pointer (some ⟨A,0,none⟩), .slice a zs.length cap] w fun e w' => ∃ v,e = .returned (.tuple #[v, .bool true]) ∧ w'.ownsRow 0 TpT 1 v zs.length (zs.map fun z => ptrV (bs.getD z 0)) ∧ (∀ g,v.ownBlock = some g → w.heap.size ≤ g) ∧ Up w w':=by
 obtain ⟨ta,tcap,rfl⟩:=ja7 hrow
 have HA:=Lib.hid hA
 have HZ:=Lib.hid hz
 have HR:=Lib.hid hr
 have HW:=Lib.hid hrow
 clear hA hz hr hrow
 go_enter Tryz.func53,Tryz.ntmps53
 go_wp2_with fail
 go_loopw [6,11] (fun v i wr => ∃ j : Nat,j ≤ zs.length ∧ i = .int .i64 j ∧ wr.ownsRow 0 TpT 1 v j ((zs.take j).map fun z => ptrV (bs.getD z 0)) ∧ (∀ g,v.ownBlock = some g → w.heap.size ≤ g) ∧ Up w wr) (fun _ i _ => zs.length - (intOf i).toNat)
 case atStart => exact ⟨0,Nat.zero_le _,rfl,(show w.ownsRow 0 TpT 1 (.slice none 0 0) 0 [] from ⟨rfl, .inl ⟨rfl,rfl⟩⟩),(fun g hg => by simp [Value.ownBlock] at hg),uq⟩
 case round =>
  obtain ⟨j,hj,rfl,hv,hvb,hup⟩:=hrel
  by_cases hlt : j < zs.length
  ·have hji : (j : Int) < zs.length:=by omega
   obtain ⟨z,hzj⟩ : ∃ z,zs[j]? = some z:=⟨_,List.getElem?_eq_getElem hlt⟩
   obtain ⟨b,off,rfl,hbl,hc⟩:=HZ.out j z hzj
   have hzl:=HR.out z (List.mem_of_getElem? hzj)
   have y0:=(hup.cells _ _ hbl).trans hc
   obtain ⟨va,vcap,rfl⟩:=ja7 hv
   have HV:=Lib.hid (And.intro hv hvb)
   have HH:=Lib.hid (hup.get HA.out)
   have a0:=ja1 HH.out 0
   have a4:=ja0 HH.out
   simp only [gQa,gQz,gQs] at a0
   obtain ⟨tg,rfl,htg,hpt⟩ : ∃ tg,ta = some ⟨tg,0,none⟩ ∧ tg < wr.heap.size ∧ wr.cell? ⟨tg,z,none⟩ = some (ptrV (bs.getD z 0)):=by
    rcases HW.out.2 with ⟨_,h0⟩ | ⟨g,cap',cur,hv',_,hg,_⟩
    ·omega
    ·cases hv'
     have hl:=ja0 hg
     refine ⟨g,rfl,Nat.lt_of_lt_of_le hl hup.size,(hup.cells _ _ hl).trans ?_⟩
     have q:=HW.out.cells (g:=g) rfl z (ptrV (bs.getD z 0)) (by simp [List.getD,List.getElem?_eq_getElem hzl])
     rw [Addr.add_lit] at q
     simpa using q
   have hpt : wr.cell? ⟨tg,z,none⟩ = some (.pointer (some ⟨bs.getD z 0,0,none⟩)):=hpt
   obtain ⟨p,hp⟩ : ∃ p,Hid (bs.getD z 0 = p):=⟨_,rfl⟩
   rw [hp.out] at hpt
   have hzi : (z : Int) < bs.length:=by omega
   have HNX : Hid ((zs.take (j + 1)).map (fun z => ptrV (bs.getD z 0)) = (zs.take j).map (fun z => ptrV (bs.getD z 0)) ++ [.pointer (some ⟨p,0,none⟩)]):=by
    unfold Hid
    rw [List.take_add_one,hzj,List.map_append, ← hp.out]
    rfl
   obtain ⟨i0,hi,hz0,hz1,hz2⟩:=info_parts jcN
   clear hzj hc hv hvb
   go_wp2_with (first | (go_at_call 60;refine (jg0 dv A bs.length tcap _ _ z hzl _ (Up.get (w:=wr) uq HH.out)).mono ?_;rintro e w2 ⟨rfl,hu2⟩;have hh:=hu2.get HH.out;have a0:=ja1 hh 0;have a4:=ja0 hh;simp only [gQa,gQz,gQs] at a0;have hpt:=(hu2.cells _ _ htg).trans hpt;clear hh) | (at_builtin;go_must (refine jae rfl _ _ 99 rfl TpT i0 (.pointer none) 1 8 Tryz.underlying99 hi hz0 hz1 hz2 rfl (by decide) (.slice va j vcap) j ((zs.take j).map fun z => ptrV (bs.getD z 0)) rfl (ja5 HV.out.1 uq) _ 1 1 rfl (by first | rfl | (simp;done) | omega) rfl (by intro u hu;have hu2 : u = .pointer (some ⟨p,0,none⟩):=(by simpa using hu);rw [hu2];rfl) (by unfold maxLen;omega) (by omega) ?_;intro sa' cap' w7 hown' hgrow hblk;have HY:=Lib.hid (And.intro hown' (And.intro hgrow hblk));clear hown' hgrow hblk)))
   refine ⟨⟨j + 1,by omega,by simp,by rw [HNX.out];exact HY.out.1,fun g hg => ?_,?_⟩,by simp [intOf];omega⟩
   ·rcases HY.out.2.2 with q | ⟨g',q,q2⟩
    ·exact HV.out.2 g (by rw [← q];exact hg)
    ·rw [q] at hg
     cases hg
     have:=hup.size
     have:=hu2.size
     omega
   ·refine Up.grown (W:=_) ?_ HY.out.2.1 (fun r e => HV.out.2 r e)
    exact uq
  ·obtain rfl : j = zs.length:=by omega
   rw [List.take_length] at hv
   clear hlt
   go_wp2_with fail
   refine bodyPost_ret (v := .tuple #[_, .bool true]) (by simp [results,Tryz.results53,go_sem];rfl) rfl ?_
   exact ⟨_,rfl,hv,hvb,uq⟩
theorem Memo.less {S T : Nat → Prop} {B : Nat} {w w' : World} (h : Memo T B w w') (hs : ∀ x,T x → S x ∨ w.heap.size ≤ x) : Memo S B w w' :=
 { h with
   obj:=fun b o h1 h2 h3 => h.obj b o h1 h2 (fun q => (hs b q).elim h3 fun e => by have:=ja0 h1;omega)
   ty:=fun N b t h1 h2 => (h.ty _ b t (fun x hx q => (hs x q).elim (h1 x hx.1) fun e => by have:=hx.2;omega) h2.there).weaken fun _ q _ => q.1 }
def arS (A : Nat) (tv mv : Value) : Nat → Prop:=fun x => x = A ∨ tv.ownBlock = some x ∨ mv = .map (some x)
theorem jnG {t : Ty} (h : t.Valid) : (t.text.toList == []) = false:=by
 obtain ⟨c,r,e,_⟩:=jdg h
 rw [ByteArray.toList_eq]
 have : t.text.data.toList = c :: r:=e
 rw [this]
 rfl
theorem jgb {t : Ty} (h : t.Valid) : t.text ≠ ⟨#[]⟩:=fun e => by
 have:=jnG h
 rw [e] at this
 exact absurd this (by decide +kernel)
structure Asked (N : Nat → Prop) (B : Nat) (w : World) (b : Nat) (t : Ty) : Prop where
 self : w.cell? ⟨b,7,none⟩ = some (.string t.text)
 ne : t.text ≠ ⟨#[]⟩
 parts : ∃ (pv : Value) (qs : List Nat),w.cell? ⟨b,3,none⟩ = some pv ∧ RowOf TpT N w pv (qs.map ptrV) ∧ qs.length = t.parts.length ∧ ∀ (j q : Nat) (p : Ty),qs[j]? = some q → t.parts[j]? = some p → TyAt N B w q p ∧ w.cell? ⟨q,7,none⟩ = some (.string p.text) ∧ p.text ≠ ⟨#[]⟩
theorem Memo.toldT {S N : Nat → Prop} {B B' : Nat} {w w' : World} (k : Memo S B w w') {b : Nat} {t : Ty} (ht : TyAt N B' w b t) (h : w.cell? ⟨b,7,none⟩ = some (.string t.text)) (hne : t.text ≠ ⟨#[]⟩) : w'.cell? ⟨b,7,none⟩ = some (.string t.text):=by
 obtain ⟨cs,hb⟩:=ht.blk
 exact k.told hb h hne
theorem Asked.keepM {N S : Nat → Prop} {B : Nat} {w w' : World} {b : Nat} {t : Ty} (h : Asked N B w b t) (ht : TyAt N B w b t) (k : Memo S B w w') (hN : ∀ x,N x → ¬ S x) : Asked N B w' b t:=by
 obtain ⟨pv,qs,h1,h2,h3,h4⟩:=h.parts
 obtain ⟨cs,hb⟩:=ht.blk
 refine ⟨k.toldT ht h.self h.ne,h.ne,pv,qs,(k.cell hb (by decide)).trans h1,h2.keep fun g cs fz q1 q2 => ⟨q1,k.cells q2 (by decide) (hN g q1)⟩,h3,fun j q p hj hp => ?_⟩
 obtain ⟨q1,q2,q3⟩:=h4 j q p hj hp
 exact ⟨k.ty N q p hN q1,k.toldT q1 q2 q3,q3⟩
theorem Asked.weaken {N N' : Nat → Prop} {B : Nat} {w : World} {b : Nat} {t : Ty} (h : Asked N B w b t) (hN : ∀ g,N g → g < w.heap.size → N' g) : Asked N' B w b t:=by
 obtain ⟨pv,qs,h1,h2,h3,h4⟩:=h.parts
 exact ⟨h.self,h.ne,pv,qs,h1,h2.keep fun g cs fz q1 q2 => ⟨hN g q1 (ja0 q2),q2⟩,h3,fun j q p hj hp => by
  obtain ⟨q1,q2,q3⟩:=h4 j q p hj hp
  exact ⟨q1.weaken hN,q2,q3⟩⟩
theorem Asked.there {N : Nat → Prop} {B : Nat} {w : World} {b : Nat} {t : Ty} (h : Asked N B w b t) : Asked (fun g => N g ∧ g < w.heap.size) B w b t:=h.weaken fun _ h1 h2 => ⟨h1,h2⟩
structure Are (w : World) (B A : Nat) (bs : List Nat) (ts : List Ty) (tv mv dv : Value) : Prop where
 base : B ≤ A
 head : w.heap[A]? = some (.cells #[tv,mv,dv] ArT (0,0))
 row : w.ownsRow 0 TpT 1 tv bs.length (bs.map ptrV)
 rowB : ∀ g,tv.ownBlock = some g → B ≤ g
 ids : (mv = .map none ∧ ts = []) ∨ ∃ g es clk,mv = .map (some g) ∧ B ≤ g ∧ w.heap[g]? = some (.map es clk) ∧ Entries es Value.string numV ((ts.map Ty.text).zipIdx)
 len : ts.length = bs.length
 nodup : (ts.map Ty.text).Nodup
 ty : ∀ (i b : Nat) (t : Ty),bs[i]? = some b → ts[i]? = some t → TyAt (fun x => ¬ arS A tv mv x) B w b t
 asked : ∀ (i b : Nat) (t : Ty),bs[i]? = some b → ts[i]? = some t → Asked (fun x => ¬ arS A tv mv x) B w b t
 good : ∀ t ∈ ts,t.Valid ∧ t.nodes ≤ 500 ∧ t.namesLe 2000000
 closed : ∀ t ∈ ts,∀ p ∈ t.parts,∃ u ∈ ts,u.text = p.text
theorem Are.memo {w w' : World} {B A : Nat} {bs : List Nat} {ts : List Ty} {tv mv dv : Value} (h : Are w B A bs ts tv mv dv) (k : Memo jag B w w') : Are w' B A bs ts tv mv dv where
 base:=h.base
 head:=k.cells h.head (by decide) (fun e => e)
 row:=jaD h.row (by decide) k
 rowB:=h.rowB
 ids:=h.ids.imp id fun ⟨g,es,clk,h1,h2,h3,h4⟩ => ⟨g,es,clk,h1,h2,k.obj _ _ h3 (fun _ _ e => by cases e) (fun e => e),h4⟩
 len:=h.len
 nodup:=h.nodup
 ty i b t h1 h2:=(h.ty i b t h1 h2).memo k
 asked i b t h1 h2:=(h.asked i b t h1 h2).keepM (h.ty i b t h1 h2) k (fun _ _ e => e)
 good:=h.good
 closed:=h.closed
theorem Are.up {w w' : World} {B A : Nat} {bs : List Nat} {ts : List Ty} {tv mv dv : Value} (h : Are w B A bs ts tv mv dv) (k : Up w w') : Are w' B A bs ts tv mv dv:=h.memo (Memo.of_up _ _ k)
theorem Are.lt {w : World} {B A : Nat} {bs : List Nat} {ts : List Ty} {tv mv dv : Value} (h : Are w B A bs ts tv mv dv) : B ≤ w.heap.size:=Nat.le_trans h.base (Nat.le_of_lt (ja0 h.head))
structure LayM (B A : Nat) (tv mv : Value) (w w' : World) (tv' mv' : Value) : Prop where
 memo : Memo (arS A tv mv) B w w'
 own : ∀ x,arS A tv' mv' x → arS A tv mv x ∨ w.heap.size ≤ x
 ids : ∀ g,mv = .map (some g) → mv' = .map (some g)
theorem LayM.refl (B A : Nat) (tv mv : Value) (w : World) : LayM B A tv mv w w tv mv:=⟨Memo.refl _ _ _,fun _ h => .inl h,fun _ h => h⟩
theorem LayM.trans {B A : Nat} {tv mv tv' mv' tv2 mv2 : Value} {a b c : World} (h : LayM B A tv mv a b tv' mv') (k : LayM B A tv' mv' b c tv2 mv2) : LayM B A tv mv a c tv2 mv2 where
 memo:=((h.memo.mono (T:=fun x => arS A tv mv x ∨ a.heap.size ≤ x) fun _ e => .inl e).trans (k.memo.mono h.own)).less fun _ e => e
 own x hx:=by
  rcases k.own x hx with q | q
  ·exact h.own x q
  ·exact .inr (Nat.le_trans h.memo.size q)
 ids g e:=k.ids g (h.ids g e)
theorem LayM.of_memo {B A : Nat} {tv mv : Value} {w w' : World} (h : Memo jag B w w') : LayM B A tv mv w w' tv mv:=⟨h.mono fun _ e => e.elim,fun _ h => .inl h,fun _ h => h⟩
theorem LayM.ty {B A : Nat} {tv mv tv' mv' : Value} {w w' : World} (h : LayM B A tv mv w w' tv' mv') {b : Nat} {t : Ty} (ht : TyAt (fun x => ¬ arS A tv mv x) B w b t) : TyAt (fun x => ¬ arS A tv' mv' x) B w' b t :=
 (h.memo.ty _ b t (fun x hx => hx.1) ht.there).weaken fun x hx _ q => (h.own x q).elim hx.1 fun e => by have:=hx.2;omega
theorem LayM.row {B A : Nat} {tv mv tv' mv' : Value} {w w' : World} (h : LayM B A tv mv w w' tv' mv') {T : TypeId} (hT : T ≠ TyT) {v : Value} {us : List Value} (hr : RowOf T (fun x => ¬ arS A tv mv x) w v us) : RowOf T (fun x => ¬ arS A tv' mv' x) w' v us :=
 hr.keep fun g cs fz h1 h2 => ⟨fun q => (h.own g q).elim h1 fun e => by have:=ja0 h2;omega,h.memo.cells h2 hT h1⟩
theorem LayM.asked {B A : Nat} {tv mv tv' mv' : Value} {w w' : World} (h : LayM B A tv mv w w' tv' mv') {b : Nat} {t : Ty} (ha : Asked (fun x => ¬ arS A tv mv x) B w b t) (ht : TyAt (fun x => ¬ arS A tv mv x) B w b t) : Asked (fun x => ¬ arS A tv' mv' x) B w' b t :=
 (ha.there.keepM ht.there h.memo (fun x hx => hx.1)).weaken fun x hx _ q => (h.own x q).elim hx.1 fun e => by have:=hx.2;omega
theorem LayM.glob {B A : Nat} {tv mv tv' mv' : Value} {w w' : World} (h : LayM B A tv mv w w' tv' mv') (hg : Glob w) (hS : ∀ x,arS A tv mv x → x < w.heap.size → ∃ cs f,w.heap[x]? = some (.cells cs TpT f)) : Glob w':=hg.memoS h.memo hS
end Go.Proofs.YtiaepldmgighbaaGreatDoor
