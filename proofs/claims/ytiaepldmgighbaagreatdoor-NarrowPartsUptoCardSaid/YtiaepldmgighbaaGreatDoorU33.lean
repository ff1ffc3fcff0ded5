import Derived.Shelf.RegionOpen
import Derived.Test.YtiaepldmgighbaaGreatDoorU32
namespace Go.Proofs.YtiaepldmgighbaaGreatDoor
open Go.RowKit
set_option linter.unusedSimpArgs false
attribute [local go_sem] Oper.semAt_some
theorem enC_le (tr : Nat → Ty) (xs : List Nat) (s : ByteArray) : enC tr xs s ≤ xs.length:=by
 have h1:=List.count_le_length (a:=tb s) (l:=(xs.filter fun x => decide ((tr x).kind = 19)).map fun x => tb (tr x).text)
 have h3:=List.length_filter_le (fun x => decide ((tr x).kind = 19)) xs
 unfold enC
 rw [List.length_map] at h1
 omega
def jlP (N : Nat → Prop) (B : Nat) (w : World) (F : List Ty) (e : Ending) (w' : World) : Prop := ∃ c u,e = .returned (.pointer (some ⟨c,0,none⟩)) ∧ TyAt (fun x => N x ∨ w.heap.size ≤ x) B w' c u ∧ u.Valid ∧ u.canon = jaR F ∧ Memo jag B w w'
def flB (G : List (Nat × List Nat)) (j : Nat) : List Nat:=(G.take j).flatMap (·.2)
set_option maxRecDepth 100000
set_option maxHeartbeats 8000000
theorem jku (G : List (Nat × List Nat)) (tr : Nat → Ty) (N : Nat → Prop) (B : Nat) (sa : Option Addr) (cap : Nat) (w : World) (hrow : RowOf TpT (fun _ => True) w (.slice sa G.length cap) (G.map fun x => ptrV x.1)) (hlen : G.length ≤ 1000) (hall : ∀ x ∈ G,FlatIn N B tr w x ∧ x.2.length ≤ 100000) (hsum : (G.flatMap (·.2)).length ≤ 100000)
  (hBw : B ≤ w.heap.size) (hG : Glob w) (hN : ∀ x,N x → x < w.heap.size) (hT : ∀ q ∈ G.flatMap (·.2),TyAt N B w q (tr q) ∧ (tr q).Valid ∧ (tr q).kind ≠ 16 ∧ Sm (tr q) ∧ jaL (tr q) ∧ ∀ e ∈ (tr q).parts,jaL e) :
  Calls Tryz.prog 55 #[.slice sa G.length cap] w (jlP N B w ((G.flatMap (·.2)).map fun q => (tr q).canon)):=by
 refine callsIn_wide.1 (callsIn_of_wp_marks (n:=2) Tryz.func55 rfl trivial ?_)
 refine wpIn_wide.2 ?_
 simp only [Tryz.ntmps55,List.size_toArray,List.length_cons,List.length_nil,Nat.reduceAdd,Nat.reduceSub,Array.replicate_succ,Array.replicate_zero,List.push_toArray,List.append_toArray,List.nil_append,List.cons_append]
 have HI:=Lib.hid (And.intro hall (And.intro hBw (And.intro hN hG)))
 have HR:=Lib.hid hrow
 have HT:=Lib.hid (And.intro hT hsum)
 have hmm:=@run_makeMap Tryz.prog
 go_wp2_with fail
 refine ja4 fun A W hA hW => ?_
 have hU : UJ tr B w (fun _ => False) w.heap.size (w.heap.size + 1) (w.heap.size + 2) (w.heap.size + 3) (w.heap.size + 4) [] [] [] W:=by
  subst hW
  refine ⟨Memo.of_up _ _ uq,?_,⟨#[],0,[],?_,rfl,List.nodup_nil,fun _ => rfl⟩,?_,⟨#[],0,[],?_,rfl,List.nodup_nil,fun _ => rfl⟩, .slice none 0 0,jaa _ _ _ (by simp <;> omega),(show World.ownsRow _ 0 TpT 1 (.slice none 0 0) 0 [] from ⟨rfl, .inl ⟨rfl,rfl⟩⟩),fun g hg => by simp [Value.ownBlock] at hg⟩
  ·exact (jao _ _ _ (by simp <;> omega)).trans ((jao _ _ _ (by simp <;> omega)).trans ((jao _ _ _ (by simp <;> omega)).trans (jaa _ _ _ (by simp <;> omega))))
  ·exact (jao _ _ _ (by simp <;> omega)).trans ((jao _ _ _ (by simp <;> omega)).trans ((jao _ _ _ (by simp <;> omega)).trans ((jao _ _ _ (by simp <;> omega)).trans (ja9 _ _))))
  ·exact (jao _ _ _ (by simp <;> omega)).trans (jaa _ _ _ (by simp <;> omega))
  ·exact (jao _ _ _ (by simp <;> omega)).trans ((jao _ _ _ (by simp <;> omega)).trans (jaa _ _ _ (by simp <;> omega)))
 have HL : Hid (UL w w.heap.size (w.heap.size + 1) (w.heap.size + 2) (w.heap.size + 3) (w.heap.size + 4)):=⟨by omega,by omega,by omega,by omega⟩
 clear hW hmm hrow hall hsum hBw hG hN hT
 refine wp_loop (fun a' wr => ∃ (u7 u18 u19 u20 u21 u22 u45 : Value) (j : Nat) (Ds : List Nat),(j ≤ G.length ∧ UJ tr B w (fun _ => False) w.heap.size (w.heap.size + 1) (w.heap.size + 2) (w.heap.size + 3) (w.heap.size + 4) (flB G j) (flB G j) (flB G j) wr ∧ Marks w.heap.size Ds wr) ∧
  a' = { tmps:=jn9 (.slice sa G.length cap) (.pointer (some ⟨w.heap.size + 1,0,none⟩)) (.pointer (some ⟨w.heap.size + 3,0,none⟩)) (.pointer (some ⟨w.heap.size + 4,0,none⟩)) (.map (some w.heap.size)) (.map (some (w.heap.size + 2))) (.int .i64 G.length) (.int .i64 j) u7 u18 u19 u20 u21 u22 u45,defers:=Ds.map jnl }) (fun a' _ => G.length - (intOf (a'.tmps.getD 17 undef)).toNat) ⟨_,_,_,_,_,_,_,0,[],⟨Nat.zero_le _,hU,Marks.none _ _⟩,hA⟩ ?_
 clear hU hA
 rintro _ wr ⟨u7,u18,u19,u20,u21,u22,u45,j,Ds,⟨hj,hI,hM⟩,rfl⟩
 obtain ⟨ds,hds0⟩ : ∃ ds,flB G j = ds:=⟨_,rfl⟩
 rw [hds0] at hI
 have hds : ds = (G.take j).flatMap (·.2):=hds0.symm
 clear hds0
 simp only [jn9]
 by_cases hlt : j < G.length
 ·have hji : (j : Int) < G.length:=by omega
  obtain ⟨⟨x,qs⟩,hx⟩ : ∃ x,G[j]? = some x:=⟨_,List.getElem?_eq_getElem hlt⟩
  obtain ⟨hfl,hql⟩:=HI.out.1 (x,qs) (List.mem_of_getElem? hx)
  obtain ⟨ga,gcap,he,_,_,hrc⟩:=HR.out.memo (by decide) hI.memo
  injection he with he1 he2 he3
  subst he1 he3
  obtain ⟨g,off,cs,fz,e1,_,hgc,hcx⟩:=hrc j (ptrV x) (by rw [List.getElem?_map,hx];rfl)
  subst e1
  have y0 : wr.cell? ⟨g,off + j,none⟩ = some (.pointer (some ⟨x,0,none⟩)):=(ja1 hgc _).trans hcx
  have HF:=Lib.hid (And.intro hfl hql)
  have HJ:=Lib.hid (And.intro hI hM)
  have HX:=Lib.hid (And.intro hx hds)
  have gl:=ja0 hgc
  clear hI hM hx hfl hql hlt hrc hgc hcx hds he2
  go_wp2_with (first | (go_at_call 91;refine (jol N B tr (x,qs) _ (HF.out.1.memo (HJ.out.1.memo.up uq))).mono ?_;rintro e w2 ⟨tb,g2,rfl,hsq,htb,hg2,hu2⟩))
  refine ja4 fun A2 W2 hA2 hW2 => ?_
  subst hW2
  have hus:=hu2.size
  have hDs : ∀ D ∈ Ds,D < W2.heap.size:=fun D hD => Nat.lt_of_lt_of_le (ja0 (HJ.out.2.at_ D hD).2) hus
  have hwl:=HJ.out.1.memo.size
  have hm3:=HJ.out.1.c3.lt
  have hm4:=HJ.out.1.c4.lt
  have hn5 : w.heap.size + 4 < wr.heap.size:=by
   obtain ⟨v,q,_⟩:=HJ.out.1.row
   exact ja0 q
  have hg2' : g2 < w.heap.size ∨ wr.heap.size ≤ g2:=hg2.imp (HI.out.2.2.1 g2) id
  have HI2 : Hid (UJ tr B w (fun z => z = tb ∨ z = g2) w.heap.size (w.heap.size + 1) (w.heap.size + 2) (w.heap.size + 3) (w.heap.size + 4) ds ds ds W2 ∧ Marks w.heap.size Ds W2):=by
   refine ⟨UJ.on (HJ.out.1.weaken fun g' h1 hg' e => ?_) (Memo.of_up _ _ hu2),HJ.out.2.up hu2⟩
   omega
  have HSQ:=Lib.hid hsq
  have htg : Hid ((∃ cs f,W2.heap[tb]? = some (.cells cs SlT f)) ∧ ∃ cs f,W2.heap[g2]? = some (.cells cs TpT f)):=by
   obtain ⟨_,_,_,_,q1,q2,_⟩:=hsq
   exact ⟨⟨_,_,q1⟩,_,_,q2⟩
  have htl : tb < W2.heap.size ∧ g2 < W2.heap.size:=by
   obtain ⟨⟨_,_,q1⟩,_,_,q2⟩:=htg.out
   exact ⟨ja0 q1,ja0 q2⟩
  have hwW : w.heap.size ≤ W2.heap.size:=Nat.le_trans hwl hus
  clear hsq hg2
  refine (wpIn_wide (n:=2)).1 ?_
  refine wpIn_rangeFunc_ownG rfl (by omega) (gf:=jev) (lb := #[.pointer (some ⟨tb,0,none⟩)]) (by subst hA2;rfl) trivial (enters_of Tryz.func172 (by kernel_rfl) rfl)
   (jgG tb qs (by have h : qs.length ≤ 100000:=HF.out.2;omega) W2 g2 HSQ.out) TwoKeep.trans (fun W l o o' _ h1 h2 _ => TwoKeep.putObj _ W l o o' h1 h2) (Below.refl _ _) (fun _ => rfl)
   (fun (pre : List (jfj qs)) W => UJ tr B w (fun z => z = tb ∨ z = g2) w.heap.size (w.heap.size + 1) (w.heap.size + 2) (w.heap.size + 3) (w.heap.size + 4) (ds ++ pre.map (·.1)) (ds ++ pre.map (·.1)) (ds ++ pre.map (·.1)) W ∧ Marks w.heap.size Ds W ∧ W2.heap.size ≤ W.heap.size ∧ (∃ cs f,W.heap[tb]? = some (.cells cs SlT f)) ∧ ∃ cs f,W.heap[g2]? = some (.cells cs TpT f)) (fun _ _ _ => False)
   (fun s X Y row hs hg hr => ⟨UJ.grownObj hs.1 HI.out.2.1 hwW (Nat.lt_of_lt_of_le hm3 hus) (Nat.lt_of_lt_of_le hm4 hus) hg hr,Marks.own _ Ds hDs [] X Y row hs.2.1 hg hr,Nat.le_trans hs.2.2.1 hg.size,hs.2.2.2.1.imp fun _ q => q.imp fun _ q => jaI q hg hr,hs.2.2.2.2.imp fun _ q => q.imp fun _ q => jaI q hg hr⟩) (fun _ _ _ _ _ h _ _ => h) ⟨by simpa using HI2.out.1,HI2.out.2,Nat.le_refl _,htg.out⟩
   (fun (y : jfj qs) => { tmps:=(A2.tmps.setIfInBounds 23 (.pointer (some ⟨y.1,0,none⟩))).setIfInBounds 8 (.pointer (some ⟨y.1,0,none⟩)),defers := [] }) ?assign ?body ?done ?stop
  case assign => intro l y W K hK;subst hA2;gi_wp2;simpa [ptrV] using hK
  case body =>
   rintro l pre ⟨y,hy⟩ W ⟨hI,hM,hsW,htbW,hgW⟩ hpl
   have hyT : FlatIn N B tr W (x,qs):=HF.out.1.memo hI.memo
   have hyt : TyAt N B W y (tr y):=hyT.tys y hy
   have b3:=ja1 hI.b3 0
   have y0:=(View.size hyt).1
   have yl:=(View.size hyt).2
   obtain ⟨n0,hn0⟩ : ∃ n0,Hid (kdC tr (ds ++ pre.map (·.1)) (tr y).kind = n0):=⟨_,rfl⟩
   obtain ⟨ky,hky⟩ : ∃ ky,Hid ((tr y).kind = ky):=⟨_,rfl⟩
   have hlk:=CMap.look (w:=W.drew) (hI.c3.up uq) (tr y).kind
   obtain ⟨es',clk',hst,hcm⟩:=CMap.bump (w:=W.drew) (hI.c3.up uq) (tr y).kind
   rw [hn0.out] at hlk hst
   have hdl : ds.length + pre.length ≤ 200000:=by
    have h1:=HT.out.2
    have h2 : ds.length ≤ (G.flatMap (·.2)).length:=by
     rw [HX.out.2, ← List.take_append_drop j G,List.flatMap_append,List.length_append]
     have : (G.take j).take j = G.take j:=by rw [List.take_take];simp
     rw [List.take_append_drop j G]
     omega
    have h3 : qs.length ≤ 100000:=HF.out.2
    have h4 : pre.length < qs.length:=hpl
    omega
   have hn1 : (n0 : Int) < 1000000:=by
    have h1:=List.count_le_length (a:=(tr y).kind) (l:=(ds ++ pre.map (·.1)).map fun x => (tr x).kind)
    have h2:=hn0.out
    unfold kdC at h2
    rw [h2] at h1
    simp only [List.length_map,List.length_append] at h1
    omega
   have hwr:=IntWalk.i64_in ((n0 : Int) + 1) (by omega)
   simp only [gQa,gQz] at b3
   rw [hky.out] at y0 hlk hst
   have HB:=Lib.hid (And.intro hI (And.intro hM (And.intro hcm (And.intro htbW (And.intro hgW hyt)))))
   clear hI hM hcm hpl htbW hgW hyT hyt
   subst hA2
   simp only [List.setIfInBounds_toArray,List.set_cons_succ,List.set_cons_zero]
   gi_wp2
   apply jlW (W:=putB W.drew w.heap.size (.map es' clk'))
   ·gi_region
    all_goals exact ⟨rfl,rfl,rfl⟩
   rintro A3 W3 hA3 hW3
   have hK3:=UJ.kind (HB.out.1.on (Memo.of_up _ _ (show Up W W.drew from uq))) HI.out.2.1 HL.out y HB.out.2.2.1
   rw [← hW3] at hK3
   have K3:=Lib.hid hK3
   clear hW3 hst hlk hwr hK3 y0 b3 yl
   subst hA3
   by_cases hk19 : ky = 19
   ·subst hk19
    have hyG : y ∈ G.flatMap (·.2):=List.mem_flatMap.2 ⟨(x,qs),List.mem_of_getElem? HX.out.1,hy⟩
    have HTX:=Lib.hid (HT.out.1 y hyG).2.2.2.2.1
    obtain ⟨tx,htx⟩ : ∃ tx,Hid ((tr y).text = tx):=⟨_,rfl⟩
    have hyt3:=Lib.hid ((HF.out.1.memo K3.out.1.memo).tys y hy)
    have hG3:=Lib.hid (HI.out.2.2.2.memo K3.out.1.memo)
    obtain ⟨n1,hn1'⟩ : ∃ n1,Hid (enC tr (ds ++ pre.map (·.1)) tx = n1):=⟨_,rfl⟩
    have hn2 : (n1 : Int) < 1000000:=by
     have h1:=enC_le tr (ds ++ pre.map (·.1)) tx
     rw [hn1'.out] at h1
     simp only [List.length_map,List.length_append] at h1
     omega
    have hwr2:=IntWalk.i64_in ((n1 : Int) + 1) (by omega)
    have y1:=(View.size hyt3.out).1
    have yl:=(View.size hyt3.out).2
    rw [hky.out] at y1
    have e0:=ja1 K3.out.1.b4 0
    have el:=ja0 K3.out.1.b4
    simp only [gQa,gQz] at e0
    have hbump : Hid (∀ X,UJ tr B w (fun z => z = tb ∨ z = g2) w.heap.size (w.heap.size + 1) (w.heap.size + 2) (w.heap.size + 3) (w.heap.size + 4) (ds ++ pre.map (·.1) ++ [y]) (ds ++ pre.map (·.1)) (ds ++ pre.map (·.1)) X → (Instr.lookup MsT (.map (some (w.heap.size + 2))) (.string tx) false).run Tryz.prog X = .ok (.int .i64 n1) X ∧ ∃ es' clk',(Instr.mapUpdate MsT (.map (some (w.heap.size + 2))) (.string tx) (.int .i64 ((n1 : Int) + 1))).run Tryz.prog X = .ok () (putB X (w.heap.size + 2) (.map es' clk')) ∧ ∀ Y : World,Y.heap[w.heap.size + 2]? = some (.map es' clk') → SMap Y (w.heap.size + 2) (fun s => if s = (tr y).text then enC tr (ds ++ pre.map (·.1)) (tr y).text + 1 else enC tr (ds ++ pre.map (·.1)) s)):=fun X hX => by
     have q1:=hX.c4.look tx
     obtain ⟨es',clk',q2,q3⟩:=hX.c4.bump tx
     rw [hn1'.out] at q1 q2
     refine ⟨q1,es',clk',q2,fun Y hY => ?_⟩
     have q4:=q3 Y hY
     rw [htx.out]
     exact q4
    have hmix : Tryz.prog.follows .mixedOrders = true:=by kernel_rfl
    gi_wp2
    gi_region_with_o (refine ⟨trivial,rfl,?_⟩;gi_at_call 61;refine (CallsIn.inRound l (callsIn_wide.2 (HTX.out N B y _ (hyt3.out.up uq) (hG3.out.up uq)))).mono ?_;rintro e w5 ⟨rfl,hm5⟩;rw [htx.out];have M5 : Memo jag B W3 w5:=(Memo.of_up jag B (show Up W3 _ from uq)).trans hm5;have J5:=Lib.hid (And.intro (K3.out.1.on M5) M5);have e0:=ja1 J5.out.1.b4 0;have el:=ja0 J5.out.1.b4;simp only [gQa,gQz] at e0;obtain ⟨hlk5,es5,clk5,hst5,hcm5⟩:=hbump.out w5 J5.out.1;have hcm5:=Lib.hid hcm5;clear hm5 M5)
    all_goals
     obtain ⟨W4,hW4⟩ : ∃ W4,W4 = putB w5 (w.heap.size + 2) (.map es5 clk5):=⟨_,rfl⟩
     rw [← hW4]
     have hE:=UJ.enum J5.out.1 HI.out.2.1 HL.out y hky.out hcm5.out
     rw [← hW4] at hE
     have J4 : Hid (UJ tr B w (fun z => z = tb ∨ z = g2) w.heap.size (w.heap.size + 1) (w.heap.size + 2) (w.heap.size + 3) (w.heap.size + 4) (ds ++ pre.map (·.1) ++ [y]) (ds ++ pre.map (·.1) ++ [y]) (ds ++ pre.map (·.1)) W4 ∧ UF (fun x => x = w.heap.size ∨ x = w.heap.size + 2) W W4 ∧ Marks w.heap.size Ds W4):=by
      have hF : UF (fun x => x = w.heap.size ∨ x = w.heap.size + 2) W W4:=(((Memo.of_up (fun x => x = w.heap.size) B (show Up W W.drew from uq)).trans K3.out.2).uf.mono (T:=fun x => x = w.heap.size ∨ x = w.heap.size + 2) fun x e => .inl e).trans ((J5.out.2.uf.mono fun x e => e.elim).trans (hE.2.uf.mono fun x e => .inr e))
      refine ⟨hE.1,hF,HB.out.2.1.nodup,fun D hD => ⟨(HB.out.2.1.at_ D hD).1,?_⟩⟩
      have h9:=HB.out.2.1.at_ D hD
      exact hF.obj D _ h9.2 (fun _ _ e => by cases e) fun e => by
       rcases e with e | e
       ·have q:=h9.2
        obtain ⟨es,clk,q2⟩:=HB.out.1.c3.obj
        rw [e,q2] at q;cases q
       ·have q:=h9.2
        obtain ⟨es,clk,q2⟩:=HB.out.1.c4.obj
        rw [e,q2] at q;cases q
     have y1:=(View.size ((HF.out.1.memo J4.out.1.memo).tys y hy)).1
     have yl:=(View.size ((HF.out.1.memo J4.out.1.memo).tys y hy)).2
     rw [hky.out] at y1
     clear K3 hW4 hE J5 hlk5 hst5 hcm5 hbump hG3 hyt3 e0 el hwr2
     have hyt4 : TyAt N B W4 y (tr y):=(HF.out.1.memo J4.out.1.memo).tys y hy
     obtain ⟨v,hv,hrow,hown⟩:=J4.out.1.row
     obtain ⟨va,vcap,rfl⟩:=ja7 hrow
     have hd3:=Lib.hid hv
     have row3:=Lib.hid hrow
     have HZ : Hid ((Value.slice va (ds ++ pre.map (·.1)).length vcap).ownBlock ≠ some (w.heap.size + 4)):=fun e => by
      obtain ⟨cur,hc⟩:=jcu hrow _ e
      rw [hv] at hc
      injection hc with hc
      injection hc with _ hc _
      exact absurd hc (by decide)
     have a0:=ja1 hd3.out 0
     have f0:=jab hd3.out 0
     have a4:=ja0 hd3.out
     simp only [gQa,gQz,gQs] at a0
     have HRR:=Lib.hid (And.intro hv (And.intro hrow hown))
     have hmW:=J4.out.1.memo.size
     obtain ⟨nn,hnn⟩ : ∃ nn,Hid ((ds ++ pre.map (·.1)).length = nn):=⟨_,rfl⟩
     obtain ⟨vs,hvs⟩ : ∃ vs,Hid ((ds ++ pre.map (·.1)).map ptrV = vs):=⟨_,rfl⟩
     have hnb : nn ≤ 300000:=by
      have:=hnn.out
      simp only [List.length_map,List.length_append] at this
      omega
     rw [hnn.out] at a0 row3 hd3 HZ
     rw [hvs.out] at row3
     clear hv hrow hown hyt4
     obtain ⟨i0,hi,hz0,hz1,hz2⟩:=info_parts jcN
     gi_wp2_with (first | (gi_at_builtin;go_must (refine jaB rfl _ _ 99 rfl TpT i0 (.pointer none) 1 8 Tryz.underlying99 hi hz0 hz1 hz2 rfl (by decide) (.slice va nn vcap) nn vs rfl (ja5 row3.out uq) _ 1 1 rfl (by first | rfl | (simp;done) | omega) rfl (by intro u hu;have hu2 : u = .pointer (some ⟨y,0,none⟩):=(by simpa using hu);rw [hu2];rfl) (by unfold maxLen;omega) (by omega) ?_;intro sa' cap' w7 hown' hgrow hblk;have hd:=Lib.hid (jan hgrow (Up.get (w:=W4) uq hd3.out) HZ.out);have a0:=ja1 hd.out 0;have f0:=jab hd.out 0;have a4:=ja0 hd.out;simp only [gQa,gQz,gQs] at a0;have HY:=Lib.hid (And.intro hown' (And.intro hgrow hblk));clear hown' hgrow hblk)))
     obtain ⟨hv,hrow,hown⟩:=HRR.out
     have hn9:=hnn.out
     subst hn9
     have hv9:=hvs.out
     subst hv9
     have hszW:=J4.out.2.1.size
     obtain ⟨q1,q2⟩:=UJ.push J4.out.1 HI.out.2.1 HL.out (fun g' hg' e => by omega) hv rfl HY.out.1 HY.out.2.1 HY.out.2.2
     have hall : UF (fun x => x = w.heap.size ∨ x = w.heap.size + 2 ∨ x = w.heap.size + 4 ∨ (w.heap.size ≤ x ∧ ¬ (x = tb ∨ x = g2) ∧ ∃ cs f,W4.heap[x]? = some (.cells cs TpT f))) W _:=(J4.out.2.1.mono fun x hx => by
      rcases hx with hx | hx
      ·exact .inl hx
      ·exact .inr (.inl hx)).trans (q2.uf.mono fun x hx => by
      rcases hx with hx | hx
      ·exact .inr (.inr (.inl hx))
      ·exact .inr (.inr (.inr hx)))
     have hnc : ∀ (k : Nat) (o : Obj),k ≠ w.heap.size → k ≠ w.heap.size + 2 → k ≠ w.heap.size + 4 → W.heap[k]? = some o → o.isCells = false → (w7.setCell ⟨w.heap.size + 4,0,none⟩ (.slice sa' ((ds ++ pre.map (·.1)).length + 1) cap')).heap[k]? = some o:=fun k o h1 h2 h3 ho hoc =>
      hall.obj k o ho (fun cs f e => by subst e;cases hoc) fun hS => by
       rcases hS with e | e | e | ⟨_,_,cs,f,e⟩
       ·exact h1 e
       ·exact h2 e
       ·exact h3 e
       ·have q:=J4.out.2.1.obj k o ho (fun cs f e => by subst e;cases hoc) (fun hS => by
         rcases hS with e | e
         ·exact h1 e
         ·exact h2 e)
        rw [e] at q
        cases q
        cases hoc
     have hcl : ∀ (k : Nat) (cs : Array Value) (T : TypeId) (f : Nat × Nat),T ≠ TyT → (k = tb ∨ k = g2) → W.heap[k]? = some (.cells cs T f) → (w7.setCell ⟨w.heap.size + 4,0,none⟩ (.slice sa' ((ds ++ pre.map (·.1)).length + 1) cap')).heap[k]? = some (.cells cs T f):=fun k cs T f hT hk ho =>
      hall.obj k _ ho (fun cs' f' e => by injection e with _ e _;exact hT e) fun hS => by
       rcases hS with e | e | e | ⟨_,e,_⟩
       ·rcases hk with hk | hk <;> omega
       ·rcases hk with hk | hk <;> omega
       ·rcases hk with hk | hk <;> omega
       ·exact e hk
     obtain ⟨ctb,ftb,htb2⟩:=HB.out.2.2.2.1
     obtain ⟨cg,fg,hg3⟩:=HB.out.2.2.2.2.1
     refine ⟨⟨hall.size,fun k o hk ho hoc => hnc k o (by omega) (by omega) (by omega) ho hoc⟩,⟨hall.size,fun x o hx ho hoc => ?_⟩,?_,⟨J4.out.2.2.nodup,fun D hD => ⟨(J4.out.2.2.at_ D hD).1,?_⟩⟩,Nat.le_trans hsW hall.size,⟨ctb,ftb.1,ftb.2,hcl _ _ _ _ (by decide) (.inl rfl) htb2⟩,⟨cg,fg.1,fg.2,hcl _ _ _ _ (by decide) (.inr rfl) hg3⟩⟩
     ·rcases hx with hx | hx
      ·subst hx
       rw [htb2] at ho
       cases ho
       exact hcl _ _ _ _ (by decide) (.inl rfl) htb2
      ·subst hx
       rw [hg3] at ho
       cases ho
       exact hcl _ _ _ _ (by decide) (.inr rfl) hg3
     ·have e9 : ds ++ (pre ++ [(⟨y,hy⟩ : jfj qs)]).unattach = ds ++ pre.map (·.1) ++ [y]:=by
       rw [show (pre ++ [(⟨y,hy⟩ : jfj qs)]).unattach = (pre ++ [(⟨y,hy⟩ : jfj qs)]).map (·.1) from rfl,List.map_append, ← List.append_assoc]
       rfl
      rw [e9]
      exact q1
     ·have h1:=HB.out.2.1.at_ D hD
      exact hnc D _ (fun e => by
       have q:=h1.2
       obtain ⟨es,clk,q2⟩:=HB.out.1.c3.obj
       rw [e,q2] at q;cases q) (fun e => by
       have q:=h1.2
       obtain ⟨es,clk,q2⟩:=HB.out.1.c4.obj
       rw [e,q2] at q;cases q) (fun e => by
       have q:=h1.2
       obtain ⟨v,q2,_⟩:=HB.out.1.row
       rw [e,q2] at q;cases q) h1.2 rfl
   ·have hk2 : (ky == 19) = false:=by simpa using hk19
    have J4 : Hid (UJ tr B w (fun z => z = tb ∨ z = g2) w.heap.size (w.heap.size + 1) (w.heap.size + 2) (w.heap.size + 3) (w.heap.size + 4) (ds ++ pre.map (·.1) ++ [y]) (ds ++ pre.map (·.1) ++ [y]) (ds ++ pre.map (·.1)) W3 ∧ UF (fun x => x = w.heap.size ∨ x = w.heap.size + 2) W W3 ∧ Marks w.heap.size Ds W3):=by
     have h1:=K3.out.1
     have hF : UF (fun x => x = w.heap.size ∨ x = w.heap.size + 2) W W3:=((Memo.of_up (fun x => x = w.heap.size) B (show Up W W.drew from uq)).trans K3.out.2).uf.mono fun x e => .inl e
     refine ⟨{ h1 with c4:=by rw [jmP tr _ y (by rw [hky.out];exact hk19)];exact h1.c4 },hF,HB.out.2.1.nodup,fun D hD => ⟨(HB.out.2.1.at_ D hD).1,?_⟩⟩
     have h9:=HB.out.2.1.at_ D hD
     exact hF.obj D _ h9.2 (fun _ _ e => by cases e) fun e => by
      rcases e with e | e
      ·have q:=h9.2
       obtain ⟨es,clk,q2⟩:=HB.out.1.c3.obj
       rw [e,q2] at q;cases q
      ·have q:=h9.2
       obtain ⟨es,clk,q2⟩:=HB.out.1.c4.obj
       rw [e,q2] at q;cases q
    obtain ⟨W4,hW4⟩ : ∃ W4,W4 = W3:=⟨_,rfl⟩
    rw [← hW4] at J4 ⊢
    have y1:=(View.size ((HF.out.1.memo J4.out.1.memo).tys y hy)).1
    have yl:=(View.size ((HF.out.1.memo J4.out.1.memo).tys y hy)).2
    rw [hky.out] at y1
    clear K3 hW4 hk19
    have hyt4 : TyAt N B W4 y (tr y):=(HF.out.1.memo J4.out.1.memo).tys y hy
    obtain ⟨v,hv,hrow,hown⟩:=J4.out.1.row
    obtain ⟨va,vcap,rfl⟩:=ja7 hrow
    have hd3:=Lib.hid hv
    have row3:=Lib.hid hrow
    have HZ : Hid ((Value.slice va (ds ++ pre.map (·.1)).length vcap).ownBlock ≠ some (w.heap.size + 4)):=fun e => by
     obtain ⟨cur,hc⟩:=jcu hrow _ e
     rw [hv] at hc
     injection hc with hc
     injection hc with _ hc _
     exact absurd hc (by decide)
    have a0:=ja1 hd3.out 0
    have f0:=jab hd3.out 0
    have a4:=ja0 hd3.out
    simp only [gQa,gQz,gQs] at a0
    have HRR:=Lib.hid (And.intro hv (And.intro hrow hown))
    have hmW:=J4.out.1.memo.size
    obtain ⟨nn,hnn⟩ : ∃ nn,Hid ((ds ++ pre.map (·.1)).length = nn):=⟨_,rfl⟩
    obtain ⟨vs,hvs⟩ : ∃ vs,Hid ((ds ++ pre.map (·.1)).map ptrV = vs):=⟨_,rfl⟩
    have hnb : nn ≤ 300000:=by
     have:=hnn.out
     simp only [List.length_map,List.length_append] at this
     omega
    rw [hnn.out] at a0 row3 hd3 HZ
    rw [hvs.out] at row3
    clear hv hrow hown hyt4
    obtain ⟨i0,hi,hz0,hz1,hz2⟩:=info_parts jcN
    gi_wp2_with (first | (gi_at_builtin;go_must (refine jaB rfl _ _ 99 rfl TpT i0 (.pointer none) 1 8 Tryz.underlying99 hi hz0 hz1 hz2 rfl (by decide) (.slice va nn vcap) nn vs rfl (ja5 row3.out uq) _ 1 1 rfl (by first | rfl | (simp;done) | omega) rfl (by intro u hu;have hu2 : u = .pointer (some ⟨y,0,none⟩):=(by simpa using hu);rw [hu2];rfl) (by unfold maxLen;omega) (by omega) ?_;intro sa' cap' w7 hown' hgrow hblk;have hd:=Lib.hid (jan hgrow (Up.get (w:=W4) uq hd3.out) HZ.out);have a0:=ja1 hd.out 0;have f0:=jab hd.out 0;have a4:=ja0 hd.out;simp only [gQa,gQz,gQs] at a0;have HY:=Lib.hid (And.intro hown' (And.intro hgrow hblk));clear hown' hgrow hblk)))
    obtain ⟨hv,hrow,hown⟩:=HRR.out
    have hn9:=hnn.out
    subst hn9
    have hv9:=hvs.out
    subst hv9
    have hszW:=J4.out.2.1.size
    obtain ⟨q1,q2⟩:=UJ.push J4.out.1 HI.out.2.1 HL.out (fun g' hg' e => by omega) hv rfl HY.out.1 HY.out.2.1 HY.out.2.2
    have hall : UF (fun x => x = w.heap.size ∨ x = w.heap.size + 2 ∨ x = w.heap.size + 4 ∨ (w.heap.size ≤ x ∧ ¬ (x = tb ∨ x = g2) ∧ ∃ cs f,W4.heap[x]? = some (.cells cs TpT f))) W _:=(J4.out.2.1.mono fun x hx => by
     rcases hx with hx | hx
     ·exact .inl hx
     ·exact .inr (.inl hx)).trans (q2.uf.mono fun x hx => by
     rcases hx with hx | hx
     ·exact .inr (.inr (.inl hx))
     ·exact .inr (.inr (.inr hx)))
    have hnc : ∀ (k : Nat) (o : Obj),k ≠ w.heap.size → k ≠ w.heap.size + 2 → k ≠ w.heap.size + 4 → W.heap[k]? = some o → o.isCells = false → (w7.setCell ⟨w.heap.size + 4,0,none⟩ (.slice sa' ((ds ++ pre.map (·.1)).length + 1) cap')).heap[k]? = some o:=fun k o h1 h2 h3 ho hoc =>
     hall.obj k o ho (fun cs f e => by subst e;cases hoc) fun hS => by
      rcases hS with e | e | e | ⟨_,_,cs,f,e⟩
      ·exact h1 e
      ·exact h2 e
      ·exact h3 e
      ·have q:=J4.out.2.1.obj k o ho (fun cs f e => by subst e;cases hoc) (fun hS => by
        rcases hS with e | e
        ·exact h1 e
        ·exact h2 e)
       rw [e] at q
       cases q
       cases hoc
    have hcl : ∀ (k : Nat) (cs : Array Value) (T : TypeId) (f : Nat × Nat),T ≠ TyT → (k = tb ∨ k = g2) → W.heap[k]? = some (.cells cs T f) → (w7.setCell ⟨w.heap.size + 4,0,none⟩ (.slice sa' ((ds ++ pre.map (·.1)).length + 1) cap')).heap[k]? = some (.cells cs T f):=fun k cs T f hT hk ho =>
     hall.obj k _ ho (fun cs' f' e => by injection e with _ e _;exact hT e) fun hS => by
      rcases hS with e | e | e | ⟨_,e,_⟩
      ·rcases hk with hk | hk <;> omega
      ·rcases hk with hk | hk <;> omega
      ·rcases hk with hk | hk <;> omega
      ·exact e hk
    obtain ⟨ctb,ftb,htb2⟩:=HB.out.2.2.2.1
    obtain ⟨cg,fg,hg3⟩:=HB.out.2.2.2.2.1
    refine ⟨⟨hall.size,fun k o hk ho hoc => hnc k o (by omega) (by omega) (by omega) ho hoc⟩,⟨hall.size,fun x o hx ho hoc => ?_⟩,?_,⟨J4.out.2.2.nodup,fun D hD => ⟨(J4.out.2.2.at_ D hD).1,?_⟩⟩,Nat.le_trans hsW hall.size,⟨ctb,ftb.1,ftb.2,hcl _ _ _ _ (by decide) (.inl rfl) htb2⟩,⟨cg,fg.1,fg.2,hcl _ _ _ _ (by decide) (.inr rfl) hg3⟩⟩
    ·rcases hx with hx | hx
     ·subst hx
      rw [htb2] at ho
      cases ho
      exact hcl _ _ _ _ (by decide) (.inl rfl) htb2
     ·subst hx
      rw [hg3] at ho
      cases ho
      exact hcl _ _ _ _ (by decide) (.inr rfl) hg3
    ·have e9 : ds ++ (pre ++ [(⟨y,hy⟩ : jfj qs)]).unattach = ds ++ pre.map (·.1) ++ [y]:=by
      rw [show (pre ++ [(⟨y,hy⟩ : jfj qs)]).unattach = (pre ++ [(⟨y,hy⟩ : jfj qs)]).map (·.1) from rfl,List.map_append, ← List.append_assoc]
      rfl
     rw [e9]
     exact q1
    ·have h1:=HB.out.2.1.at_ D hD
     exact hnc D _ (fun e => by
      have q:=h1.2
      obtain ⟨es,clk,q2⟩:=HB.out.1.c3.obj
      rw [e,q2] at q;cases q) (fun e => by
      have q:=h1.2
      obtain ⟨es,clk,q2⟩:=HB.out.1.c4.obj
      rw [e,q2] at q;cases q) (fun e => by
      have q:=h1.2
      obtain ⟨v,q2,_⟩:=HB.out.1.row
      rw [e,q2] at q;cases q) h1.2 rfl
  case done =>
   rintro D zs W hD hzs ⟨hI,hM,hsW,_,_⟩ hK
   have HFF : Hid (UJ tr B w (fun _ => False) w.heap.size (w.heap.size + 1) (w.heap.size + 2) (w.heap.size + 3) (w.heap.size + 4) (flB G (j + 1)) (flB G (j + 1)) (flB G (j + 1)) W ∧ Marks w.heap.size (D :: Ds) W):=by
    rw [hzs] at hI
    have e9 : flB G (j + 1) = ds ++ qs:=by unfold flB;rw [List.take_add_one,HX.out.1,List.flatMap_append, ← HX.out.2];simp
    rw [e9]
    exact ⟨hI.weaken fun _ _ _ e => e.elim,hM.cons hK (by omega) fun h => by have:=hDs D h;omega⟩
   clear hI hM hK hzs
   subst hA2
   go_wp2_with fail
   exact ⟨⟨_,_,_,_,_,_,_,j + 1,D :: Ds,⟨by omega,HFF.out.1,HFF.out.2⟩,rfl⟩,by simp [intOf];omega⟩
  case stop => rintro D c pre W hD hSp h hK;exact h.elim
 ·obtain rfl : j = G.length:=by omega
  rw [List.take_length] at hds
  have HTD : Hid (∀ q ∈ ds,TyAt N B w q (tr q) ∧ (tr q).Valid ∧ (tr q).kind ≠ 16 ∧ Sm (tr q) ∧ jaL (tr q) ∧ ∀ e ∈ (tr q).parts,jaL e):=by unfold Hid;rw [hds];exact HT.out.1
  have hdl : ds.length ≤ 100000:=by rw [hds];exact HT.out.2
  have hdsH:=Lib.hid hds
  clear hds
  have hlk1:=hI.c3.look 1
  have hlk2:=hI.c3.look 2
  have hix0 : ∀ w,(Instr.index 165 (.agg #[.int .i64 1, .int .i64 2]) (.int .i64 0)).run Tryz.prog w = .ok (.int .i64 1) w:=fun _ => by kernel_rfl
  have hix1 : ∀ w,(Instr.index 165 (.agg #[.int .i64 1, .int .i64 2]) (.int .i64 1)).run Tryz.prog w = .ok (.int .i64 2) w:=fun _ => by kernel_rfl
  have b3:=ja1 hI.b3 0
  simp only [gQa,gQz] at b3
  have HE:=Lib.hid (And.intro hI hM)
  have hBs : ∀ k : Int,(∃ x ∈ (ds.map fun q => (tr q).canon),x.kind = k) ↔ 0 < kdC tr ds k:=fun k => by
   rw [jle]
   constructor
   ·rintro ⟨q,hq,hP⟩
    obtain ⟨y,hy,rfl⟩:=List.mem_map.1 hq
    exact ⟨y,hy,by rw [← hP,Ty.canon_kind]⟩
   ·rintro ⟨y,hy,hP⟩
    exact ⟨_,List.mem_map_of_mem (f:=fun q => (tr q).canon) hy,by rw [Ty.canon_kind,hP]⟩
  have hBs:=Lib.hid hBs
  have hbw:=Lib.hid HI.out.2.1
  have hten : Hid (∀ (k : Int) (X W' : World) (c : Nat),1 ≤ k → k ≤ 10 → jaR (ds.map fun q => (tr q).canon) = ja3 k → Memo jag B w X → Leaf X c k ⟨#[]⟩ → w.heap.size ≤ c → Taken w.heap.size X W' → jlP N B w ((G.flatMap (·.2)).map fun q => (tr q).canon) (.returned (.pointer (some ⟨c,0,none⟩))) W'):=fun k X W' c k1 k2 hu hX hl hc hT' =>
   ⟨c,ja3 k,rfl,(jo3 hl (Nat.le_trans hbw.out hc)).taken hT', .basic k1 k2,by rw [← hdsH.out,hu];exact (CV.basic k1 k2).same,hX.taken hT'⟩
  clear hI hM hlt hj
  by_cases h1 : 0 < kdC tr ds 1
  ·have h1' : (0 : Int) < (kdC tr ds 1 : Nat):=by omega
   have hu1 : Hid (jaR (ds.map fun q => (tr q).canon) = ja3 1):=by
    rcases jaq (ds.map fun q => (tr q).canon) with ⟨_,e⟩ | ⟨e,_⟩ | ⟨e,_⟩
    ·exact e
    ·exact (e ((hBs.out 1).2 h1)).elim
    ·exact (e ((hBs.out 1).2 h1)).elim
   clear hlk2
   go_wp2_with fail
   refine wp_loop_rounds 3 ?_
   rw [rounds_succ]
   go_wp2_with (first | (go_at_call 49;refine (jc4 1 _).mono ?_;rintro e w2 ⟨c,rfl,hlf,hcl,hu2⟩))
   refine jaX w.heap.size Ds _ (HE.out.2.up uq) fun W' hW' => ?_
   refine ⟨.pointer (some ⟨c,0,none⟩),by simp [results,Tryz.results55,go_sem],?_⟩
   exact hten.out 1 _ W' c (by decide) (by decide) hu1.out (HE.out.1.memo.up (show Up wr w2 from uq)) hlf (Nat.le_trans HE.out.1.memo.size hcl) hW'
  have e1 : kdC tr ds 1 = 0:=by omega
  rw [e1] at hlk1
  by_cases h2 : 0 < kdC tr ds 2
  ·have h2' : (0 : Int) < (kdC tr ds 2 : Nat):=by omega
   have hu1 : Hid (jaR (ds.map fun q => (tr q).canon) = ja3 2):=by
    rcases jaq (ds.map fun q => (tr q).canon) with ⟨e,_⟩ | ⟨_,_,e⟩ | ⟨_,e,_⟩
    ·exact (h1 ((hBs.out 1).1 e)).elim
    ·exact e
    ·exact (e ((hBs.out 2).2 h2)).elim
   clear h1 e1
   go_wp2_with fail
   refine wp_loop_rounds 3 ?_
   rw [rounds_succ]
   go_wp2_with fail
   rw [rounds_succ]
   go_wp2_with (first | (go_at_call 49;refine (jc4 2 _).mono ?_;rintro e w2 ⟨c,rfl,hlf,hcl,hu2⟩))
   refine jaX w.heap.size Ds _ (HE.out.2.up uq) fun W' hW' => ?_
   refine ⟨.pointer (some ⟨c,0,none⟩),by simp [results,Tryz.results55,go_sem],?_⟩
   exact hten.out 2 _ W' c (by decide) (by decide) hu1.out (HE.out.1.memo.up (show Up wr w2 from uq)) hlf (Nat.le_trans HE.out.1.memo.size hcl) hW'
  have e2 : kdC tr ds 2 = 0:=by omega
  rw [e2] at hlk2
  have hu0 : Hid (jaR (ds.map fun q => (tr q).canon) = jec (jbH (jbg (ds.map fun q => (tr q).canon)))):=by
   rcases jaq (ds.map fun q => (tr q).canon) with ⟨e,_⟩ | ⟨_,e,_⟩ | ⟨_,_,e⟩
   ·exact (h1 ((hBs.out 1).1 e)).elim
   ·exact (h2 ((hBs.out 2).1 e)).elim
   ·exact e
  clear h1 h2 e1 e2
  obtain ⟨v,hv5,hrow,hown⟩:=HE.out.1.row
  obtain ⟨va,vcap,rfl⟩:=ja7 hrow
  have b5:=ja1 hv5 0
  simp only [gQa,gQz] at b5
  by_cases hd0 : ds = []
  ·have hl0 : ds.length = 0:=by rw [hd0];rfl
   have hu1 : Hid (jaR (ds.map fun q => (tr q).canon) = ja3 3):=by
    unfold Hid
    rw [hu0.out,hd0]
    rfl
   rw [hl0] at b5
   clear hd0 hv5 hrow hown hl0
   go_wp2_with fail
   refine wp_loop_rounds 3 ?_
   rw [rounds_succ]
   go_wp2_with fail
   rw [rounds_succ]
   go_wp2_with fail
   rw [rounds_succ]
   go_wp2_with (first | (go_at_call 94;refine (jfl va vcap _ _).mono ?_;rintro e w2 ⟨rfl,hu2⟩) | (go_at_call 93;refine (jeE va vcap _).mono ?_;rintro e w3 ⟨rfl,hu3⟩) | (go_at_call 49;refine (jc4 3 _).mono ?_;rintro e w4 ⟨c,rfl,hlf,hcl,hu4⟩))
   have hup : Up wr w4:=uq
   refine jaX w.heap.size Ds _ (HE.out.2.up hup) fun W' hW' => ?_
   refine ⟨.pointer (some ⟨c,0,none⟩),by simp [results,Tryz.results55,go_sem],?_⟩
   exact hten.out 3 _ W' c (by decide) (by decide) hu1.out (HE.out.1.memo.up hup) hlf (Nat.le_trans HE.out.1.memo.size (Nat.le_trans (show Up wr w3 from uq).size hcl)) hW'
  have hne : 0 < ds.length:=List.length_pos_iff.2 hd0
  obtain ⟨gr,rcap,cur,hve,hgr,hcap,hcur⟩:=jkO hrow hd0
  injection hve with hv1 _ hv3
  subst hv1 hv3
  have hgw : w.heap.size ≤ gr:=(hown gr rfl).1
  have HW:=Lib.hid (And.intro hgr (And.intro hcap (And.intro hcur hgw)))
  clear hv5 hrow hown hgr hcur hd0
  have hnr : Hid (∀ (b : Nat) (cs : Array Value) (t : TypeId) (f : Nat × Nat),t ≠ TpT → wr.heap[b]? = some (.cells cs t f) → b ≠ gr):=fun b cs t f ht hb e => by
   have q:=HW.out.1
   rw [← e,hb] at q
   injection q with q
   injection q with _ q _
   exact ht q
  obtain ⟨p,hpe⟩ : ∃ p : Nat → Bool,Hid (p = fun z => jd1 (kdC tr ds) (enC tr ds) (tr z)):=⟨_,rfl⟩
  obtain ⟨fs,hfs⟩ : ∃ fs : List Nat,Hid ((ds.filter fun z => !p z) = fs):=⟨_,rfl⟩
  have hNg : Hid (∀ x,N x → x ≠ gr):=fun x hx e => by have:=HI.out.2.2.1 x hx;omega
  have hGS : Hid (∀ W,Memo (fun b => b = gr) B wr W → Glob W):=fun W hW => (HI.out.2.2.2.memo HE.out.1.memo).memoS hW fun x e _ => ⟨cur,(0,0),by have e : x = gr:=e;rw [e];exact HW.out.1⟩
  have hp : Hid (∀ z ∈ ds,∀ W,Memo (fun b => b = gr) B wr W → Calls Tryz.prog 92 #[.pointer (some ⟨z,0,none⟩), .pointer (some ⟨w.heap.size + 1,0,none⟩), .pointer (some ⟨w.heap.size + 3,0,none⟩)] W fun e W' => e = .returned (.bool (p z)) ∧ Memo jag B W W'):=fun z hz W hW => by
   obtain ⟨q1,q2,q3,q4,q5,q6⟩:=HTD.out z hz
   have hc3 : CMap W w.heap.size (kdC tr ds):=by
    obtain ⟨es,clk,hm⟩:=HE.out.1.c3.obj
    exact HE.out.1.c3.keep ((hW.obj _ _ hm (fun _ _ e => by cases e) (fun e => by
     have q:=HW.out.1
     have e : w.heap.size = gr:=e
     rw [← e,hm] at q;cases q)).trans hm.symm)
   have hc4 : SMap W (w.heap.size + 2) (enC tr ds):=by
    obtain ⟨es,clk,hm⟩:=HE.out.1.c4.obj
    exact HE.out.1.c4.keep ((hW.obj _ _ hm (fun _ _ e => by cases e) (fun e => by
     have q:=HW.out.1
     have e : w.heap.size + 2 = gr:=e
     rw [← e,hm] at q;cases q)).trans hm.symm)
   have h1:=goes_m (tr z) (kdC tr ds) (enC tr ds) N B z w.heap.size (w.heap.size + 1) (w.heap.size + 2) (w.heap.size + 3) W (hW.ty N z _ hNg.out (q1.memo HE.out.1.memo)) (hGS.out W hW) (hW.cells HE.out.1.b3 (by decide) (hnr.out _ _ _ _ (by decide) HE.out.1.b3)) hc3 (hW.cells HE.out.1.b4 (by decide) (hnr.out _ _ _ _ (by decide) HE.out.1.b4)) hc4 (fun hk => by
    revert hk q6 q2
    generalize tr z = t
    intro hv
    cases hv with
    | case => intro q6 _;exact ⟨_,_,rfl,q6 _ (List.mem_singleton.2 rfl)⟩
    | basic => intro _ h;exact absurd h (by simp only [Ty.kind];omega)
    | num => intro _ h;exact absurd h (by simp only [Ty.kind];omega)
    | str => intro _ h;exact absurd h (by simp only [Ty.kind];omega)
    | arr => intro _ h;exact absurd h (by simp only [Ty.kind];omega)
    | obj => intro _ h;exact absurd h (by simp only [Ty.kind];omega)
    | fn => intro _ h;exact absurd h (by simp only [Ty.kind];omega)
    | un => intro _ h;exact absurd h (by simp only [Ty.kind];omega)
    | ref => intro _ h;exact absurd h (by simp only [Ty.kind];omega)
    | named hk => intro _ h;exact absurd h (by simp only [Ty.kind];omega))
   rw [hpe.out]
   exact h1
  have hlen6 : Hid (ds.length ≤ 1000000):=by unfold Hid;omega
  have hBg : Hid (B ≤ gr):=Nat.le_trans hbw.out hgw
  have hfl : Hid (fs.length ≤ ds.length):=by unfold Hid;rw [← hfs.out];exact List.length_filter_le _ _
  go_wp2_with fail
  refine wp_loop_rounds 3 ?_
  rw [rounds_succ]
  go_wp2_with fail
  rw [rounds_succ]
  go_wp2_with fail
  rw [rounds_succ]
  go_wp2_with (first | (go_at_call 94;refine (jhK B p ds gr 0 vcap (w.heap.size + 1) (w.heap.size + 3) cur _ HW.out.1 HW.out.2.2.1 hlen6.out HW.out.2.1 hBg.out hp.out).mono ?_;rintro e w2 ⟨rfl,hk2,cs2,hg2,hs2,hc2⟩;rw [hfs.out] at hc2;simp only [hfs.out];have HA:=Lib.hid (And.intro hk2 (And.intro hg2 hc2));clear hk2 hg2 hs2 hc2))
  have HS : Hid (Calls Tryz.prog 93 #[.slice (some ⟨gr,0,none⟩) fs.length vcap, .func (.func byF) #[] #[]] w2 fun e w' => ∃ zs : List Nat,e = .returned (.slice (some ⟨gr,0,none⟩) zs.length vcap) ∧ RowAt w' gr 0 zs ∧ Memo (fun b => b = gr) B w2 w' ∧ zs.length ≤ fs.length ∧ zs.Pairwise (fun x y => ltS (tr x).partT (tr y).partT = true) ∧ (∀ z ∈ zs,z ∈ fs) ∧ ∀ x ∈ fs,∃ z ∈ zs,(tr z).partT = (tr x).partT):=by
   unfold Hid
   by_cases hf0 : fs = []
   ·rw [hf0]
    refine (jeE (some ⟨gr,0,none⟩) vcap w2).mono ?_
    rintro e w' ⟨rfl,hu⟩
    exact ⟨[],rfl,⟨cs2,hu.get HA.out.2.1,fun j x hx => by simp at hx⟩,Memo.of_up _ _ hu,Nat.le_refl _,List.Pairwise.nil,(fun z hz => by cases hz),(fun x hx => by cases hx)⟩
   ·have hin : ∀ x ∈ fs,x ∈ ds:=fun x hx => by rw [← hfs.out] at hx;exact (List.mem_filter.1 hx).1
    refine (ji1 tr N B gr 0 vcap fs w2 ⟨cs2,HA.out.2.1,fun j x hx => HA.out.2.2 j x hx⟩ (by have:=hfl.out;omega) hf0 (Nat.le_trans hfl.out HW.out.2.1) hBg.out hNg.out (fun x hx => ?_) (hGS.out w2 HA.out.1)).mono ?_
    ·obtain ⟨q1,q2,q3,q4,q5,q6⟩:=HTD.out x (hin x hx)
     exact ⟨HA.out.1.ty N x _ hNg.out (q1.memo HE.out.1.memo),q5,q4.text q2⟩
    ·rintro e w' ⟨zs,rfl,h2,h3,_,h4,h5,h6,h7⟩
     exact ⟨zs,rfl,h2,h3,h4,h5,h6,h7⟩
  refine HS.out.mono ?_
  rintro e w3 ⟨zs,rfl,hr3,hm3,hl3,hz1,hz2,hz3⟩
  have M3 : Hid (Memo (fun b => b = gr) B wr w3):=HA.out.1.trans hm3
  have hzd : Hid (∀ z ∈ zs,z ∈ ds):=fun z hz => by
   have:=hz2 z hz
   rw [← hfs.out] at this
   exact (List.mem_filter.1 this).1
  have hsort : Hid (jaR (ds.map fun q => (tr q).canon) = jec (zs.map fun z => (tr z).canon)):=by
   unfold Hid
   rw [hu0.out,jjr tr ds zs (fun x hx => ⟨(HTD.out x hx).2.1,(HTD.out x hx).2.2.1⟩) hz1 (fun z hz => by
    have:=hz2 z hz
    rw [← hfs.out,hpe.out] at this
    exact this) (fun x hx => hz3 x (by rw [← hfs.out,hpe.out];exact hx))]
  have M3w : Hid (Memo jag B w w3):=((HE.out.1.memo.mono fun _ e => e.elim).trans (M3.out.mono (T:=fun x => w.heap.size ≤ x) fun x e => by have e : x = gr:=e;rw [e];exact hgw)).fresh fun _ e => e
  have hD3 : Hid (Marks w.heap.size Ds w3):=⟨HE.out.2.nodup,fun D hD => ⟨(HE.out.2.at_ D hD).1,M3.out.obj _ _ (HE.out.2.at_ D hD).2 (fun _ _ e => by cases e) (fun e => by
   have e : D = gr:=e
   have q:=(HE.out.2.at_ D hD).2
   rw [e,HW.out.1] at q
   cases q)⟩⟩
  have hzt : Hid (∀ z ∈ zs,TyAt N B w3 z (tr z) ∧ (tr z).Valid):=fun z hz => ⟨(HTD.out z (hzd.out z hz)).1.memo M3w.out,(HTD.out z (hzd.out z hz)).2.1⟩
  have HR3:=Lib.hid hr3
  have hzl : zs.length ≤ 100000:=by have:=hfl.out;omega
  have hzw:=Lib.hid (And.intro hz1 (And.intro hzl (Nat.le_trans hl3 (Nat.le_trans hfl.out HW.out.2.1))))
  have hsz3:=M3w.out.size
  have hany : Hid (∀ (X W' : World) (c : Nat) (u : Ty),Memo jag B w X → TyAt (fun x => N x ∨ w.heap.size ≤ x) B X c u → u.Valid → u.canon = jaR (ds.map fun q => (tr q).canon) → Taken w.heap.size X W' → jlP N B w ((G.flatMap (·.2)).map fun q => (tr q).canon) (.returned (.pointer (some ⟨c,0,none⟩))) W'):=fun X W' c u hX ht hv hc hT' =>
   ⟨c,u,rfl,ht.taken hT',hv,by rw [← hdsH.out,hc],hX.taken hT'⟩
  clear hr3 hm3 hz1 hz2 hz3 hl3 HS HA hlk1 hlk2 b3 b5 hp
  rcases zs with _ | ⟨z,_ | ⟨z2,r⟩⟩
  ·have hu1 : Hid (jaR (ds.map fun q => (tr q).canon) = ja3 3):=hsort.out
   simp only [List.length_nil]
   go_wp2_with (first | (go_at_call 49;refine (jc4 3 _).mono ?_;rintro e w4 ⟨c,rfl,hlf,hcl,hu4⟩))
   have hup : Up w3 w4:=uq
   refine jaX w.heap.size Ds _ (hD3.out.up hup) fun W' hW' => ?_
   refine ⟨.pointer (some ⟨c,0,none⟩),by simp [results,Tryz.results55,go_sem],?_⟩
   exact hten.out 3 _ W' c (by decide) (by decide) hu1.out (M3w.out.up hup) hlf (Nat.le_trans hsz3 hcl) hW'
  ·have y0 : w3.cell? ⟨gr,0,none⟩ = some (.pointer (some ⟨z,0,none⟩)):=HR3.out.cell (j:=0) rfl
   have yl:=HR3.out.lt
   have hl1 : (0 : Int) < 1:=by decide
   simp only [List.length_cons,List.length_nil,Nat.zero_add]
   have hz:=Lib.hid (hzt.out z (by simp))
   go_wp2_with fail
   refine jaX w.heap.size Ds _ (hD3.out.up uq) fun W' hW' => ?_
   refine ⟨.pointer (some ⟨z,0,none⟩),by simp [results,Tryz.results55,go_sem],?_⟩
   exact hany.out _ W' z (tr z) (M3w.out.up uq) ((hz.out.1.up uq).weaken fun x hx _ => .inl hx) hz.out.2 (by rw [hsort.out];rfl) hW'
  ·have hcp:=hzw.out.2.2
   have hll : (z :: z2 :: r).length = r.length + 1 + 1:=rfl
   obtain ⟨zs,hzs⟩ : ∃ zs,Hid (z :: z2 :: r = zs):=⟨_,rfl⟩
   have hl2 : 2 ≤ zs.length:=by rw [← hzs.out];simp
   have hrr : zs.length = r.length + 1 + 1:=by rw [← hzs.out];rfl
   rw [hzs.out] at hzt hzd HR3 hsort hzw hcp
   have hi1 : ((r.length : Int) + 1 + 1 == 0) = false:=by simp;omega
   have hi2 : ((r.length : Int) + 1 + 1 == 1) = false:=by simp;omega
   obtain ⟨ct,hct,hcx⟩:=HR3.out
   have hrowof : Hid (RowOf TpT (fun x => N x ∨ w.heap.size ≤ x) w3 (.slice (some ⟨gr,0,none⟩) zs.length zs.length) (zs.map ptrV)):=by
    refine ⟨some ⟨gr,0,none⟩,zs.length,by rw [List.length_map],by rw [List.length_map];exact Nat.le_refl _,by rw [List.length_map];have:=hzw.out.2.1;omega,fun j u hu => ?_⟩
    rw [List.getElem?_map] at hu
    cases hq : zs[j]? with
    | none => rw [hq] at hu;cases hu
    | some q =>
      rw [hq] at hu
      cases hu
      exact ⟨gr,0,ct,(0,0),rfl, .inr hgw,hct,hcx j q hq⟩
   simp only [hll]
   go_wp2_with fail
   refine (jn7 ⟨gr,0,none⟩ (r.length + 1 + 1) vcap (by have:=hcp;rw [hrr] at this;exact this) (by omega) _).mono ?_
   rintro e w4 ⟨rfl,hu4⟩
   have hmade : Hid (∀ W,Up w3 W → Calls Tryz.prog 57 #[.agg #[.int .i64 16, .int .i64 0, .string ⟨#[]⟩, .slice (some ⟨gr,0,none⟩) (r.length + 1 + 1) (r.length + 1 + 1), .slice none 0 0, .slice none 0 0, .int .i64 0, .string ⟨#[]⟩]] W fun e w' => ∃ b,e = .returned (.pointer (some ⟨b,0,none⟩)) ∧ TyAt (fun x => N x ∨ w.heap.size ≤ x) B w' b (.mk 16 0 ⟨#[]⟩ (zs.map tr) [] []) ∧ W.heap.size ≤ b ∧ Up W w'):=fun W hW => by
    have q:=jhl (fun x => N x ∨ w.heap.size ≤ x) B 16 0 ⟨#[]⟩ zs (zs.map tr) [] [] (.slice (some ⟨gr,0,none⟩) zs.length zs.length) (.slice none 0 0) (.slice none 0 0) W (Nat.le_trans hbw.out (Nat.le_trans hsz3 hW.size)) (hrowof.out.keep fun g cs fz h1 h2 => ⟨h1,hW.get h2⟩) (RowOf.nil _ _ _) (RowOf.nil _ _ _) (by rw [List.length_map]) (fun j q p h1 h2 => by
     rw [List.getElem?_map,h1] at h2
     cases h2
     exact (((hzt.out q (List.mem_of_getElem? h1)).1.up hW)).weaken fun x hx _ => .inl hx)
    rw [hrr] at q
    exact q
   go_wp2_with (first | (go_at_call 57;refine (hmade.out _ uq).mono ?_;rintro e w5 ⟨c,rfl,hc5,hl5,hu5⟩))
   have hup : Up w3 w5:=uq
   refine jaX w.heap.size Ds _ (hD3.out.up hup) fun W' hW' => ?_
   refine ⟨.pointer (some ⟨c,0,none⟩),by simp [results,Tryz.results55,go_sem],?_⟩
   have hcan : (zs.map tr).map Ty.canon = zs.map fun z => (tr z).canon:=by rw [List.map_map];rfl
   have hcl : CV (jaR (ds.map fun q => (tr q).canon)):=jgL fun x hx => by
    obtain ⟨q,hq,rfl⟩:=List.mem_map.1 hx
    exact ⟨CV.of (HTD.out q hq).2.1,by rw [Ty.canon_kind];exact (HTD.out q hq).2.2.1⟩
   have hwr : jec (zs.map fun z => (tr z).canon) = .mk 16 0 ⟨#[]⟩ (zs.map fun z => (tr z).canon) [] []:=by
    rcases jbr (zs.map fun z => (tr z).canon) with ⟨e,_⟩ | ⟨x,e,_⟩ | ⟨_,e⟩
    ·have:=congrArg List.length e
     rw [List.length_map] at this
     simp only [List.length_cons,List.length_nil] at this
     omega
    ·have:=congrArg List.length e
     rw [List.length_map] at this
     simp only [List.length_cons,List.length_nil] at this
     omega
    ·exact e
   have huc : (Ty.mk 16 0 ⟨#[]⟩ (zs.map tr) [] []).canon = jaR (ds.map fun q => (tr q).canon):=by
    rw [hsort.out,hwr,Ty.canon_mk,if_neg (by decide),hcan]
   have hval : (Ty.mk 16 0 ⟨#[]⟩ (zs.map tr) [] []).Valid:=Ty.valid_of_canon (by rw [huc];exact hcl.valid) (fun p hp => by
    obtain ⟨q,hq,rfl⟩:=List.mem_map.1 hp
    exact (hzt.out q hq).2)
   exact hany.out _ W' c _ (M3w.out.up hup) hc5 hval huc hW'
end Go.Proofs.YtiaepldmgighbaaGreatDoor
