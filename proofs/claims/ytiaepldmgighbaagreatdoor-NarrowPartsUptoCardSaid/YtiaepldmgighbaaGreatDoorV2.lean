import Derived.Test.YtiaepldmgighbaaGreatDoorU51
import Derived.Test.YtiaepldmgighbaaGreatDoorV1
import Derived.Clock
namespace Go.Proofs.YtiaepldmgighbaaGreatDoor
open Go.RowKit
set_option linter.unusedSimpArgs false
set_option linter.unusedVariables false
theorem jlw {N : Nat → Prop} {w : World} {t u : Ty} {a1 a2 a3 a4 a5 b1 b2 b3 b4 b5 : Value} (ht : TIn N w [.int .i64 t.kind,a1,a2,a3,a4,a5] t) (hu : TIn N w [.int .i64 u.kind,b1,b2,b3,b4,b5] u) (f : Nat × Nat) :
  ElemsAt N (w.alloc (.cells #[.int .i64 t.kind,a1,a2,a3,a4,a5, .int .i64 u.kind,b1,b2,b3,b4,b5] RefT f)) [t,u] (some ⟨w.heap.size,0,none⟩):=fun j x hx => by
 have hA : (w.alloc (.cells #[.int .i64 t.kind,a1,a2,a3,a4,a5, .int .i64 u.kind,b1,b2,b3,b4,b5] RefT f)).heap[w.heap.size]? = some (.cells #[.int .i64 t.kind,a1,a2,a3,a4,a5, .int .i64 u.kind,b1,b2,b3,b4,b5] RefT f):=ja9 _ _
 have hup : Up w (w.alloc (.cells #[.int .i64 t.kind,a1,a2,a3,a4,a5, .int .i64 u.kind,b1,b2,b3,b4,b5] RefT f)):=uq
 match j,hx with
 | 0,hx =>
   simp only [gQz,Option.some.injEq] at hx
   subst hx
   exact ⟨_,0,a1,a2,a3,a4,a5,rfl,ja1 hA 0,ja1 hA 1,ja1 hA 2,ja1 hA 3,ja1 hA 4,ja1 hA 5,ht.up hup⟩
 | 1,hx =>
   simp only [gQs,gQz,Option.some.injEq] at hx
   subst hx
   exact ⟨_,0,b1,b2,b3,b4,b5,rfl,ja1 hA 6,ja1 hA 7,ja1 hA 8,ja1 hA 9,ja1 hA 10,ja1 hA 11,hu.up hup⟩
 | j + 2,hx => simp at hx
theorem RowU.start {N : Nat → Prop} {lo g : Nat} {W : World} (hg : W.heap[g]? = some (.cells #[] RefT (0,0))) (hlo : lo ≤ g) : RowU N lo W (.slice (some ⟨g,0,none⟩) 0 0) [] []:=by
 refine ⟨rfl,?_,?_,⟨rfl, .inr ⟨g,0,#[],rfl,Nat.zero_le _,hg,Nat.le_refl _,Nat.zero_le _,rfl,rfl⟩⟩,?_⟩
 ·intro u h;cases h
 ·intro j u t h;simp at h
 ·intro g' h;cases h;exact hlo
theorem elems_first {N : Nat → Prop} {W : World} {l : List Ty} {a : Option Addr} (h : ElemsAt N W l a) (hl : 0 < l.length) : ∃ b off,a = some ⟨b,off,none⟩:=by
 obtain ⟨y,hy⟩ : ∃ y,l[0]? = some y:=⟨_,List.getElem?_eq_getElem hl⟩
 obtain ⟨b,off,_,_,_,_,_,e,_⟩:=h 0 y hy
 exact ⟨b,off,e⟩
theorem ElemsAt.rowsAt {N : Nat → Prop} {W : World} {ts : List Ty} {b off : Nat} (h : ElemsAt N W ts (some ⟨b,off,none⟩)) : ∃ uss : List (List Value),uss.length = ts.length ∧ (∀ u ∈ uss,u.length = 6) ∧ (∀ W',Up W W' → ∀ (j : Nat) (u : List Value) (t : Ty),uss[j]? = some u → ts[j]? = some t → TIn N W' u t) ∧ (∀ u ∈ uss.flatten,u.oneCell' = true) ∧ (∀ W',Up W W' → ∀ (k : Nat) (x : Value),uss.flatten[k]? = some x → W'.cell? ((⟨b,off,none⟩ : Addr).add k) = some x) ∧ uss.flatten.length = ts.length * 6:=by
 obtain ⟨uss,g1,g2,g3,g4,g5⟩:=h.rows
 refine ⟨uss,g1,g2,fun W' hW j u t q1 q2 => (g3 j u t q1 q2).up hW,g4,fun W' hW k x hx => ?_,by rw [jce _ g2,g1]⟩
 obtain ⟨b',off',e,hc⟩:=g5 k x hx
 injection e with e
 injection e with e1 e2 _
 subst e1 e2
 rw [Addr.add_lit]
 exact jak hW rfl hc
theorem step_append_first {w : World} {ops : Array Oper} {o : Oper} {a : Act} {K : Act → World → Prop} {Q : Exit → Act → World → Prop} {E : Prop} (hgd : o.guard = none) (s x : Operand) (t : TypeId)
  (ho : o.op = .call { callee := .builtin .append,args := #[s,x],argTypes := #[t,t] })
  (e : TypeId) (i : TypeInfo) (z : Value) (size bytes : Nat) (ht : Tryz.prog.underlying t = some (.slice e)) (hi : Tryz.prog.info? e = some i) (hz : i.zero = some z)
  (hsize : i.size = size) (hby : i.bytes = bytes) (hzs : z.cells.size = size) (hsz : 0 < size)
  (v : Value) (hs : a.eval s = v) (hown : w.ownsRow 0 e size v 0 [])
  (ad : Addr) (m c : Nat) (news : List Value) (hx : a.eval x = .slice (some ad) m c) (hl : news.length = m * size) (hnews : ∀ j u,news[j]? = some u → w.cell? (ad.add j) = some u) (h1 : ∀ u ∈ news,u.oneCell' = true)
  (h63 : m ≤ maxLen) (hbytes : m * bytes ≤ 140737488355328)
  (h : ∀ sa cap w',w'.ownsRow 0 e size (.slice sa m cap) m news → w.grownBy w' v.ownBlock →
   ((Value.slice sa m cap).ownBlock = v.ownBlock ∨ ∃ g,(Value.slice sa m cap).ownBlock = some g ∧ w.heap.size ≤ g) → K (a.put o.dst (.slice sa m cap)) w') :
  if Region.wanted o (yielded ops a.tmps) = true then Oper.wp Tryz.prog o a w K Q else E :=
 jeC hgd s x t ho e i z size bytes ht hi hz hsize hby hzs hsz v 0 [] hs hown ad m c news hx hl hnews h1 (by omega) (by rw [Nat.zero_add];exact hbytes)
  (fun sa cap w' g1 g2 g3 => by rw [Nat.zero_add] at g1 g3 ⊢; exact h sa cap w' g1 g2 g3)
theorem RowU.push0 {N : Nat → Prop} {lo g : Nat} {W w' : World} {ts' : List Ty} {uss' : List (List Value)} {v' : Value} (hs : W.heap[g]? = some (.cells #[] RefT (0,0))) (hlo : lo ≤ g) (hN : ∀ x,N x → ∀ n : Nat,x < n → x < lo) (hl : uss'.length = ts'.length) (h6 : ∀ u ∈ uss',u.length = 6) (hT : ∀ (j : Nat) (u : List Value) (t : Ty),uss'[j]? = some u → ts'[j]? = some t → TIn N W u t)
  (hown : w'.ownsRow 0 RefT 6 v' ts'.length uss'.flatten) (hg : W.grownBy w' (Value.slice (some ⟨g,0,none⟩) 0 0).ownBlock) (hb : v'.ownBlock = (Value.slice (some ⟨g,0,none⟩) 0 0).ownBlock ∨ ∃ g,v'.ownBlock = some g ∧ W.heap.size ≤ g) : RowU N lo w' v' ts' uss' :=
 RowU.push (w:=W) (ts := []) (uss := []) (RowU.start hs hlo) (fun x hx h => hN x hx _ h) (Nat.le_trans hlo (Nat.le_of_lt (ja0 hs))) hl h6 hT (by simpa using hown) hg hb
theorem flat_pos {ts : List Ty} (hg : GivenD ts) {t : Ty} (ht : t ∈ ts) : 0 < t.flat.length:=by
 refine List.length_pos_iff.2 ?_
 unfold Ty.flat
 split
 ·exact hg.flat t ht (by assumption)
 ·simp
set_option maxRecDepth 100000
set_option maxHeartbeats 6400000
theorem jm4 (N : Nat → Prop) (t u : Ty) (us vs : List Value) (w : World) (ht : TIn N w us t) (hu : TIn N w vs u) (hN : ∀ x,N x → x < w.heap.size) (hg : GivenD [t,u]) (hU : ∀ x ∈ (jbi [t,u]).flat,jbq x) :
  Calls Tryz.prog 38 #[.agg us.toArray, .agg vs.toArray] w fun e w' => ∃ b : Bool,e = .returned (.bool b) ∧ (b = false → ∀ x ∈ t.flat ++ u.flat,x.kind = 3 ∨ ∃ y ∈ (jbi [t,u]).flat,dt y = dt x) ∧ Up w w':=by
 obtain ⟨a1,a2,a3,a4,a5,rfl⟩:=ht.six
 obtain ⟨b1,b2,b3,b4,b5,rfl⟩:=hu.six
 obtain ⟨i0,hi,hz0,hz1,hz2⟩:=info_parts jgg
 have HT:=Lib.hid (And.intro ht (And.intro hu (And.intro hN (And.intro hg hU))))
 have hpt:=flat_pos hg (t:=t) (by simp)
 have hpu:=flat_pos hg (t:=u) (by simp)
 have hfew:=hg.few
 simp only [List.flatMap_cons,List.flatMap_nil,List.append_nil,List.length_append] at hfew
 have HUN:=Lib.hid (fun W (hW : Up w W) (f : Nat × Nat) => jg1 N [t,u] _ 2 _ (jlw (ht.up hW) (hu.up hW) f) (by simp) (by simp) hg (fun x hx => Nat.lt_of_lt_of_le (hN x hx) (hW.trans (Up.alloc (Up.refl W) _)).size))
 have HFT:=Lib.hid (fun W (hW : Up w W) => jdD N t _ W (ht.up hW))
 have HFU:=Lib.hid (fun W (hW : Up w W) => jdD N u _ W (hu.up hW))
 obtain ⟨tk,htk⟩ : ∃ y,Hid (t.kind = y):=⟨_,rfl⟩
 obtain ⟨TF,hTF⟩ : ∃ y,Hid (t.flat = y):=⟨_,rfl⟩
 obtain ⟨UF,hUF⟩ : ∃ y,Hid (u.flat = y):=⟨_,rfl⟩
 obtain ⟨tn,htn⟩ : ∃ y,Hid (TF.length = y):=⟨_,rfl⟩
 obtain ⟨un,hun⟩ : ∃ y,Hid (UF.length = y):=⟨_,rfl⟩
 rw [hTF.out] at HFT hpt hfew ⊢
 rw [hUF.out] at HFU hpu hfew ⊢
 rw [htn.out] at HFT hpt hfew
 rw [hun.out] at HFU hpu hfew
 obtain ⟨L,hL⟩ : ∃ z,Hid (TF ++ UF = z):=⟨_,rfl⟩
 rw [hL.out]
 obtain ⟨uk,huk⟩ : ∃ y,Hid (u.kind = y):=⟨_,rfl⟩
 rw [htk.out] at HT HUN HFT ⊢
 rw [huk.out] at HT HUN HFU ⊢
 clear ht hu hN hg hU
 go_enter Tryz.func38,Tryz.ntmps38
 go_upto_region 1 with (fail)
 refine ja4 fun A0 W0 hA0 hW0 => ?_
 have hu0 : Hid (Up w W0):=by subst hW0;exact uq
 obtain ⟨qb,hqb⟩ : ∃ z,Hid (w.heap.size = z):=⟨_,rfl⟩
 have HBT : Hid (W0.heap[qb]? = some (.cells #[.int .i64 tk,a1,a2,a3,a4,a5] RefT (0,0))):=by subst hW0;rw [← hqb.out];exact jah (ja9 _ _)
 have HBU : Hid (W0.heap[qb + 1]? = some (.cells #[.int .i64 uk,b1,b2,b3,b4,b5] RefT (0,0))):=by subst hW0;rw [← hqb.out];exact jaa _ _ _ (by simp only [gQw])
 rw [hqb.out] at hA0
 clear hW0
 subst hA0
 have s1:=HBT.out
 obtain ⟨c0,cf0,c1,cf1,c2,cf2,c3,cf3,c4,cf4,c5,cf5,cl⟩:=uc6 s1;clear s1
 have s2:=HBU.out
 obtain ⟨d0,df0,d1,df1,d2,df2,d3,df3,d4,df4,d5,df5,dl⟩:=uc6 s2;clear s2
 go_wp2_with fail
 refine (HUN.out W0 hu0.out (0,0)).mono ?_
 rintro e w1 ⟨us1,rfl,hT1,hu1⟩
 have HU1 : Hid (Up W0 w1):=(Up.alloc (Up.refl W0) _).trans hu1
 have HT1:=Lib.hid hT1
 obtain ⟨v1,v2,v3,v4,v5,rfl⟩:=hT1.six
 clear hT1 hu1
 go_wp2_with fail
 refine (jdD _ _ _ _ (HT1.out.up (show Up w1 _ from uq))).mono ?_
 rintro e w2 ⟨fa,fc,rfl,hf1,hf2,hf3,hu2⟩
 have HF2:=Lib.hid (And.intro hf1 (And.intro hf2 hf3))
 have HU2 : Hid (Up W0 w2):=HU1.out.trans (show Up w1 w2 from uq)
 obtain ⟨fl,hfl⟩ : ∃ z,Hid ((jbi [t,u]).flat.length = z):=⟨_,rfl⟩
 rw [hfl.out] at HF2 ⊢
 clear hf1 hf2 hf3 hu2
 have s1:=HU2.out.get HBT.out
 obtain ⟨c0,cf0,c1,cf1,c2,cf2,c3,cf3,c4,cf4,c5,cf5,cl⟩:=uc6 s1;clear s1
 have s2:=HU2.out.get HBU.out
 obtain ⟨d0,df0,d1,df1,d2,df2,d3,df3,d4,df4,d5,df5,dl⟩:=uc6 s2;clear s2
 go_wp2_with fail
 have HFTs:=Lib.hid (fun W (hW : Up w2 W) => HFT.out W (hu0.out.trans (HU2.out.trans hW)))
 have HFUs:=Lib.hid (fun W (hW : Up w2 W) => HFU.out W (hu0.out.trans (HU2.out.trans hW)))
 have HS : Hid (∀ X : World,Up w2 X → (X.cell? ⟨qb,0,none⟩ = some (.int .i64 tk) ∧ X.cell? ⟨qb,1,none⟩ = some a1 ∧ X.cell? ⟨qb,2,none⟩ = some a2 ∧ X.cell? ⟨qb,3,none⟩ = some a3 ∧ X.cell? ⟨qb,4,none⟩ = some a4 ∧ X.cell? ⟨qb,5,none⟩ = some a5) ∧ X.cell? ⟨qb + 1,0,none⟩ = some (.int .i64 uk) ∧ X.cell? ⟨qb + 1,1,none⟩ = some b1 ∧ X.cell? ⟨qb + 1,2,none⟩ = some b2 ∧ X.cell? ⟨qb + 1,3,none⟩ = some b3 ∧ X.cell? ⟨qb + 1,4,none⟩ = some b4 ∧ X.cell? ⟨qb + 1,5,none⟩ = some b5):=fun X hX => by
  have s1:=(HU2.out.trans hX).get HBT.out
  obtain ⟨c0,cf0,c1,cf1,c2,cf2,c3,cf3,c4,cf4,c5,cf5,cl⟩:=uc6 s1;clear s1
  have s2:=(HU2.out.trans hX).get HBU.out
  obtain ⟨d0,df0,d1,df1,d2,df2,d3,df3,d4,df4,d5,df5,dl⟩:=uc6 s2;clear s2
  exact ⟨⟨c0,c1,c2,c3,c4,c5⟩,d0,d1,d2,d3,d4,d5⟩
 have HNW : Hid (∀ x,N x → ∀ n : Nat,x < n → x < w2.heap.size):=fun x hx _ _ => Nat.lt_of_lt_of_le (HT.out.2.2.1 x hx) (hu0.out.trans HU2.out).size
 clear c0 c1 c2 c3 c4 c5 cf0 cf1 cf2 cf3 cf4 cf5 cl d0 d1 d2 d3 d4 d5 df0 df1 df2 df3 df4 df5 dl
 have hb1 : (tn + un) * 104 ≤ 140737488355328:=by omega
 have hb2 : tn + un ≤ maxLen:=by unfold maxLen;omega
 have hb3 : tn * 104 ≤ 140737488355328:=by omega
 have hb4 : tn ≤ maxLen:=by unfold maxLen;omega
 go_region_held3 (fun X => (X.cell? ⟨qb,0,none⟩ = some (.int .i64 tk) ∧ X.cell? ⟨qb,1,none⟩ = some a1 ∧ X.cell? ⟨qb,2,none⟩ = some a2 ∧ X.cell? ⟨qb,3,none⟩ = some a3 ∧ X.cell? ⟨qb,4,none⟩ = some a4 ∧ X.cell? ⟨qb,5,none⟩ = some a5) ∧ X.cell? ⟨qb + 1,0,none⟩ = some (.int .i64 uk) ∧ X.cell? ⟨qb + 1,1,none⟩ = some b1 ∧ X.cell? ⟨qb + 1,2,none⟩ = some b2 ∧ X.cell? ⟨qb + 1,3,none⟩ = some b3 ∧ X.cell? ⟨qb + 1,4,none⟩ = some b4 ∧ X.cell? ⟨qb + 1,5,none⟩ = some b5) (exact HS.out _ (show Up w2 _ from uq)) (first
  | (go_at_call 70;with_reducible refine (HFTs.out _ (show Up w2 _ from uq)).mono ?_;rintro e w3 ⟨ga,gc,rfl,h1,h2,h3,hu3⟩;obtain ⟨gb,goff,rfl⟩:=elems_first h3 (by rw [htn.out];exact hpt);obtain ⟨uss1,k1,k2,k3,k4,k5,k6⟩:=h3.rowsAt;have K1:=Lib.hid (And.intro k1 (And.intro k2 (And.intro k3 (And.intro k4 (And.intro k5 k6)))));clear k1 k2 k3 k4 k5 k6 h3 h1 h2;have U3 : Up w2 w3:=uq)
  | (refine step_append_first rfl _ _ 29 rfl RefT i0 (.agg #[.int .i64 0, .int .i64 0, .string ⟨#[]⟩, .slice none 0 0, .slice none 0 0, .slice none 0 0]) 6 104 Tryz.underlying29 hi hz0 hz1 hz2 rfl (by decide) _ rfl (RowU.start (N:=N) (lo:=w2.heap.size) (by first | exact hu3.get (ja9 _ _) | exact ja9 _ _) (by first | exact Nat.le_refl _ | exact U3.size)).own ⟨gb,goff,none⟩ tn gc uss1.flatten rfl (by rw [K1.out.2.2.2.2.2,htn.out]) (K1.out.2.2.2.2.1 _ (show Up w3 _ from uq)) K1.out.2.2.2.1 hb4 hb3 ?_;intro sa' cap' w5 hown hgrow hblk;have U5 : Up w2 w5:=Up.grown (show Up w2 _ from uq) hgrow (fun r e => by first | (cases e;exact Nat.le_refl _) | (cases e;exact U3.size));have R5:=Lib.hid (RowU.push0 (N:=N) (lo:=w2.heap.size) (by first | exact hu3.get (ja9 _ _) | exact ja9 _ _) (by first | exact Nat.le_refl _ | exact U3.size) HNW.out K1.out.1 K1.out.2.1 (K1.out.2.2.1 _ (show Up w3 _ from uq)) (by rw [htn.out];exact hown) hgrow hblk);clear hown hgrow hblk)
  | (go_at_call 70;with_reducible refine (HFUs.out _ (show Up w2 _ from uq)).mono ?_;rintro e w4 ⟨gd,ge,rfl,h1,h2,h3,hu4⟩;obtain ⟨gf,gof2,rfl⟩:=elems_first h3 (by rw [hun.out];exact hpu);obtain ⟨uss2,k1,k2,k3,k4,k5,k6⟩:=h3.rowsAt;have K2:=Lib.hid (And.intro k1 (And.intro k2 (And.intro k3 (And.intro k4 (And.intro k5 k6)))));clear k1 k2 k3 k4 k5 k6 h3 h1 h2;have U4 : Up w2 w4:=uq;have U54 : Up w5 w4:=uq)
  | (refine jeC rfl _ _ 29 rfl RefT i0 (.agg #[.int .i64 0, .int .i64 0, .string ⟨#[]⟩, .slice none 0 0, .slice none 0 0, .slice none 0 0]) 6 104 Tryz.underlying29 hi hz0 hz1 hz2 rfl (by decide) (.slice sa' tn cap') tn uss1.flatten rfl (by have:=(R5.out.up U54).own;rw [htn.out] at this;exact this) ⟨gf,gof2,none⟩ un ge uss2.flatten rfl (by rw [K2.out.2.2.2.2.2,hun.out]) (K2.out.2.2.2.2.1 _ (show Up w4 _ from uq)) K2.out.2.2.2.1 hb2 hb1 ?_;intro sa7 cap7 w7 hown hgrow hblk;have U7 : Up w2 w7:=Up.grown (show Up w2 _ from uq) hgrow (fun r e => R5.out.far r e);have R7:=Lib.hid (RowU.push (w:=w4) (R5.out.up U54) (fun x hx h => HNW.out x hx _ h) U4.size K2.out.1 K2.out.2.1 (K2.out.2.2.1 _ (show Up w4 _ from uq)) (by rw [htn.out,hun.out];exact hown) hgrow hblk);clear hown hgrow hblk))
 all_goals have HUW : Hid (Up w w7):=hu0.out.trans (HU2.out.trans U7)
 all_goals (
  obtain ⟨ln,hln⟩ : ∃ z,Hid (tn + un = z):=⟨_,rfl⟩
  obtain ⟨qa,qc,e7,_,he7⟩:=R7.out.elems
  have hLn : Hid (L.length = ln):=by rw [← hL.out, ← hln.out, ← htn.out, ← hun.out];exact List.length_append
  rw [hL.out] at he7
  rw [hln.out] at e7 hb1 hb2 ⊢
  injection e7 with q1 qq q2
  subst q1
  clear qq
  have HL:=Lib.hid he7
  have HU7 : Hid (Up w2 w7):=U7
  have HND : Hid (∀ x ∈ L,jbq x):=fun x hx => by
   rw [← hL.out, ← hTF.out, ← hUF.out] at hx
   rcases List.mem_append.1 hx with h | h
   ·exact (HT.out.2.2.2.1.part t (by simp) x h).1
   ·exact (HT.out.2.2.2.1.part u (by simp) x h).1
  have hlb : (ln : Int) ≤ 2000000:=by have:=hln.out;omega
  have hfb : (fl : Int) ≤ 2000000:=by have:=HF2.out.2.1;omega
  clear he7 q2 hb1 hb2 hb3 hb4 hfew hpt hpu U7 R7 HFT HFU HFTs HFUs HUN HS HNW hi hz0 hz1 hz2 K1 K2 R5
  go_wp2_with fail
  go_loopw [7] (fun i wr => ∃ j : Nat,j ≤ ln ∧ i = .int .i64 j ∧ Hid (∀ x ∈ L.take j,x.kind = 3 ∨ ∃ y ∈ (jbi [t,u]).flat,dt y = dt x) ∧ Up w7 wr) (fun i _ => ln - (intOf i).toNat)
  case atStart => exact ⟨0,Nat.zero_le _,rfl,(by unfold Hid;simp),uq⟩
  case round =>
   obtain ⟨j,hj,rfl,hall,hup⟩:=hrel
   obtain ⟨w8,hw8⟩ : ∃ W,W = wr:=⟨_,rfl⟩
   subst hw8
   by_cases hlt : j < ln
   ·have hji : (j : Int) < ln:=by omega
    obtain ⟨x,hx⟩ : ∃ x,L[j]? = some x:=⟨_,List.getElem?_eq_getElem (by rw [hLn.out];exact hlt)⟩
    obtain ⟨xb,xoff,x1,x2,x3,x4,x5,rfl,y0,y1,y2,y3,y4,y5,hTx⟩:=HL.out.later hup j x hx
    have hyl:=jaj y0
    have HX:=Lib.hid (And.intro hx (And.intro (HND.out x (List.mem_of_getElem? hx)) hTx))
    obtain ⟨xk,hxk⟩ : ∃ z,Hid (x.kind = z):=⟨_,rfl⟩
    rw [hxk.out] at y0 HX
    have HYC:=Lib.hid (And.intro y0 (And.intro y1 (And.intro y2 (And.intro y3 (And.intro y4 y5)))))
    have HUR : Hid (Up w7 w8):=hup
    clear hx hTx hup
    go_wp2_with fail
    go_loopw [8,9] (fun f k wq => ∃ (m : Nat) (b : Bool),m ≤ fl ∧ k = .int .i64 m ∧ f = .bool b ∧ Hid (b = true ↔ (xk = 3 ∨ ∃ y ∈ (jbi [t,u]).flat.take m,dt y = dt x)) ∧ Up w8 wq) (fun _ k _ => fl - (intOf k).toNat)
    case atStart => exact ⟨0,(xk == 3),Nat.zero_le _,rfl,rfl,(by unfold Hid;simp),uq⟩
    case round =>
     obtain ⟨m,b,hm,rfl,rfl,hfd,hup⟩:=hrel
     by_cases hlm : m < fl
     ·have hmi : (m : Int) < fl:=by omega
      obtain ⟨y,hy⟩ : ∃ y,(jbi [t,u]).flat[m]? = some y:=⟨_,List.getElem?_eq_getElem (by rw [hfl.out];exact hlm)⟩
      have HUq : Hid (Up w2 wr):=HU7.out.trans (HUR.out.trans hup)
      obtain ⟨yb,yoff,z1,z2,z3,z4,z5,rfl,c0,c1,c2,c3,c4,c5,hTy⟩:=HF2.out.2.2.later HUq.out m y hy
      have hym:=List.mem_of_getElem? hy
      have hTx:=HX.out.2.2.up hup
      have HSM:=Lib.hid (fun W (hW : Up wr W) => jlC y x (HT.out.2.2.2.2 y hym) HX.out.2.1 W.heap.size _ _ W ((hTy.up hW).tis) ((hTx.up hW).tis) (Nat.le_refl _))
      have hnx : Hid (∀ z,(∃ v ∈ (jbi [t,u]).flat.take (m + 1),dt v = z) ↔ (∃ v ∈ (jbi [t,u]).flat.take m,dt v = z) ∨ dt y = z):=fun z => by
       rw [List.take_add_one,hy]
       simp only [Option.toList_some,List.mem_append,List.mem_singleton]
       constructor
       ·rintro ⟨v,h | rfl,e⟩
        ·exact .inl ⟨v,h,e⟩
        ·exact .inr e
       ·rintro (⟨v,h,e⟩ | e)
        ·exact ⟨v, .inl h,e⟩
        ·exact ⟨y, .inr rfl,e⟩
      obtain ⟨yk,hyk⟩ : ∃ z,Hid (y.kind = z):=⟨_,rfl⟩
      rw [hyk.out] at c0 HSM
      obtain ⟨sm,hsm⟩ : ∃ z,Hid (decide (dt y = dt x) = z):=⟨_,rfl⟩
      rw [hsm.out] at HSM
      have d0 : ∀ i : RUp wr,i.W.cell? ⟨yb,yoff + m * 6,none⟩ = some (.int .i64 yk):=fun i => (i.up.cells _ _ (jaj c0)).trans c0
      have d1 : ∀ i : RUp wr,i.W.cell? ⟨yb,yoff + m * 6 + 1,none⟩ = some z1:=fun i => (i.up.cells _ _ (jaj c1)).trans c1
      have d2 : ∀ i : RUp wr,i.W.cell? ⟨yb,yoff + m * 6 + 2,none⟩ = some z2:=fun i => (i.up.cells _ _ (jaj c2)).trans c2
      have d3 : ∀ i : RUp wr,i.W.cell? ⟨yb,yoff + m * 6 + 3,none⟩ = some z3:=fun i => (i.up.cells _ _ (jaj c3)).trans c3
      have d4 : ∀ i : RUp wr,i.W.cell? ⟨yb,yoff + m * 6 + 4,none⟩ = some z4:=fun i => (i.up.cells _ _ (jaj c4)).trans c4
      have d5 : ∀ i : RUp wr,i.W.cell? ⟨yb,yoff + m * 6 + 5,none⟩ = some z5:=fun i => (i.up.cells _ _ (jaj c5)).trans c5
      obtain ⟨e0,e1,e2,e3,e4,e5⟩:=HYC.out
      have f0 : ∀ i : RUp wr,i.W.cell? ⟨xb,xoff + j * 6,none⟩ = some (.int .i64 xk):=fun i => ((hup.trans i.up).cells _ _ hyl).trans e0
      have f1 : ∀ i : RUp wr,i.W.cell? ⟨xb,xoff + j * 6 + 1,none⟩ = some x1:=fun i => ((hup.trans i.up).cells _ _ hyl).trans e1
      have f2 : ∀ i : RUp wr,i.W.cell? ⟨xb,xoff + j * 6 + 2,none⟩ = some x2:=fun i => ((hup.trans i.up).cells _ _ hyl).trans e2
      have f3 : ∀ i : RUp wr,i.W.cell? ⟨xb,xoff + j * 6 + 3,none⟩ = some x3:=fun i => ((hup.trans i.up).cells _ _ hyl).trans e3
      have f4 : ∀ i : RUp wr,i.W.cell? ⟨xb,xoff + j * 6 + 4,none⟩ = some x4:=fun i => ((hup.trans i.up).cells _ _ hyl).trans e4
      have f5 : ∀ i : RUp wr,i.W.cell? ⟨xb,xoff + j * 6 + 5,none⟩ = some x5:=fun i => ((hup.trans i.up).cells _ _ hyl).trans e5
      have C1 : Hid (∀ i : RUp wr,Calls Tryz.prog 71 #[.agg #[.int .i64 yk,z1,z2,z3,z4,z5], .agg #[.int .i64 xk,x1,x2,x3,x4,x5]] i.W fun e w' => e = .returned (.bool sm) ∧ Up i.W w'):=fun i => HSM.out _ i.up
      have HUP:=Lib.hid hup
      clear c0 c1 c2 c3 c4 c5 e0 e1 e2 e3 e4 e5 hTx hTy hy hym hup y0 y1 y2 y3 y4 y5
      cases b
      ·go_wp2_with fail
       refine jdd (by kernel_rfl) (by kernel_rfl) ?_
       repeat (go_big_quiet_step ((go_at_call 71;rename_i i;with_reducible exact Calls.rup_of i (C1.out i))))
       refine wpQuiet_nil ?_
       intro w6 hw'
       obtain ⟨i6,hw''⟩:=hw'
       have hu6 : Up wr w6:=by rw [hw''];exact i6.up
       clear hw'' i6 d0 d1 d2 d3 d4 d5 f0 f1 f2 f3 f4 f5
       go_wp2_with fail
       refine ⟨⟨m + 1,sm,by omega,by simp,rfl,?_,HUP.out.trans (show Up wr _ from uq)⟩,by simp [intOf];omega⟩
       unfold Hid
       rw [hnx.out]
       have h1:=hfd.out
       have h2:=hsm.out
       simp only [Bool.false_eq_true,false_iff,not_or] at h1
       rw [← h2,decide_eq_true_iff]
       exact ⟨fun e => .inr (.inr e),fun e => by
        rcases e with e | e | e
        ·exact absurd e h1.1
        ·exact absurd e h1.2
        ·exact e⟩
      ·go_wp2_with fail
       (try refine jdd (by kernel_rfl) (by kernel_rfl) ?_)
       repeat (go_big_quiet_step (fail))
       refine wpQuiet_nil ?_
       intro w6 hw'
       obtain ⟨i6,hw''⟩:=hw'
       have hu6 : Up wr w6:=by rw [hw''];exact i6.up
       clear hw'' i6 d0 d1 d2 d3 d4 d5 f0 f1 f2 f3 f4 f5
       go_wp2_with fail
       refine ⟨⟨m + 1,true,by omega,by simp,rfl,?_,HUP.out.trans (show Up wr _ from uq)⟩,by simp [intOf];omega⟩
       unfold Hid
       rw [hnx.out]
       have h1:=hfd.out.1 (by first | rfl | trivial)
       exact ⟨fun _ => h1.imp id fun e => .inl e,fun _ => rfl⟩
     ·obtain rfl : m = fl:=by omega
      clear hlm
      cases b
      ·go_wp2_with fail
       go_ret
       exact ⟨true,rfl,(fun e => by cases e),HUW.out.trans (HUR.out.trans (hup.trans (show Up wr _ from uq)))⟩
      ·go_wp2_with fail
       refine ⟨⟨j + 1,by omega,by simp,?_,HUR.out.trans (hup.trans (show Up wr _ from uq))⟩,by simp [intOf];omega⟩
       intro v hv
       rw [List.take_add_one,HX.out.1] at hv
       rcases List.mem_append.1 hv with h | h
       ·exact hall.out v h
       ·have h : v = x:=by simpa using h
        rw [h,hxk.out]
        have h2:=hfd.out.1 rfl
        rw [← hfl.out,List.take_length] at h2
        exact h2
   ·obtain rfl : j = ln:=by omega
    clear hlt
    go_wp2_with fail
    go_ret
    exact ⟨false,rfl,(fun _ x hx => hall.out x (by rw [← hLn.out,List.take_length];exact hx)),HUW.out.trans (show Up w7 _ from uq)⟩)
abbrev Tes10 : TypeId:=54
theorem kept_fit {K : Int} {s : ByteArray} {v u : Ty} (hK : TestOk K v) (asked : Bool) {n : Nat} (hn : u.nodes ≤ n) : 1 + sumN (jaN asked (jaQ none K s v) (jad K s v) u.flat) ≤ 3 * n + 1:=by
 have h1:=jcR (asked:=asked) (says:=jaQ none K s v) (ins:=jad K s v) (fun u => jf2 hK) u.flat
 have h2:=jcU u
 unfold sumN at h1 ⊢
 omega
theorem jnE {ts : List Ty} {p q : Nat} {P Q : Ty} (h1 : ts[p]? = some P) (h2 : ts[q]? = some Q) : [p,q].map (fun z => ts[z]?) = [P,Q].map some:=by
 simp only [List.map_cons,List.map_nil,h1,h2]
theorem parts_same {K : Int} {s : ByteArray} {v p q : Ty} (hK : TestOk K v) (hp : CV p) (hq : CV q) (asked : Bool) (hf : ∀ x ∈ p.flat ++ q.flat,x.kind = 3 ∨ x ∈ (jal [p,q]).flat) :
  keepC asked (jaQ none K s v) (jad K s v) (jal [p,q]) = jal [keepC asked (jaQ none K s v) (jad K s v) p,keepC asked (jaQ none K s v) (jad K s v) q] :=
 keep_parts hp hq (fun x hx h2 => by
  rcases List.mem_append.1 hx with h | h
  ·exact (ins_ok hK (hp.flat x h).1 (hp.flat x h).2 h2).1
  ·exact (ins_ok hK (hq.flat x h).1 (hq.flat x h).2 h2).1) (jdO hK) hf
theorem two_given {t u : Ty} (ht : Snd t) (hu : Snd u) (lt : Low t) (lu : Low u) (hn : t.nodes + u.nodes ≤ 200) : GivenD [jaA t,jaA u] :=
 jjY (ps := [t,u]) (fun p hp => by
  simp only [List.mem_cons,List.not_mem_nil,or_false] at hp
  rcases hp with rfl | rfl <;> assumption) (fun p hp => by
  simp only [List.mem_cons,List.not_mem_nil,or_false] at hp
  rcases hp with rfl | rfl <;> assumption) (by simp only [List.map_cons,List.map_nil,List.sum_cons,List.sum_nil];omega)
theorem two_union {t u : Ty} (ht : Snd t) (hu : Snd u) (lt : Low t) (lu : Low u) (hn : t.nodes + u.nodes ≤ 198) : ∀ x ∈ (jbi [jaA t,jaA u]).flat,jbq x:=fun x hx => by
 have two : ∀ P : Ty → Prop,P t → P u → ∀ z ∈ [jaA t,jaA u],(∀ y,P y → P (jaA y)) → P z:=fun P h1 h2 z hz h => by
  simp only [List.mem_cons,List.not_mem_nil,or_false] at hz
  rcases hz with rfl | rfl
  ·exact h _ h1
  ·exact h _ h2
 have b0 : ∀ k : Int,k = 1 ∨ k = 2 ∨ k = 3 → Snd (ja3 k) ∧ Low (ja3 k):=fun k hk => ⟨.mk (by omega) (by omega) (by omega) (fun p hp => by cases hp), .mk (by decide) (by decide) (fun p hp => by cases hp)⟩
 have hs : Snd (jbi [jaA t,jaA u]):=jfz (fun k hk => (b0 k hk).1) (fun l hl => .mk (by omega) (by omega) (by omega) hl) fun z hz => (two Snd ht hu z hz fun y hy => hy.norm).flat
 have hl : Low (jbi [jaA t,jaA u]):=jfz (fun k hk => (b0 k hk).2) (fun l hl => .mk (by decide) (by decide) hl) fun z hz => (two Low lt lu z hz fun y hy => hy.norm).flat
 have h1:=jgM [jaA t,jaA u]
 have h2:=jid _ t (Nat.le_refl _)
 have h3:=jid _ u (Nat.le_refl _)
 simp only [List.map_cons,List.map_nil,List.sum_cons,List.sum_nil] at h1
 have h4:=jcU (jbi [jaA t,jaA u])
 have h5:=jd7 (List.mem_map_of_mem (f:=Ty.nodes) hx)
 exact ((hs.flat x hx).given (hl.flat x hx) (by omega)).1
set_option maxHeartbeats 25600000
theorem jni (ts us xs : List Value) (t u x : Ty) (K : Int) (s : ByteArray) (yes : Bool) (m : Int) (w : World) (ht : TIs w.heap.size w ts t) (hu : TIs w.heap.size w us u) (hx : TIs w.heap.size w xs x) (htn : t.nodes ≤ 2000000) (hun : u.nodes ≤ 2000000) (hxn : x.nodes ≤ 2000000)
  (hg : GlobB w.heap.size w) (hm : w.cell? ⟨0,0,none⟩ = some (.int .i64 m)) :
  Calls Tryz.prog 12 #[.agg ts.toArray, .agg us.toArray, .agg ([Value.int .i64 K,Value.string s] ++ xs).toArray, .bool yes] w fun e w' => e = .returned (.bool true) ∧ Up w w':=by
 obtain ⟨t0,t1,t2,t3,t4,t5,rfl⟩:=ht.six
 obtain ⟨u0,u1,u2,u3,u4,u5,rfl⟩:=hu.six
 obtain ⟨x0,x1,x2,x3,x4,x5,rfl⟩:=hx.six
 have HX:=Lib.hid (And.intro ht htn)
 have HV:=Lib.hid (And.intro hu hun)
 have HY:=Lib.hid (And.intro hx hxn)
 have HG:=Lib.hid (And.intro hg hm)
 have hLX:=Lib.hid (fun W (hW : Up w W) => jcC w.heap.size t _ W (HX.out.1.low (hW.below (Nat.le_refl _))) hW.size HX.out.2)
 have hLV:=Lib.hid (fun W (hW : Up w W) => jcC w.heap.size u _ W (HV.out.1.low (hW.below (Nat.le_refl _))) hW.size HV.out.2)
 have hLY:=Lib.hid (fun W (hW : Up w W) => jcC w.heap.size x _ W (HY.out.1.low (hW.below (Nat.le_refl _))) hW.size HY.out.2)
 have hMY:=Lib.hid (fun W (hW : Up w W) (h60 : x.nodes ≤ 60) => jl2 w.heap.size K s x _ W (HY.out.1.low (hW.below (Nat.le_refl _))) hW.size h60)
 have hAX:=Lib.hid (fun W (hW : Up w W) => jjk w.heap.size _ t _ W (Nat.le_refl _) (HX.out.1.low (hW.below (Nat.le_refl _))) hW.size)
 have hAV:=Lib.hid (fun W (hW : Up w W) => jjk w.heap.size _ u _ W (Nat.le_refl _) (HV.out.1.low (hW.below (Nat.le_refl _))) hW.size)
 have hNX:=Lib.hid (fun W (hW : Up w W) (hs : Snd t) (h60 : t.nodes ≤ 60) => jgn w.heap.size _ t _ W (Nat.le_refl _) (by omega) hs (HX.out.1.low (hW.below (Nat.le_refl _))) hW.size)
 have hNV:=Lib.hid (fun W (hW : Up w W) (hs : Snd u) (h60 : u.nodes ≤ 60) => jgn w.heap.size _ u _ W (Nat.le_refl _) (by omega) hs (HV.out.1.low (hW.below (Nat.le_refl _))) hW.size)
 have HKN:=Lib.hid (fun W (hW : Up w W) => jeY W ((HG.out.1.memo (Memo.of_up jag _ hW)).mono hW.size) ((hW.cells _ _ (jaj HG.out.2)).trans HG.out.2))
 clear ht hu hx htn hun hxn hg hm
 simp only [List.cons_append,List.nil_append]
 go_enter Tryz.func12,Tryz.ntmps12
 go_upto_region 1 with (fail)
 refine ja4 fun A0 W0 hA0 hW0 => ?_
 have hu0 : Hid (Up w W0):=by subst hW0;exact uq
 obtain ⟨q,hq⟩ : ∃ z,Hid (w.heap.size = z):=⟨_,rfl⟩
 have HQT : Hid (W0.heap[q]? = some (.cells #[t0,t1,t2,t3,t4,t5] RefT (0,0))):=by subst hW0;rw [← hq.out];exact jah (jah (ja9 _ _))
 have HQU : Hid (W0.heap[q + 1]? = some (.cells #[u0,u1,u2,u3,u4,u5] RefT (0,0))):=by subst hW0;rw [← hq.out];exact jah (jaa _ _ _ (by simp only [gQw]))
 have HQX : Hid (W0.heap[q + 2]? = some (.cells #[.int .i64 K, .string s,x0,x1,x2,x3,x4,x5] Tes10 (0,0))):=by subst hW0;rw [← hq.out];exact jaa _ _ _ (by simp only [gQw])
 rw [hq.out] at hA0
 clear hW0
 subst hA0
 have s6:=HQT.out;obtain ⟨q0,p0,q1,p1,q2,p2,q3,p3,q4,p4,q5,p5,q9⟩:=uc6 s6;clear s6
 have s7:=HQU.out;obtain ⟨d0,df0,d1,df1,d2,df2,d3,df3,d4,df4,d5,df5,dl⟩:=uc6 s7;clear s7
 have s8:=HQX.out;obtain ⟨c0,cf0,c1,cf1,c2,cf2,c3,cf3,c4,cf4,c5,cf5,c6,cf6,c7,cf7,cl⟩:=uc8 s8;clear s8
 go_wp2_with fail
 refine (hLX.out _ (hu0.out.trans (show Up W0 _ from uq))).mono ?_
 rintro e w1 ⟨b1,rfl,hb1,hu1⟩
 have HB1:=Lib.hid hb1
 have HW1 : Hid (Up W0 w1):=uq
 clear hb1
 cases b1
 rotate_left
 ·go_wp2_with (first | (go_at_call 30;refine (HKN.out _ (hu0.out.trans (show Up W0 _ from uq))).mono ?_;rintro e wk ⟨rfl,huk⟩))
  go_ret
  exact ⟨rfl,hu0.out.trans (show Up W0 _ from uq)⟩
 have s6:=HW1.out.get HQT.out;obtain ⟨q0,p0,q1,p1,q2,p2,q3,p3,q4,p4,q5,p5,q9⟩:=uc6 s6;clear s6
 have s7:=HW1.out.get HQU.out;obtain ⟨d0,df0,d1,df1,d2,df2,d3,df3,d4,df4,d5,df5,dl⟩:=uc6 s7;clear s7
 have s8:=HW1.out.get HQX.out;obtain ⟨c0,cf0,c1,cf1,c2,cf2,c3,cf3,c4,cf4,c5,cf5,c6,cf6,c7,cf7,cl⟩:=uc8 s8;clear s8
 go_wp2_with fail
 refine (hLV.out _ (hu0.out.trans (show Up W0 _ from uq))).mono ?_
 rintro e w2 ⟨b2,rfl,hb2,hu2⟩
 have HB2:=Lib.hid hb2
 have HW2 : Hid (Up W0 w2):=uq
 clear hb2
 cases b2
 rotate_left
 ·go_wp2_with (first | (go_at_call 30;refine (HKN.out _ (hu0.out.trans (show Up W0 _ from uq))).mono ?_;rintro e wk ⟨rfl,huk⟩))
  go_ret
  exact ⟨rfl,hu0.out.trans (show Up W0 _ from uq)⟩
 have s6:=HW2.out.get HQT.out;obtain ⟨q0,p0,q1,p1,q2,p2,q3,p3,q4,p4,q5,p5,q9⟩:=uc6 s6;clear s6
 have s7:=HW2.out.get HQU.out;obtain ⟨d0,df0,d1,df1,d2,df2,d3,df3,d4,df4,d5,df5,dl⟩:=uc6 s7;clear s7
 have s8:=HW2.out.get HQX.out;obtain ⟨c0,cf0,c1,cf1,c2,cf2,c3,cf3,c4,cf4,c5,cf5,c6,cf6,c7,cf7,cl⟩:=uc8 s8;clear s8
 go_wp2_with fail
 refine (hLY.out _ (hu0.out.trans (show Up W0 _ from uq))).mono ?_
 rintro e w3 ⟨b3,rfl,hb3,hu3⟩
 have HB3:=Lib.hid hb3
 have HW3 : Hid (Up W0 w3):=uq
 clear hb3
 cases b3
 rotate_left
 ·go_wp2_with (first | (go_at_call 30;refine (HKN.out _ (hu0.out.trans (show Up W0 _ from uq))).mono ?_;rintro e wk ⟨rfl,huk⟩))
  go_ret
  exact ⟨rfl,hu0.out.trans (show Up W0 _ from uq)⟩
 have s6:=HW3.out.get HQT.out;obtain ⟨q0,p0,q1,p1,q2,p2,q3,p3,q4,p4,q5,p5,q9⟩:=uc6 s6;clear s6
 have s7:=HW3.out.get HQU.out;obtain ⟨d0,df0,d1,df1,d2,df2,d3,df3,d4,df4,d5,df5,dl⟩:=uc6 s7;clear s7
 have s8:=HW3.out.get HQX.out;obtain ⟨c0,cf0,c1,cf1,c2,cf2,c3,cf3,c4,cf4,c5,cf5,c6,cf6,c7,cf7,cl⟩:=uc8 s8;clear s8
 by_cases h200 : 200 < (s.size : Int)
 ·go_wp2_with (first | (go_at_call 30;refine (HKN.out _ (hu0.out.trans (show Up W0 _ from uq))).mono ?_;rintro e wk ⟨rfl,huk⟩))
  go_ret
  exact ⟨rfl,hu0.out.trans (show Up W0 _ from uq)⟩
 go_wp2_with fail
 refine (hMY.out _ (hu0.out.trans (show Up W0 _ from uq)) (HB3.out (by first | rfl | trivial))).mono ?_
 rintro e w4 ⟨b4,rfl,hb4,hu4⟩
 have HB4:=Lib.hid hb4
 have HW4 : Hid (Up W0 w4):=uq
 clear hb4
 cases b4
 ·go_wp2_with (first | (go_at_call 30;refine (HKN.out _ (hu0.out.trans (show Up W0 _ from uq))).mono ?_;rintro e wk ⟨rfl,huk⟩))
  go_ret
  exact ⟨rfl,hu0.out.trans (show Up W0 _ from uq)⟩
 have s6:=HW4.out.get HQT.out;obtain ⟨q0,p0,q1,p1,q2,p2,q3,p3,q4,p4,q5,p5,q9⟩:=uc6 s6;clear s6
 have s7:=HW4.out.get HQU.out;obtain ⟨d0,df0,d1,df1,d2,df2,d3,df3,d4,df4,d5,df5,dl⟩:=uc6 s7;clear s7
 have s8:=HW4.out.get HQX.out;obtain ⟨c0,cf0,c1,cf1,c2,cf2,c3,cf3,c4,cf4,c5,cf5,c6,cf6,c7,cf7,cl⟩:=uc8 s8;clear s8
 go_wp2_with fail
 refine (hAX.out _ (hu0.out.trans (show Up W0 _ from uq))).mono ?_
 rintro e w5 ⟨b5,rfl,hu5⟩
 have HW5 : Hid (Up W0 w5):=uq
 cases b5
 rotate_left
 ·go_wp2_with (first | (go_at_call 30;refine (HKN.out _ (hu0.out.trans (show Up W0 _ from uq))).mono ?_;rintro e wk ⟨rfl,huk⟩))
  go_ret
  exact ⟨rfl,hu0.out.trans (show Up W0 _ from uq)⟩
 have s6:=HW5.out.get HQT.out;obtain ⟨q0,p0,q1,p1,q2,p2,q3,p3,q4,p4,q5,p5,q9⟩:=uc6 s6;clear s6
 have s7:=HW5.out.get HQU.out;obtain ⟨d0,df0,d1,df1,d2,df2,d3,df3,d4,df4,d5,df5,dl⟩:=uc6 s7;clear s7
 have s8:=HW5.out.get HQX.out;obtain ⟨c0,cf0,c1,cf1,c2,cf2,c3,cf3,c4,cf4,c5,cf5,c6,cf6,c7,cf7,cl⟩:=uc8 s8;clear s8
 go_wp2_with fail
 refine (hAV.out _ (hu0.out.trans (show Up W0 _ from uq))).mono ?_
 rintro e w6 ⟨b6,rfl,hu6⟩
 have HW6 : Hid (Up W0 w6):=uq
 cases b6
 rotate_left
 ·go_wp2_with (first | (go_at_call 30;refine (HKN.out _ (hu0.out.trans (show Up W0 _ from uq))).mono ?_;rintro e wk ⟨rfl,huk⟩))
  go_ret
  exact ⟨rfl,hu0.out.trans (show Up W0 _ from uq)⟩
 have s6:=HW6.out.get HQT.out;obtain ⟨q0,p0,q1,p1,q2,p2,q3,p3,q4,p4,q5,p5,q9⟩:=uc6 s6;clear s6
 have s7:=HW6.out.get HQU.out;obtain ⟨d0,df0,d1,df1,d2,df2,d3,df3,d4,df4,d5,df5,dl⟩:=uc6 s7;clear s7
 have s8:=HW6.out.get HQX.out;obtain ⟨c0,cf0,c1,cf1,c2,cf2,c3,cf3,c4,cf4,c5,cf5,c6,cf6,c7,cf7,cl⟩:=uc8 s8;clear s8
 have HU6 : Hid (Up w w6):=hu0.out.trans HW6.out
 clear hu1 hu2 hu3 hu4 hu5 hu6
 go_wp2_with fail
 refine (jis w6).mono ?_
 rintro e w7 ⟨A,bs,g,tv,rfl,hf,hu7⟩
 have hS7 : Sta w6 w7 A bs tenT tv (.map (some g)):=Sta.new hf hu7 ((HG.out.1.memo (Memo.of_up jag _ HU6.out)).mono HU6.out.size)
 have hTX : Hid (TIs w6.heap.size w6 [t0,t1,t2,t3,t4,t5] t):=(HX.out.1.low (HU6.out.below (Nat.le_refl _))).mono HU6.out.size
 have hTV : Hid (TIs w6.heap.size w6 [u0,u1,u2,u3,u4,u5] u):=(HV.out.1.low (HU6.out.below (Nat.le_refl _))).mono HU6.out.size
 have hTY : Hid (TIs w6.heap.size w6 [x0,x1,x2,x3,x4,x5] x):=(HY.out.1.low (HU6.out.below (Nat.le_refl _))).mono HU6.out.size
 have hM6 : Hid (w6.cell? ⟨0,0,none⟩ = some (.int .i64 m)):=(HU6.out.cells _ _ (jaj HG.out.2)).trans HG.out.2
 have hl7 : Hid (bs.length = 10):=hf.len
 have HS7:=Lib.hid hS7
 have s6:=(HW6.out.trans hS7.up).get HQT.out;obtain ⟨q0,p0,q1,p1,q2,p2,q3,p3,q4,p4,q5,p5,q9⟩:=uc6 s6;clear s6
 have s7:=(HW6.out.trans hS7.up).get HQU.out;obtain ⟨d0,df0,d1,df1,d2,df2,d3,df3,d4,df4,d5,df5,dl⟩:=uc6 s7;clear s7
 have s8:=(HW6.out.trans hS7.up).get HQX.out;obtain ⟨c0,cf0,c1,cf1,c2,cf2,c3,cf3,c4,cf4,c5,cf5,c6,cf6,c7,cf7,cl⟩:=uc8 s8;clear s8
 clear hS7 hf
 go_wp2_with fail
 refine (jdu (HS7.out.later (show Up w7 _ from uq)) hTX.out hM6.out (HB1.out (by first | rfl | trivial)) (by have:=hl7.out;omega)).mono ?_
 rintro e w8 ⟨p,ok8,bs8,ts8,tv8,mv8,rfl,hS8,hl8,hx8⟩
 have HS8:=Lib.hid (And.intro hS8 (And.intro hl8 hx8))
 have s6:=(HW6.out.trans hS8.up).get HQT.out;obtain ⟨q0,p0,q1,p1,q2,p2,q3,p3,q4,p4,q5,p5,q9⟩:=uc6 s6;clear s6
 have s7:=(HW6.out.trans hS8.up).get HQU.out;obtain ⟨d0,df0,d1,df1,d2,df2,d3,df3,d4,df4,d5,df5,dl⟩:=uc6 s7;clear s7
 have s8:=(HW6.out.trans hS8.up).get HQX.out;obtain ⟨c0,cf0,c1,cf1,c2,cf2,c3,cf3,c4,cf4,c5,cf5,c6,cf6,c7,cf7,cl⟩:=uc8 s8;clear s8
 have HU8 : Hid (Up w w8):=Up.trans HU6.out hS8.up
 clear hS8 hl8 hx8
 go_wp2_with fail
 refine (jdu (HS8.out.1.later (show Up w8 _ from uq)) hTV.out hM6.out (HB2.out (by first | rfl | trivial)) (by have:=hl7.out;have:=HS8.out.2.1;rw [List.length_append];omega)).mono ?_
 rintro e w9 ⟨k0,ok9,bs9,ts9,tv9,mv9,rfl,hS9,hl9,hx9⟩
 have HS9:=Lib.hid (And.intro hS9 (And.intro hl9 hx9))
 have s6:=(HW6.out.trans hS9.up).get HQT.out;obtain ⟨q0,p0,q1,p1,q2,p2,q3,p3,q4,p4,q5,p5,q9⟩:=uc6 s6;clear s6
 have s7:=(HW6.out.trans hS9.up).get HQU.out;obtain ⟨d0,df0,d1,df1,d2,df2,d3,df3,d4,df4,d5,df5,dl⟩:=uc6 s7;clear s7
 have s8:=(HW6.out.trans hS9.up).get HQX.out;obtain ⟨c0,cf0,c1,cf1,c2,cf2,c3,cf3,c4,cf4,c5,cf5,c6,cf6,c7,cf7,cl⟩:=uc8 s8;clear s8
 have HU9 : Hid (Up w w9):=Up.trans HU6.out hS9.up
 clear hS9 hl9 hx9
 go_wp2_with fail
 refine (jdu (HS9.out.1.later (show Up w9 _ from uq)) hTY.out hM6.out (HB3.out (by first | rfl | trivial)) (by have:=hl7.out;have:=HS8.out.2.1;have:=HS9.out.2.1;simp only [List.length_append];omega)).mono ?_
 rintro e w10 ⟨T,ok10,bs10,ts10,tv10,mv10,rfl,hS10,hl10,hx10⟩
 have HS10:=Lib.hid (And.intro hS10 (And.intro hl10 hx10))
 have s6:=(HW6.out.trans hS10.up).get HQT.out;obtain ⟨q0,p0,q1,p1,q2,p2,q3,p3,q4,p4,q5,p5,q9⟩:=uc6 s6;clear s6
 have s7:=(HW6.out.trans hS10.up).get HQU.out;obtain ⟨d0,df0,d1,df1,d2,df2,d3,df3,d4,df4,d5,df5,dl⟩:=uc6 s7;clear s7
 have s8:=(HW6.out.trans hS10.up).get HQX.out;obtain ⟨c0,cf0,c1,cf1,c2,cf2,c3,cf3,c4,cf4,c5,cf5,c6,cf6,c7,cf7,cl⟩:=uc8 s8;clear s8
 have HU10 : Hid (Up w w10):=Up.trans HU6.out hS10.up
 clear hS10 hl10 hx10
 clear hu7
 cases ok8
 ·go_wp2_with (first | (go_at_call 30;refine (HKN.out _ (Up.trans HU10.out (show Up w10 _ from uq))).mono ?_;rintro e wk ⟨rfl,huk⟩))
  go_ret
  exact ⟨rfl,Up.trans HU10.out (show Up w10 _ from uq)⟩
 cases ok9
 ·go_wp2_with (first | (go_at_call 30;refine (HKN.out _ (Up.trans HU10.out (show Up w10 _ from uq))).mono ?_;rintro e wk ⟨rfl,huk⟩))
  go_ret
  exact ⟨rfl,Up.trans HU10.out (show Up w10 _ from uq)⟩
 cases ok10
 ·go_wp2_with (first | (go_at_call 30;refine (HKN.out _ (Up.trans HU10.out (show Up w10 _ from uq))).mono ?_;rintro e wk ⟨rfl,huk⟩))
  go_ret
  exact ⟨rfl,Up.trans HU10.out (show Up w10 _ from uq)⟩
 obtain ⟨P,hP1,hP2,_,hP3,hP4⟩:=HS8.out.2.2 (by first | rfl | trivial)
 obtain ⟨Q,hQ1,hQ2,_,hQ3,hQ4⟩:=HS9.out.2.2 (by first | rfl | trivial)
 obtain ⟨V,hV1,hV2,_,hV3,hV4⟩:=HS10.out.2.2 (by first | rfl | trivial)
 obtain ⟨BS,hBS⟩ : ∃ BS,bs ++ bs8 ++ bs9 ++ bs10 = BS:=⟨_,rfl⟩
 obtain ⟨TS,hTS⟩ : ∃ TS,tenT ++ ts8 ++ ts9 ++ ts10 = TS:=⟨_,rfl⟩
 have HSS : Hid (Sta w6 w10 A BS TS tv10 mv10):=by have:=HS10.out.1;rw [hBS,hTS] at this;exact this
 have hBL : Hid (BS.length ≤ 18100):=by rw [← hBS];have:=hl7.out;have:=HS8.out.2.1;have:=HS9.out.2.1;have:=HS10.out.2.1;unfold Hid;simp only [List.length_append];omega
 have hPT : Hid (TS[p]? = some P):=by rw [← hTS];exact more (more hP1)
 have hQT : Hid (TS[k0]? = some Q):=by rw [← hTS];exact more hQ1
 have hVT : Hid (TS[T]? = some V):=by rw [← hTS];exact hV1
 have hK : Hid (TestOk K V.canon):=by
  obtain ⟨k1,k2,k3⟩:=HB4.out (by first | rfl | trivial)
  refine ⟨k1,k2,fun h => ⟨by rw [hV3];exact hV4.cv,?_⟩⟩
  rw [hV3, ← hV4.norm,Ty.canon_kind]
  exact (k3 h).2
 have hPC : Hid (CV P.canon ∧ P.nodes ≤ 60 ∧ P.canon = jbm t ∧ NOk t ∧ t.nodes ≤ 60):=⟨by rw [hP3];exact hP4.cv,hP2,hP3,hP4,HB1.out (by first | rfl | trivial)⟩
 have hQC : Hid (CV Q.canon ∧ Q.nodes ≤ 60 ∧ Q.canon = jbm u ∧ NOk u ∧ u.nodes ≤ 60):=⟨by rw [hQ3];exact hQ4.cv,hQ2,hQ3,hQ4,HB2.out (by first | rfl | trivial)⟩
 clear hBS hTS hP1 hP2 hP3 hP4 hQ1 hQ2 hQ3 hQ4 hV1 hV2 hV3 hV4
 go_wp2_with fail
 refine (jgI (HSS.out.later (show Up w10 _ from uq)) [p,k0] [P,Q] 121 _ _ (jnE hPT.out hQT.out) (by have:=hPC.out;have:=hQC.out;simp only [sumN,List.map_cons,List.map_nil,List.sum_cons,List.sum_nil];omega) (by decide) (by have:=hBL.out;omega) rfl _).mono ?_
 rintro e w11 ⟨i11,bs11,ts11,tv11,mv11,X11,rfl,hS11,hl11,hx11,hv11,hc11,hn11⟩
 have H11:=Lib.hid (And.intro hS11 (And.intro hl11 (And.intro hx11 (And.intro hc11 hn11))))
 clear hS11 hl11 hx11 hv11 hc11 hn11
 go_wp2_with fail
 refine (jkD (H11.out.1.later (show Up w11 _ from uq)) H11.out.2.2.1).mono ?_
 rintro e w12 ⟨rfl,hS12⟩
 have HS12:=Lib.hid hS12
 have HW12 : Hid (Up W0 w12):=HW6.out.trans hS12.up
 clear hS12
 have s6:=HW12.out.get HQT.out;obtain ⟨q0,p0,q1,p1,q2,p2,q3,p3,q4,p4,q5,p5,q9⟩:=uc6 s6;clear s6
 have s7:=HW12.out.get HQU.out;obtain ⟨d0,df0,d1,df1,d2,df2,d3,df3,d4,df4,d5,df5,dl⟩:=uc6 s7;clear s7
 have s8:=HW12.out.get HQX.out;obtain ⟨c0,cf0,c1,cf1,c2,cf2,c3,cf3,c4,cf4,c5,cf5,c6,cf6,c7,cf7,cl⟩:=uc8 s8;clear s8
 have HU12 : Hid (Up w w12):=hu0.out.trans HW12.out
 have HN12:=Lib.hid (And.intro hPC.out.2.2.2.1.snd hQC.out.2.2.2.1.snd)
 have HN1 : Hid (∀ (z : Array Value) (W : World),Up w12 W → z = #[t0,t1,t2,t3,t4,t5] → Calls Tryz.prog 39 #[.agg z] W fun e w' => ∃ v0 v1 v2 v3 v4 v5,e = .returned (.agg #[v0,v1,v2,v3,v4,v5]) ∧ TIn (fun x => x < w'.heap.size) w' [v0,v1,v2,v3,v4,v5] (jaA t) ∧ Up W w'):=fun z W hW hz => by
  subst hz
  refine (hNX.out W (HU12.out.trans hW) HN12.out.1 hPC.out.2.2.2.2).mono ?_
  rintro e w' ⟨us,rfl,hT,hu'⟩
  obtain ⟨v1,v2,v3,v4,v5,rfl⟩:=hT.six
  exact ⟨_,v1,v2,v3,v4,v5,rfl,hT.more fun x _ hx => hx,hu'⟩
 have HN2 : Hid (∀ (z : Array Value) (W : World),Up w12 W → z = #[u0,u1,u2,u3,u4,u5] → Calls Tryz.prog 39 #[.agg z] W fun e w' => ∃ v0 v1 v2 v3 v4 v5,e = .returned (.agg #[v0,v1,v2,v3,v4,v5]) ∧ TIn (fun x => x < w'.heap.size) w' [v0,v1,v2,v3,v4,v5] (jaA u) ∧ Up W w'):=fun z W hW hz => by
  subst hz
  refine (hNV.out W (HU12.out.trans hW) HN12.out.2 hQC.out.2.2.2.2).mono ?_
  rintro e w' ⟨us,rfl,hT,hu'⟩
  obtain ⟨v1,v2,v3,v4,v5,rfl⟩:=hT.six
  exact ⟨_,v1,v2,v3,v4,v5,rfl,hT.more fun x _ hx => hx,hu'⟩
 have HS : Hid (∀ X : World,Up w12 X → (X.cell? ⟨q,0,none⟩ = some t0 ∧ X.cell? ⟨q,1,none⟩ = some t1 ∧ X.cell? ⟨q,2,none⟩ = some t2 ∧ X.cell? ⟨q,3,none⟩ = some t3 ∧ X.cell? ⟨q,4,none⟩ = some t4 ∧ X.cell? ⟨q,5,none⟩ = some t5) ∧ X.cell? ⟨q + 1,0,none⟩ = some u0 ∧ X.cell? ⟨q + 1,1,none⟩ = some u1 ∧ X.cell? ⟨q + 1,2,none⟩ = some u2 ∧ X.cell? ⟨q + 1,3,none⟩ = some u3 ∧ X.cell? ⟨q + 1,4,none⟩ = some u4 ∧ X.cell? ⟨q + 1,5,none⟩ = some u5):=fun X hX => by
  have s6:=(HW12.out.trans hX).get HQT.out;obtain ⟨c0,cf0,c1,cf1,c2,cf2,c3,cf3,c4,cf4,c5,cf5,cl⟩:=uc6 s6;clear s6
  have s7:=(HW12.out.trans hX).get HQU.out;obtain ⟨d0,df0,d1,df1,d2,df2,d3,df3,d4,df4,d5,df5,dl⟩:=uc6 s7;clear s7
  exact ⟨⟨c0,c1,c2,c3,c4,c5⟩,d0,d1,d2,d3,d4,d5⟩
 go_wp2_with fail
 go_region_held3 (fun X => (X.cell? ⟨q,0,none⟩ = some t0 ∧ X.cell? ⟨q,1,none⟩ = some t1 ∧ X.cell? ⟨q,2,none⟩ = some t2 ∧ X.cell? ⟨q,3,none⟩ = some t3 ∧ X.cell? ⟨q,4,none⟩ = some t4 ∧ X.cell? ⟨q,5,none⟩ = some t5) ∧ X.cell? ⟨q + 1,0,none⟩ = some u0 ∧ X.cell? ⟨q + 1,1,none⟩ = some u1 ∧ X.cell? ⟨q + 1,2,none⟩ = some u2 ∧ X.cell? ⟨q + 1,3,none⟩ = some u3 ∧ X.cell? ⟨q + 1,4,none⟩ = some u4 ∧ X.cell? ⟨q + 1,5,none⟩ = some u5) (exact HS.out _ (show Up w12 _ from uq)) (first
  | (go_at_call 39;refine (HN1.out _ _ (show Up w12 _ from uq) (by with_reducible rfl)).mono ?_;rintro e w13 ⟨v0,v1,v2,v3,v4,v5,rfl,hT13,hu13⟩;have HT13:=Lib.hid hT13;clear hT13;have U13 : Up w12 w13:=uq)
  | (go_at_call 39;refine (HN2.out _ _ (show Up w12 _ from uq) (by with_reducible rfl)).mono ?_;rintro e w14 ⟨y0,y1,y2,y3,y4,y5,rfl,hT14,hu14⟩;have HT14:=Lib.hid hT14;clear hT14;have U14 : Up w12 w14:=uq;have U134 : Up w13 w14:=uq)
  | (go_at_call 38;refine (jm4 (fun x => x < w14.heap.size) (jaA t) (jaA u) [v0,v1,v2,v3,v4,v5] [y0,y1,y2,y3,y4,y5] w14 ((HT13.out.up U134).more (fun x _ hx => hx)) (HT14.out.more (fun x _ hx => hx)) (fun x hx => hx) (two_given HN12.out.1 HN12.out.2 HX.out.1.lowT HV.out.1.lowT (by have:=hPC.out.2.2.2.2;have:=hQC.out.2.2.2.2;omega)) (two_union HN12.out.1 HN12.out.2 HX.out.1.lowT HV.out.1.lowT (by have:=hPC.out.2.2.2.2;have:=hQC.out.2.2.2.2;omega))).mono ?_;rintro e w15 ⟨b15,rfl,hb15,hu15⟩;have U15 : Up w12 w15:=uq))
 have HB15:=Lib.hid hb15
 have HW15 : Hid (Up W0 w15):=HW12.out.trans U15
 have HU15 : Hid (Up w w15):=hu0.out.trans HW15.out
 have HS15:=Lib.hid (HS12.out.later U15)
 clear hb15
 cases b15
 rotate_left
 ·go_wp2_with (first | (go_at_call 30;refine (HKN.out _ (HU15.out.trans (show Up w15 _ from uq))).mono ?_;rintro e wk ⟨rfl,huk⟩))
  go_ret
  exact ⟨rfl,HU15.out.trans (show Up w15 _ from uq)⟩
 have s8:=HW15.out.get HQX.out;obtain ⟨c0,cf0,c1,cf1,c2,cf2,c3,cf3,c4,cf4,c5,cf5,c6,cf6,c7,cf7,cl⟩:=uc8 s8;clear s8
 have HF : Hid (∀ z ∈ P.canon.flat ++ Q.canon.flat,z.kind = 3 ∨ z ∈ (jal [P.canon,Q.canon]).flat):=by
  have h:=jnA hPC.out.2.2.2.1 hQC.out.2.2.2.1 (HB15.out (by first | rfl | trivial))
  rw [← hPC.out.2.2.1, ← hQC.out.2.2.1] at h
  exact h
 have HALL:=Lib.hid (parts_same (s:=s) hK.out hPC.out.1 hQC.out.1 yes HF.out)
 clear HB15 HF HT13 HT14
 go_wp2_with fail
 refine (jdw (HS15.out.later (show Up w15 _ from uq)) (by have:=hBL.out;have:=H11.out.2.1;rw [List.length_append];omega) (more hPT.out) (more hVT.out) K s hK.out yes (by have:=hPC.out.2.1;omega) (N:=181) (kept_fit hK.out yes (n:=60) (by rw [Ty.nodes_canon];exact hPC.out.2.1)) (by decide) hM6.out).mono ?_
 rintro e w16 ⟨i16,bs16,ts16,tv16,mv16,X16,rfl,hS16,hl16,hx16,hv16,hc16,hn16,hz16⟩
 have H16:=Lib.hid (And.intro hS16 (And.intro hl16 (And.intro hx16 (And.intro hc16 hn16))))
 have HZ16:=Lib.hid (hz16 w15.heap.size _ (ja9 _ _))
 have s8:=HZ16.out;obtain ⟨z0,zf0,z1,zf1,z2,zf2,zl⟩:=uc3 s8;clear s8
 clear hS16 hl16 hx16 hv16 hc16 hn16 hz16
 go_wp2_with fail
 refine (jdw (H16.out.1.later (show Up w16 _ from uq)) (by have:=hBL.out;have:=H11.out.2.1;have:=H16.out.2.1;simp only [List.length_append];omega) (more (more hQT.out)) (more (more hVT.out)) K s hK.out yes (by have:=hQC.out.2.1;omega) (N:=181) (kept_fit hK.out yes (n:=60) (by rw [Ty.nodes_canon];exact hQC.out.2.1)) (by decide) hM6.out).mono ?_
 rintro e w17 ⟨i17,bs17,ts17,tv17,mv17,X17,rfl,hS17,hl17,hx17,hv17,hc17,hn17,hz17⟩
 have H17:=Lib.hid (And.intro hS17 (And.intro hl17 (And.intro hx17 (And.intro hc17 hn17))))
 have HZ17:=Lib.hid (hz17 w15.heap.size _ (Up.get (w:=w16) (show Up w16 _ from uq) HZ16.out))
 have s8:=HZ17.out;obtain ⟨z0,zf0,z1,zf1,z2,zf2,zl⟩:=uc3 s8;clear s8
 clear hS17 hl17 hx17 hv17 hc17 hn17 hz17
 go_wp2_with fail
 refine (jdw (H17.out.1.later (show Up w17 _ from uq)) (by have:=hBL.out;have:=H11.out.2.1;have:=H16.out.2.1;have:=H17.out.2.1;simp only [List.length_append];omega) (more (more H11.out.2.2.1)) (more (more (more hVT.out))) K s hK.out yes (by have:=H11.out.2.2.2.2;omega) (N:=364) (kept_fit hK.out yes (n:=121) (by rw [Ty.nodes_canon];exact H11.out.2.2.2.2)) (by decide) hM6.out).mono ?_
 rintro e w18 ⟨i18,bs18,ts18,tv18,mv18,X18,rfl,hS18,hl18,hx18,hv18,hc18,hn18,hz18⟩
 have H18:=Lib.hid (And.intro hS18 (And.intro hl18 (And.intro hx18 (And.intro hc18 hn18))))
 clear hS18 hl18 hx18 hv18 hc18 hn18 hz18
 go_wp2_with fail
 refine (jgI (H18.out.1.later (show Up w18 _ from uq)) [i16,i17] [X16,X17] 363 _ _ (jnE (more (more H16.out.2.2.1)) (more H17.out.2.2.1)) (by have:=H16.out.2.2.2.2;have:=H17.out.2.2.2.2;simp only [sumN,List.map_cons,List.map_nil,List.sum_cons,List.sum_nil];omega) (by decide) (by have:=hBL.out;have:=H11.out.2.1;have:=H16.out.2.1;have:=H17.out.2.1;have:=H18.out.2.1;simp only [List.length_append];omega) rfl _).mono ?_
 rintro e w19 ⟨i19,bs19,ts19,tv19,mv19,X19,rfl,hS19,hl19,hx19,hv19,hc19,hn19⟩
 have hsame : Hid (i19 = i18):=hS19.same hx19 (more H18.out.2.2.1) (by
  rw [hc19,H18.out.2.2.2.1,H11.out.2.2.2.1]
  simp only [List.map_cons,List.map_nil]
  rw [H16.out.2.2.2.1,H17.out.2.2.2.1]
  exact HALL.out.symm)
 have H19:=Lib.hid hS19
 have HT11 : Hid ((TS ++ ts11 ++ ts16 ++ ts17 ++ ts18 ++ ts19)[i11]? = some X11):=more (more (more (more H11.out.2.2.1)))
 clear hS19 hl19 hx19 hv19 hc19 hn19
 have es:=hsame.out
 subst es
 go_wp2_with fail
 refine (jkD (H19.out.later (show Up w19 _ from uq)) HT11.out).mono ?_
 rintro e w20 ⟨rfl,hS20⟩
 have HU20 : Hid (Up w w20):=Up.trans HU6.out hS20.up
 clear hS20
 go_wp2_with (first | (go_at_call 30;refine (HKN.out _ (HU20.out.trans (show Up w20 _ from uq))).mono ?_;rintro e wk ⟨rfl,huk⟩))
 go_ret
 exact ⟨rfl,HU20.out.trans (show Up w20 _ from uq)⟩
end Go.Proofs.YtiaepldmgighbaaGreatDoor
namespace Go.Proofs.YtiaepldmgighbaaGreatDoor
open Go.ChangeShapes Go.WideShapes Go.ChangeAt Go.RowKit
set_option linter.unusedVariables false
set_option maxRecDepth 100000
theorem tab_of {W : World} (h : laidMetH Tryz.prog Rows.narrowPartsUptoRow.laid W) : Tab W:=by
 have h1:=(laidMetH_iff.1 h).1
 have h2:=h1.filter (fun x => x.1 == "internal/strconv.uint64pow10")
 exact Lib.tabIs_of_head (g:=1) (rest := []) (by kernel_rfl) (by kernel_rfl) Tryz.underlying278 Tryz.underlying268 (by kernel_rfl) (by kernel_rfl) (show laidMet Tryz.prog [("internal/strconv.uint64pow10",Lib.tabData .u64 Lib.pow10Tab)] W from h2)
def jns : List Int := [0,1,56,2,57,49,28,3,61,58,42,50,38,29,17,4,62,47,59,36,45,43,51,22,53,39,33,30,24,18,12,5,63,55,48,27,60,41,37,16,46,35,44,21,52,32,23,11,54,26,40,15,34,20,31,10,25,14,19,9,13,8,7,6]
theorem bru_of {W : World} (h : laidMetH Tryz.prog Rows.narrowPartsUptoRow.laid W) : Bru W:=by
 have h1:=(laidMetH_iff.1 h).1
 have h2:=h1.filter (fun x => x.1 == "math/bits.deBruijn64tab")
 have h3 : Lib.TabIs Tryz.prog W "math/bits.deBruijn64tab" .u8 jns:=Lib.tabIs_of_head (g:=3) (rest := []) (by kernel_rfl) (by kernel_rfl) Tryz.underlying285 Tryz.underlying5 (by kernel_rfl) (by kernel_rfl) (show laidMet Tryz.prog [("math/bits.deBruijn64tab",Lib.tabData .u8 jns)] W from h2)
 exact h3.cell (g:=3) (by kernel_rfl) 15 (by decide)
theorem jiJ {cs : Array Value} {T : TypeId} {f : Nat × Nat} (h1 : T ≠ TyT) (h2 : T ≠ TpT) : jou (.cells cs T f):=fun cs' f' =>
 ⟨fun e => by injection e with _ e _;exact h1 e,fun e => by injection e with _ e _;exact h2 e⟩
theorem jof {W : World} (h : laidMetH Tryz.prog Rows.narrowPartsUptoRow.laid W) (hs : W.ShapedOpen Tryz.prog) : GlobB W.heap.size W:=by
 have ht:=tab_of h
 have hb:=bru_of h
 obtain ⟨cs0,h0,_,_⟩:=hs.1 1 (List.replicate 20 (Value.int .u64 0)).toArray 278 (of_decide_eq_true (by kernel_rfl)) (by kernel_rfl)
 obtain ⟨cs3,h3,_,_⟩:=hs.1 3 (List.replicate 64 (Value.int .u8 0)).toArray 285 (of_decide_eq_true (by kernel_rfl)) (by kernel_rfl)
 intro w1 k1 w2 k2
 have p0 : w2.heap[(1 : Nat)]? = W.heap[(1 : Nat)]? := (k2 _ _ (k1 _ _ (ja0 h0) h0) (jiJ (by decide) (by decide))).trans h0.symm
 have p3 : w2.heap[(3 : Nat)]? = W.heap[(3 : Nat)]? := (k2 _ _ (k1 _ _ (ja0 h3) h3) (jiJ (by decide) (by decide))).trans h3.symm
 refine ⟨?_,?_⟩
 ·unfold Tab Lib.TabIs World.var? at ht ⊢
  rw [show Tryz.prog.globalNamed "internal/strconv.uint64pow10" = some 1 by kernel_rfl] at ht ⊢
  simp only [Option.bind_some] at ht ⊢
  rw [p0]
  exact ht
 ·unfold Bru World.cell? at hb ⊢
  simp only at hb ⊢
  rw [p3]
  exact hb
theorem max_of {W : World} (hs : W.ShapedOpen Tryz.prog) : ∃ m,W.cell? ⟨0,0,none⟩ = some (.int .i64 m):=by
 obtain ⟨cs,hh,hz,hr⟩:=hs.1 0 #[.int .i64 0] 3 (of_decide_eq_true (by kernel_rfl)) (by kernel_rfl)
 obtain ⟨ts,hts,_,hall⟩:=hr (by kernel_rfl)
 rw [show Tryz.prog.cellTypes Tryz.prog.depth 3 = some [3] by kernel_rfl] at hts
 cases hts
 have h1 : 0 < cs.size:=by rw [hz];decide
 obtain ⟨u,hu',hok⟩:=hall 0 cs[0] (by simp [h1])
 have : u = 3:=by simpa using hu'.symm
 subst this
 have hcell : W.cell? ⟨0,0,none⟩ = some cs[0]:=by simp [World.cell?,hh,h1]
 rw [hcell]
 unfold Cell.ok at hok
 rw [Tryz.underlying3] at hok
 cases hv : cs[0] with
 | int k n =>
   rw [hv] at hok
   simp only at hok
   rw [hok.1]
   exact ⟨_,rfl⟩
 | _ => rw [hv] at hok;simp at hok
end Go.Proofs.YtiaepldmgighbaaGreatDoor
