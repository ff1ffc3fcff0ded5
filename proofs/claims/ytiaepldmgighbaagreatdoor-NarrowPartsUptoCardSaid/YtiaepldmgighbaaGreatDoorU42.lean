import Derived.Test.YtiaepldmgighbaaGreatDoorU40
import Derived.Test.YtiaepldmgighbaaGreatDoorU26
import Derived.Test.YtiaepldmgighbaaGreatDoorU28
namespace Go.Proofs.YtiaepldmgighbaaGreatDoor
open Go.RowKit
set_option linter.unusedSimpArgs false
set_option linter.unusedVariables false
abbrev TesT : TypeId:=129
abbrev MfT : TypeId:=175
theorem jjL (w : World) (o o' : Obj) : putB (w.alloc o) w.heap.size o' = w.alloc o':=by
 have h : (w.alloc o).heap.setIfInBounds w.heap.size o' = (w.alloc o').heap:=by
  show (w.heap.push o).setIfInBounds w.heap.size o' = w.heap.push o'
  apply Array.ext_getElem?
  intro i
  rw [Array.getElem?_setIfInBounds,Array.getElem?_push,Array.getElem?_push]
  by_cases h : w.heap.size = i
  ·subst h;simp
  ·have h' : ¬ i = w.heap.size:=fun e => h e.symm
   simp [h,h']
 unfold putB
 rw [h]
 rfl
theorem jgH {w : World} {es : Array MapEntry} {clk : Nat} {l : List (Int × Value)} (h : Entries es (Value.int .i64) id l) (k : Int) (v : Value) (hm : ∀ x ∈ l,x.1 ≠ k) :
  ∃ es' clk',(Instr.mapUpdate MfT (.map (some w.heap.size)) (.int .i64 k) v).run Tryz.prog (w.alloc (.map es clk)) = .ok () (w.alloc (.map es' clk')) ∧ Entries es' (Value.int .i64) id (l ++ [(k,v)]):=by
 obtain ⟨es',clk',h1,h2⟩:=jaP (P:=Tryz.prog) Tryz.underlying175 Tryz.underlying3 (jd9 .i64) (ja9 w (.map es clk)) h k v hm
 rw [jjL] at h1
 exact ⟨es',clk',h1,h2⟩
abbrev jbC (A : Nat) (K : Int) (s : ByteArray) (T er : Int) : Array Value := #[.pointer (some ⟨A,0,none⟩), .int .i64 K, .string s, .int .i64 T, .int .i64 er]
abbrev fnV (f kb : Nat) : Value := .func (.func f) #[.pointer (some ⟨kb,0,none⟩)] #[]
def jgY (kb : Nat) : List (Int × Value) := [(1,fnV 103 kb),(2,fnV 104 kb),(3,fnV 105 kb),(4,fnV 106 kb),(5,fnV 107 kb)]
set_option maxRecDepth 100000
set_option maxHeartbeats 3200000
theorem jkK (f : Nat) (R : Int → Prop) (kb A p : Nat) (K T : Int) (s : ByteArray) (er : Int) (w : World) (j : Nat) (hj : (jgY kb)[j]? = some (K,fnV f kb)) (h : w.heap[kb]? = some (.cells (jbC A K s T er) TesT (0,0)))
  (hf : ∀ W,Up w W → Calls Tryz.prog f #[.pointer (some ⟨kb,0,none⟩), .int .i64 p] W fun e w' => ∃ r : Int,e = .returned (.int .i64 r) ∧ Up W w' ∧ R r) :
  Calls Tryz.prog 67 #[.pointer (some ⟨kb,0,none⟩), .int .i64 p] w fun e w' => ∃ r : Int,e = .returned (.int .i64 r) ∧ Up w w' ∧ R r:=by
 have hs:=h
 obtain ⟨b0,g0,b1,g1,b2,g2,b3,g3,b4,g4,b9⟩:=uc5 hs;clear hs
 have hmm:=@run_makeMap Tryz.prog
 obtain ⟨es1,k1,r1,e1⟩:=jgH (w:=w) (es := #[]) (clk:=0) (l := []) rfl 1 (fnV 103 kb) (by simp)
 obtain ⟨es2,k2,r2,e2⟩:=jgH (w:=w) (clk:=k1) e1 2 (fnV 104 kb) (by simp)
 obtain ⟨es3,k3,r3,e3⟩:=jgH (w:=w) (clk:=k2) e2 3 (fnV 105 kb) (by simp)
 obtain ⟨es4,k4,r4,e4⟩:=jgH (w:=w) (clk:=k3) e3 4 (fnV 106 kb) (by simp)
 obtain ⟨es5,k5,r5,e5⟩:=jgH (w:=w) (clk:=k4) e4 5 (fnV 107 kb) (by simp)
 have hl:=(jaG (P:=Tryz.prog) Tryz.underlying175 Tryz.underlying3 (jd9 .i64) (ja9 w (.map es5 k5)) e5 K (fnV f kb) j hj (by simp)).2
 simp only [id] at hl
 have HF:=Lib.hid hf
 have h5 : (K = 1 ∧ f = 103) ∨ (K = 2 ∧ f = 104) ∨ (K = 3 ∧ f = 105) ∨ (K = 4 ∧ f = 106) ∨ (K = 5 ∧ f = 107):=by
  match j,hj with
  | 0,hj => simp [jgY,fnV] at hj;exact .inl ⟨hj.1.symm,hj.2.symm⟩
  | 1,hj => simp [jgY,fnV] at hj;exact .inr (.inl ⟨hj.1.symm,hj.2.symm⟩)
  | 2,hj => simp [jgY,fnV] at hj;exact .inr (.inr (.inl ⟨hj.1.symm,hj.2.symm⟩))
  | 3,hj => simp [jgY,fnV] at hj;exact .inr (.inr (.inr (.inl ⟨hj.1.symm,hj.2.symm⟩)))
  | 4,hj => simp [jgY,fnV] at hj;exact .inr (.inr (.inr (.inr ⟨hj.1.symm,hj.2.symm⟩)))
  | j + 5,hj => simp [jgY] at hj
 clear e1 e2 e3 e4 e5 hf hj h
 rcases h5 with ⟨rfl,rfl⟩ | ⟨rfl,rfl⟩ | ⟨rfl,rfl⟩ | ⟨rfl,rfl⟩ | ⟨rfl,rfl⟩
 all_goals (
  go_enter Tryz.func67,Tryz.ntmps67
  go_wp2_with (first
   | (go_at_call 103;refine (HF.out _ (show Up w _ from uq)).mono ?_;rintro e w2 ⟨r,rfl,hu2,hr⟩;have HR:=Lib.hid hr;clear hr)
   | (go_at_call 104;refine (HF.out _ (show Up w _ from uq)).mono ?_;rintro e w2 ⟨r,rfl,hu2,hr⟩;have HR:=Lib.hid hr;clear hr)
   | (go_at_call 105;refine (HF.out _ (show Up w _ from uq)).mono ?_;rintro e w2 ⟨r,rfl,hu2,hr⟩;have HR:=Lib.hid hr;clear hr)
   | (go_at_call 106;refine (HF.out _ (show Up w _ from uq)).mono ?_;rintro e w2 ⟨r,rfl,hu2,hr⟩;have HR:=Lib.hid hr;clear hr)
   | (go_at_call 107;refine (HF.out _ (show Up w _ from uq)).mono ?_;rintro e w2 ⟨r,rfl,hu2,hr⟩;have HR:=Lib.hid hr;clear hr))
  go_ret
  exact ⟨r,rfl,uq,HR.out⟩)
abbrev IntE : TypeId:=3
theorem jkB (b : Nat) (s : ByteArray) (hs : (s.toList == []) = false) (w : World) (h : w.cell? ⟨b,7,none⟩ = some (.string s)) :
  Calls Tryz.prog 61 #[.pointer (some ⟨b,0,none⟩)] w fun e w' => e = .returned (.string s) ∧ Up w w':=by
 go_enter Tryz.func61,Tryz.ntmps61
 go_wp2_with fail
 go_ret
 exact ⟨rfl,uq⟩
theorem jlk : (Tryz.prog.info? IntE).map (fun i => (i.zero,i.size,i.bytes)) = some (some (.int .i64 0),1,8):=by kernel_rfl
structure AtH (N : Nat → Prop) (A i n tcap gr b g : Nat) (es : Array MapEntry) (clk : Nat) (dv : Value) (k num : Int) (nm : ByteArray) (pv nv mv : Value) (sz : Nat) (said : ByteArray) (qs zs : List Nat) (xs : List (ByteArray × Nat)) (ns : List ByteArray) (ms : List Bool) (w : World) : Prop where
 head : w.heap[A]? = some (.cells #[.slice (some ⟨gr,0,none⟩) n tcap, .map (some g),dv] ArT (0,0))
 less : i < n
 row : gr < w.heap.size ∧ w.cell? ⟨gr,i,none⟩ = some (ptrV b)
 blk : w.heap[b]? = some (.cells (tyC k num nm pv nv mv sz said) TyT (0,0))
 parts : RowOf TpT N w pv (qs.map ptrV)
 map_ : w.heap[g]? = some (.map es clk)
 ents : Entries es Value.string numV xs
 nodup : (xs.map (·.1)).Nodup
 len : zs.length = qs.length
 part : ∀ (j q z : Nat),qs[j]? = some q → zs[j]? = some z → ∃ s : ByteArray,(s.toList == []) = false ∧ q < w.heap.size ∧ w.cell? ⟨q,7,none⟩ = some (.string s) ∧ xs[z]? = some (s,z)
 names : RowV N w nv (ns.map .string)
 marks : RowV N w mv (ms.map .bool)
 few : qs.length ≤ 1000000 ∧ ns.length ≤ 1000000 ∧ ms.length ≤ 1000000
theorem AtH.up {N : Nat → Prop} {A i n tcap gr b g : Nat} {es : Array MapEntry} {clk : Nat} {dv : Value} {k num : Int} {nm : ByteArray} {pv nv mv : Value} {sz : Nat} {said : ByteArray} {qs zs : List Nat} {xs : List (ByteArray × Nat)} {ns : List ByteArray} {ms : List Bool} {w w' : World}
  (h : AtH N A i n tcap gr b g es clk dv k num nm pv nv mv sz said qs zs xs ns ms w) (u : Up w w') : AtH N A i n tcap gr b g es clk dv k num nm pv nv mv sz said qs zs xs ns ms w' :=
 { h with
   head:=u.get h.head
   row:=⟨Nat.lt_of_lt_of_le h.row.1 u.size,(u.cells _ _ h.row.1).trans h.row.2⟩
   blk:=u.get h.blk
   parts:=h.parts.keep fun _ _ _ q1 q2 => ⟨q1,u.get q2⟩
   map_:=u.get h.map_
   part:=fun j q z h1 h2 => by
    obtain ⟨s,q1,q2,q3,q4⟩:=h.part j q z h1 h2
    exact ⟨s,q1,Nat.lt_of_lt_of_le q2 u.size,(u.cells _ _ q2).trans q3,q4⟩
   names:=h.names.up u
   marks:=h.marks.up u }
theorem jox (N : Nat → Prop) (A i n tcap gr b g : Nat) (es : Array MapEntry) (clk : Nat) (dv : Value) (k num : Int) (nm : ByteArray) (pv nv mv : Value) (sz : Nat) (said : ByteArray) (qs zs : List Nat) (xs : List (ByteArray × Nat)) (ns : List ByteArray) (ms : List Bool) (w : World)
  (h : AtH N A i n tcap gr b g es clk dv k num nm pv nv mv sz said qs zs xs ns ms w) :
  Calls Tryz.prog 64 #[.pointer (some ⟨A,0,none⟩), .int .i64 i] w fun e w' => ∃ v nv' mv',e = .returned (.tuple #[.agg #[.int .i64 k, .int .i64 num, .string nm,v,nv',mv'], .int .i64 0]) ∧ w'.ownsRow 0 IntE 1 v zs.length (zs.map fun z => Value.int .i64 (Int.ofNat z)) ∧ RowOf StrT (fun _ => True) w' nv' (ns.map .string) ∧ RowOf BooT (fun _ => True) w' mv' (ms.map .bool) ∧ Up w w':=by
 obtain ⟨pa,pcap,hpv,hpc,hpl,hpj⟩:=h.parts
 simp only [List.length_map] at hpv hpc hpl
 subst hpv
 obtain ⟨na,ncap,hnv,_,_⟩:=h.names.form
 obtain ⟨ka,kcap,hkv,_,_⟩:=h.marks.form
 simp only [List.length_map] at hnv hkv
 subst hnv hkv
 have HJ:=Lib.hid hpj
 clear hpj
 have H:=Lib.hid h
 have a4:=ja0 h.head
 have hji : (i : Int) < n:=by have:=h.less;omega
 clear h
 go_enter Tryz.func64,Tryz.ntmps64
 go_wp2_with fail
 refine wp_scope_straight ?_
 go_wp2_with (first | (go_at_call 60;refine (jg0 dv A n tcap _ _ i H.out.less _ (Up.get (show Up w _ from uq) H.out.head)).mono ?_;rintro e w2 ⟨rfl,hu2⟩;have u2 : Up w w2:=uq;have H2:=Lib.hid (H.out.up u2);have a0:=ja1 H2.out.head 0;have a4:=ja0 H2.out.head;have g0:=H2.out.row.2;simp only [ptrV] at g0;have g4:=H2.out.row.1;have b0:=ja1 H2.out.blk 0;have b1:=ja1 H2.out.blk 1;have b2:=ja1 H2.out.blk 2;have b3:=ja1 H2.out.blk 3;have b5:=ja1 H2.out.blk 4;have b6:=ja1 H2.out.blk 5;have b4:=ja0 H2.out.blk;simp only [gQa,gQz,gQs] at a0 b0 b1 b2 b3 b5 b6))
 refine wp_label ?_
 go_wp2_with fail
 go_loopw [7,32] (fun v i wr => ∃ j : Nat,j ≤ qs.length ∧ i = .int .i64 j ∧ wr.ownsRow 0 IntE 1 v j ((zs.take j).map fun z => Value.int .i64 (Int.ofNat z)) ∧ (∀ g,v.ownBlock = some g → w2.heap.size ≤ g) ∧ Up w2 wr) (fun _ i _ => qs.length - (intOf i).toNat)
 case atStart => exact ⟨0,Nat.zero_le _,rfl,(show w2.ownsRow 0 IntE 1 (.slice none 0 0) 0 [] from ⟨rfl, .inl ⟨rfl,rfl⟩⟩),(fun g hg => by simp [Value.ownBlock] at hg),Up.refl _⟩
 case round =>
  obtain ⟨j,hj,rfl,hv,hvb,hup⟩:=hrel
  by_cases hlt : j < qs.length
  ·have hji2 : (j : Int) < qs.length:=by omega
   obtain ⟨q,hqj⟩ : ∃ q,qs[j]? = some q:=⟨_,List.getElem?_eq_getElem hlt⟩
   obtain ⟨z,hzj⟩ : ∃ z,zs[j]? = some z:=⟨_,List.getElem?_eq_getElem (by rw [H.out.len];exact hlt)⟩
   obtain ⟨pg,poff,pcs,pfz,rfl,_,hpg,hpc0⟩:=HJ.out j (ptrV q) (by rw [List.getElem?_map,hqj];rfl)
   have y0:=(hup.cells _ _ (Nat.lt_of_lt_of_le (ja0 hpg) u2.size)).trans ((u2.cells _ _ (ja0 hpg)).trans ((ja1 hpg (poff + j)).trans hpc0))
   have yl : pg < wr.heap.size:=Nat.lt_of_lt_of_le (ja0 hpg) (u2.trans hup).size
   simp only [ptrV] at y0
   obtain ⟨va,vcap,rfl⟩:=ja7 hv
   have HV:=Lib.hid (And.intro hv (And.intro hvb hup))
   have HR:=Lib.hid (H2.out.up hup)
   obtain ⟨s,hs0,hql,hq7,hxz⟩:=HR.out.part j q z hqj hzj
   have HX:=Lib.hid hxz
   have HT:=Lib.hid (fun (W : World) (hW : Up wr W) => jkB q s hs0 W ((hW.cells _ _ hql).trans hq7))
   have a1:=ja1 HR.out.head 1
   have a4:=ja0 HR.out.head
   simp only [gQa,gQz,gQs] at a1
   have hlk : Hid (∀ W : World,Up wr W → (Instr.lookup 100 (.map (some g)) (.string s) true).run Tryz.prog W = .ok (.tuple #[.int .i64 z, .bool true]) W):=fun W hW => (jaG (f:=numV) Tryz.underlying100 Tryz.underlying9 jb9 (hW.get HR.out.map_) H.out.ents s z z HX.out H.out.nodup).1
   have HNX : Hid ((zs.take (j + 1)).map (fun z => Value.int .i64 (Int.ofNat z)) = (zs.take j).map (fun z => Value.int .i64 (Int.ofNat z)) ++ [.int .i64 z]):=by
    unfold Hid
    rw [List.take_add_one,hzj,List.map_append]
    rfl
   clear hqj hzj hv hvb hup hpg hpc0 hq7 hxz hs0
   go_wp2_with fail
   go_region_law (first | (go_simp;go_at_call 61;refine (HT.out _ (show Up wr _ from uq)).mono ?_;rintro e w3 ⟨rfl,hu3⟩;have u3 : Up wr w3:=uq;have a1:=(u3.cells _ _ a4).trans a1;have a4:=Nat.lt_of_lt_of_le a4 u3.size;have hlk:=hlk.out w3 u3))
   all_goals (obtain ⟨i0,hi,hz0,hz1,hz2⟩:=info_parts jlk)
   all_goals (have HU3:=Lib.hid u3)
   all_goals (have HB4:=Lib.hid a4)
   all_goals (clear hlk)
   all_goals (go_wp2_with (at_builtin;go_must (refine jae rfl _ _ 43 rfl IntE i0 (.int .i64 0) 1 8 Tryz.underlying43 hi hz0 hz1 hz2 rfl (by decide) (.slice va j vcap) j ((zs.take j).map fun z => Value.int .i64 (Int.ofNat z)) rfl (ja5 HV.out.1 uq) _ 1 1 rfl (by first | rfl | (simp;done) | omega) rfl (by intro u hu;have hu2 : u = .int .i64 z:=(by simpa using hu);rw [hu2];rfl) (by have:=H.out.few.1;unfold maxLen;omega) (by omega) ?_;intro sa' cap' w7 hown' hgrow hblk;have HY:=Lib.hid (And.intro hown' (And.intro hgrow hblk));clear hown' hgrow hblk)))
   all_goals (refine ⟨⟨j + 1,by omega,by simp,by rw [HNX.out];exact HY.out.1,fun g' hg => ?_,?_⟩,by simp [intOf];omega⟩)
   all_goals first
    | (refine Up.grown (W:=_) ?_ HY.out.2.1 (fun r e => HV.out.2.1 r e);exact (HV.out.2.2.trans HU3.out).alloc _)
    | (rcases HY.out.2.2 with q | ⟨g2,q,q2⟩
       ·exact HV.out.2.1 g' (by rw [← q];exact hg)
       ·rw [q] at hg
        cases hg
        have:=HV.out.2.2.size
        have:=HU3.out.size
        omega)
  ·obtain rfl : j = qs.length:=by omega
   rw [← H.out.len,List.take_length] at hv
   obtain ⟨va,vcap,rfl⟩:=ja7 hv
   have HV:=Lib.hid (And.intro hv (And.intro hvb hup))
   have HR:=Lib.hid (H2.out.up hup)
   have hc1:=Lib.hid (fun (W : World) (hW : Up wr W) => jfd N (fun x => wr.heap.size ≤ x) _ ns W (HR.out.names.up hW) (by have:=H.out.few.2.1;omega) (fun _ hx => Nat.le_trans hW.size hx))
   have hc2:=Lib.hid (fun (W : World) (hW : Up wr W) => jfe N (fun x => wr.heap.size ≤ x) _ ms W (HR.out.marks.up hW) (by have:=H.out.few.2.2;omega) (fun _ hx => Nat.le_trans hW.size hx))
   clear hlt hv hvb hup b3
   have HBX : Hid (wr.heap[w.heap.size]? = some (.cells #[.int .i64 0, .int .i64 0, .string ⟨#[]⟩, .slice none 0 0, .slice none 0 0, .slice none 0 0] 46 (0,0))):=HV.out.2.2.get (hu2.get (ja9 w _))
   have HS : Hid (∀ X : World,Up w X → X.cell? ⟨b,0,none⟩ = some (.int .i64 k) ∧ X.cell? ⟨b,1,none⟩ = some (.int .i64 num) ∧ X.cell? ⟨b,2,none⟩ = some (.string nm) ∧ X.cell? ⟨b,4,none⟩ = some (.slice na ns.length ncap) ∧ X.cell? ⟨b,5,none⟩ = some (.slice ka ms.length kcap)):=fun X hX => ⟨ja1 (hX.get H.out.blk) 0,ja1 (hX.get H.out.blk) 1,ja1 (hX.get H.out.blk) 2,ja1 (hX.get H.out.blk) 4,ja1 (hX.get H.out.blk) 5⟩
   have ur : Up w wr:=u2.trans HV.out.2.2
   have x0:=ja1 HR.out.blk 0
   have x1:=ja1 HR.out.blk 1
   have x2:=ja1 HR.out.blk 2
   have x4:=ja1 HR.out.blk 4
   have x5:=ja1 HR.out.blk 5
   simp only [gQa,gQz,gQs] at x0 x1 x2 x4 x5
   have xl:=ja0 HR.out.blk
   clear b0 b1 b2 b5 b6 a0 g0 g4 b4
   go_wp2_with fail
   go_region_held3 (fun X => X.cell? ⟨b,0,none⟩ = some (.int .i64 k) ∧ X.cell? ⟨b,1,none⟩ = some (.int .i64 num) ∧ X.cell? ⟨b,2,none⟩ = some (.string nm) ∧ X.cell? ⟨b,4,none⟩ = some (.slice na ns.length ncap) ∧ X.cell? ⟨b,5,none⟩ = some (.slice ka ms.length kcap)) (exact HS.out _ (show Up w _ from uq)) (first
    | (go_at_call 58;refine (hc1.out _ (show Up wr _ from uq)).mono ?_;rintro e w5 ⟨nv',rfl,hr5,hu5⟩;obtain ⟨nva,nvc,rfl,_,_⟩:=hr5.form;simp only [List.length_map] at hr5;have u5 : Up wr w5:=uq;have HC1:=Lib.hid (And.intro hr5 u5);have HQ5:=Lib.hid (u5.get HR.out.blk);have x0:=ja1 HQ5.out 0;have x1:=ja1 HQ5.out 1;have x2:=ja1 HQ5.out 2;have x4:=ja1 HQ5.out 4;have x5:=ja1 HQ5.out 5;simp only [gQa,gQz,gQs] at x0 x1 x2 x4 x5;have xl:=ja0 HQ5.out;have s0:=u5.get HBX.out;obtain ⟨q0,p0,q1,p1,q2,p2,q3,p3,q4,p4,q5,p5,q9⟩:=uc6 s0;clear s0;clear hr5)
    | (go_at_call 59;refine (hc2.out _ (show Up wr _ from uq)).mono ?_;rintro e w6 ⟨mv',rfl,hr6,hu6⟩;obtain ⟨mva,mvc,rfl,_,_⟩:=hr6.form;simp only [List.length_map] at hr6;have u6 : Up wr w6:=uq;have HC2:=Lib.hid (And.intro hr6 (And.intro u6 (show Up w5 w6 from uq)));have HQ6:=Lib.hid (u6.get HR.out.blk);have x0:=ja1 HQ6.out 0;have x1:=ja1 HQ6.out 1;have x2:=ja1 HQ6.out 2;have x4:=ja1 HQ6.out 4;have x5:=ja1 HQ6.out 5;simp only [gQa,gQz,gQs] at x0 x1 x2 x4 x5;have xl:=ja0 HQ6.out;have s0:=u6.get HBX.out;obtain ⟨q0,p0,q1,p1,q2,p2,q3,p3,q4,p4,q5,p5,q9⟩:=uc6 s0;clear s0;clear hr6))
   go_wp2_with fail
   rw [Exit.noGoto_ret]
   refine bodyPost_ret (v := .tuple #[.agg #[.int .i64 k, .int .i64 num, .string nm, .slice va zs.length vcap, .slice nva ns.length nvc, .slice mva ms.length mvc], .int .i64 0]) (by simp [results,Tryz.results64,go_sem, *]) rfl ?_
   refine ⟨_,_,_,rfl,?_,?_,?_,?_⟩
   ·exact ja8 (w:=w6) (ja5 HV.out.1 HC2.out.2.1) (fun g' hg => by have:=HV.out.2.1 g' hg;have hz:=hu2.size;simp only [gQw] at hz;repeat rw [ja2 (by omega)])
   ·have hr:=HC1.out.1.up (show Up w5 w6 from HC2.out.2.2)
    exact hr.keep fun g' cs fz h1 h2 => ⟨trivial,by have hz:=hu2.size;have hz2:=HV.out.2.2.size;simp only [gQw] at hz;repeat rw [ja2 (by omega)]
                                                    exact h2⟩
   ·have hr:=HC2.out.1
    exact hr.keep fun g' cs fz h1 h2 => ⟨trivial,by have hz:=hu2.size;have hz2:=HV.out.2.2.size;simp only [gQw] at hz;repeat rw [ja2 (by omega)]
                                                    exact h2⟩
   ·exact uq
abbrev PieT : TypeId:=73
theorem jjN : (Tryz.prog.info? PieT).map (fun i => (i.zero,i.size,i.bytes)) = some (some (.agg #[.string ⟨#[]⟩, .int .i64 0, .bool false]),3,32):=by kernel_rfl
theorem jmx (A q z g : Nat) (es : Array MapEntry) (clk : Nat) (tv dv : Value) (s : ByteArray) (xs : List (ByteArray × Nat)) (w : World) (hA : w.heap[A]? = some (.cells #[tv, .map (some g),dv] ArT (0,0))) (hm : w.heap[g]? = some (.map es clk))
  (hE : Entries es Value.string numV xs) (hn : (xs.map (·.1)).Nodup) (hz : xs[z]? = some (s,z)) (hs : (s.toList == []) = false) (ht : w.cell? ⟨q,7,none⟩ = some (.string s)) (hl : q < w.heap.size) :
  Calls Tryz.prog 48 #[.pointer (some ⟨A,0,none⟩), .pointer (some ⟨q,0,none⟩)] w fun e w' => e = .returned (.int .i64 z) ∧ Up w w':=by
 have HA:=Lib.hid hA
 have HT:=Lib.hid (fun (W : World) (hW : Up w W) => jkB q s hs W ((hW.cells _ _ hl).trans ht))
 have hlk : Hid (∀ W : World,Up w W → (Instr.lookup 100 (.map (some g)) (.string s) true).run Tryz.prog W = .ok (.tuple #[.int .i64 z, .bool true]) W):=fun W hW => (jaG (f:=numV) Tryz.underlying100 Tryz.underlying9 jb9 (hW.get hm) hE s z z hz hn).1
 have a1:=ja1 hA 1
 have a4:=ja0 hA
 simp only [gQa,gQz,gQs] at a1
 clear hA hm hE hn hz hs ht hl
 go_enter Tryz.func48,Tryz.ntmps48
 go_wp2_with fail
 go_region_law (first | (go_simp;go_at_call 61;refine (HT.out _ (show Up w _ from uq)).mono ?_;rintro e w3 ⟨rfl,hu3⟩;have u3 : Up w w3:=uq;have a1:=(u3.cells _ _ a4).trans a1;have a4:=Nat.lt_of_lt_of_le a4 u3.size;have hlk:=hlk.out w3 u3))
 all_goals (go_wp2_with fail)
 all_goals go_ret
 all_goals exact ⟨rfl,uq⟩
theorem jhJ (N : Nat → Prop) (A i n tcap gr b g : Nat) (es : Array MapEntry) (clk : Nat) (k num : Int) (nm : ByteArray) (pv nv mv : Value) (sz : Nat) (said : ByteArray) (qs zs : List Nat) (xs : List (ByteArray × Nat)) (ns : List ByteArray) (ms : List Bool) (w : World)
  (h : AtH N A i n tcap gr b g es clk (.map none) k num nm pv nv mv sz said qs zs xs ns ms w) (hk : k ≠ 14 ∧ k ≠ 17) :
  Calls Tryz.prog 168 #[.pointer (some ⟨A,0,none⟩), .int .i64 i] w fun e w' => e = .returned (.tuple #[.slice none 0 0, .int .i64 11]) ∧ Up w w':=by
 have H:=Lib.hid h
 have a4:=ja0 h.head
 have hji : (i : Int) < n:=by have:=h.less;omega
 have k14 : (k == 14) = false:=by simpa using hk.1
 have k17 : (k == 17) = false:=by simpa using hk.2
 clear h hk
 go_enter Tryz.func168,Tryz.ntmps168
 go_wp2_with (first | (go_at_call 60;refine (jg0 (.map none) A n tcap _ _ i H.out.less _ (Up.get (show Up w _ from uq) H.out.head)).mono ?_;rintro e w2 ⟨rfl,hu2⟩;have u2 : Up w w2:=uq;have H2:=Lib.hid (H.out.up u2);have a0:=ja1 H2.out.head 0;have a4:=ja0 H2.out.head;have g0:=H2.out.row.2;simp only [ptrV] at g0;have g4:=H2.out.row.1;have b0:=ja1 H2.out.blk 0;have b4:=ja0 H2.out.blk;simp only [gQa,gQz,gQs] at a0 b0;clear u2))
 refine bodyPost_ret (v := .tuple #[.slice none 0 0, .int .i64 11]) (by simp [results,Tryz.results168,go_sem]) rfl ?_
 exact ⟨rfl,uq⟩
theorem jkh (N : Nat → Prop) (A i n tcap gr b g : Nat) (es : Array MapEntry) (clk : Nat) (dv : Value) (num : Int) (nm : ByteArray) (pv nv mv : Value) (sz : Nat) (said : ByteArray) (qs zs : List Nat) (xs : List (ByteArray × Nat)) (ns : List ByteArray) (ms : List Bool) (w : World)
  (h : AtH N A i n tcap gr b g es clk dv 14 num nm pv nv mv sz said qs zs xs ns ms w) (hln : ns.length = qs.length) (hlm : ms.length = qs.length) :
  Calls Tryz.prog 168 #[.pointer (some ⟨A,0,none⟩), .int .i64 i] w fun e w' => ∃ v,e = .returned (.tuple #[v, .int .i64 0]) ∧ w'.ownsRow 0 PieT 3 v qs.length ((List.range qs.length).flatMap fun j => [.string (ns.getD j ⟨#[]⟩), .int .i64 (Int.ofNat (zs.getD j 0)), .bool (ms.getD j false)]) ∧ Up w w':=by
 obtain ⟨pa,pcap,hpv,hpc,hpl,hpj⟩:=h.parts
 simp only [List.length_map] at hpv hpc hpl
 subst hpv
 obtain ⟨na,ncap,hnv,_,_⟩:=h.names.form
 obtain ⟨ka,kcap,hkv,_,_⟩:=h.marks.form
 simp only [List.length_map] at hnv hkv
 rw [hln] at hnv
 rw [hlm] at hkv
 subst hnv hkv
 have HJ:=Lib.hid hpj
 clear hpj
 have H:=Lib.hid h
 have HL:=Lib.hid (And.intro hln hlm)
 have a4:=ja0 h.head
 have hji : (i : Int) < n:=by have:=h.less;omega
 clear h hln hlm
 go_enter Tryz.func168,Tryz.ntmps168
 go_wp2_with (first | (go_at_call 60;refine (jg0 dv A n tcap _ _ i H.out.less _ (Up.get (show Up w _ from uq) H.out.head)).mono ?_;rintro e w2 ⟨rfl,hu2⟩;have u2 : Up w w2:=uq;have H2:=Lib.hid (H.out.up u2);have a0:=ja1 H2.out.head 0;have a4:=ja0 H2.out.head;have g0:=H2.out.row.2;simp only [ptrV] at g0;have g4:=H2.out.row.1;have b0:=ja1 H2.out.blk 0;have b3:=ja1 H2.out.blk 3;have b4:=ja0 H2.out.blk;simp only [gQa,gQz,gQs] at a0 b0 b3))
 go_loopw [7,43] (fun v i wr => ∃ j : Nat,j ≤ qs.length ∧ i = .int .i64 j ∧ wr.ownsRow 0 PieT 3 v j ((List.range j).flatMap fun j => [.string (ns.getD j ⟨#[]⟩), .int .i64 (Int.ofNat (zs.getD j 0)), .bool (ms.getD j false)]) ∧ (∀ g,v.ownBlock = some g → w2.heap.size ≤ g) ∧ Up w2 wr) (fun _ i _ => qs.length - (intOf i).toNat)
 case atStart => exact ⟨0,Nat.zero_le _,rfl,(show w2.ownsRow 0 PieT 3 (.slice none 0 0) 0 [] from ⟨rfl, .inl ⟨rfl,rfl⟩⟩),(fun g hg => by simp [Value.ownBlock] at hg),Up.refl _⟩
 case round =>
  obtain ⟨j,hj,rfl,hv,hvb,hup⟩:=hrel
  by_cases hlt : j < qs.length
  ·have hji2 : (j : Int) < qs.length:=by omega
   obtain ⟨q,hqj⟩ : ∃ q,qs[j]? = some q:=⟨_,List.getElem?_eq_getElem hlt⟩
   obtain ⟨z,hzj⟩ : ∃ z,zs[j]? = some z:=⟨_,List.getElem?_eq_getElem (by rw [H.out.len];exact hlt)⟩
   obtain ⟨nj,hnj⟩ : ∃ x,ns[j]? = some x:=⟨_,List.getElem?_eq_getElem (by rw [HL.out.1];exact hlt)⟩
   obtain ⟨mj,hmj⟩ : ∃ x,ms[j]? = some x:=⟨_,List.getElem?_eq_getElem (by rw [HL.out.2];exact hlt)⟩
   obtain ⟨pg,poff,pcs,pfz,rfl,_,hpg,hpc0⟩:=HJ.out j (ptrV q) (by rw [List.getElem?_map,hqj];rfl)
   have y0:=(hup.cells _ _ (Nat.lt_of_lt_of_le (ja0 hpg) u2.size)).trans ((u2.cells _ _ (ja0 hpg)).trans ((ja1 hpg (poff + j)).trans hpc0))
   have yl : pg < wr.heap.size:=Nat.lt_of_lt_of_le (ja0 hpg) (u2.trans hup).size
   simp only [ptrV] at y0
   obtain ⟨va,vcap,rfl⟩:=ja7 hv
   have HV:=Lib.hid (And.intro hv (And.intro hvb hup))
   have HR:=Lib.hid (H2.out.up hup)
   obtain ⟨s,hs0,hql,hq7,hxz⟩:=HR.out.part j q z hqj hzj
   obtain ⟨ng,noff,_,hne,hnc,hnl,_⟩:=H2.out.names.at_ (j:=j) (u := .string nj) (by rw [List.getElem?_map,hnj];rfl)
   obtain ⟨mg,moff,_,hme,hmc,hml,_⟩:=H2.out.marks.at_ (j:=j) (u := .bool mj) (by rw [List.getElem?_map,hmj];rfl)
   injection hne with hne he1 he2
   injection hme with hme he3 he4
   subst hne hme
   clear he1 he2 he3 he4
   have HY0:=Lib.hid (fun (W : World) (hW : Up wr W) => jmx A q z g es clk _ dv s xs W (hW.get HR.out.head) (hW.get HR.out.map_) H.out.ents H.out.nodup hxz hs0 ((hW.cells _ _ hql).trans hq7) (Nat.lt_of_lt_of_le hql hW.size))
   have HS : Hid (∀ X : World,Up w2 X → X.cell? ⟨b,4,none⟩ = some (.slice (some ⟨ng,noff,none⟩) qs.length ncap) ∧ X.cell? ⟨ng,noff + j,none⟩ = some (.string nj) ∧ X.cell? ⟨b,5,none⟩ = some (.slice (some ⟨mg,moff,none⟩) qs.length kcap) ∧ X.cell? ⟨mg,moff + j,none⟩ = some (.bool mj)):=fun X hX => ⟨ja1 (hX.get H2.out.blk) 4,(hX.cells _ _ hnl).trans hnc,ja1 (hX.get H2.out.blk) 5,(hX.cells _ _ hml).trans hmc⟩
   have HNX : Hid ((List.range (j + 1)).flatMap (fun j => [Value.string (ns.getD j ⟨#[]⟩), .int .i64 (Int.ofNat (zs.getD j 0)), .bool (ms.getD j false)]) = (List.range j).flatMap (fun j => [Value.string (ns.getD j ⟨#[]⟩), .int .i64 (Int.ofNat (zs.getD j 0)), .bool (ms.getD j false)]) ++ [.string nj, .int .i64 z, .bool mj]):=by
    unfold Hid
    rw [List.range_succ,List.flatMap_append]
    simp [List.getD,hnj,hmj,hzj]
   have hx1:=(HS.out wr hup).1
   have hx2:=(HS.out wr hup).2.1
   have hx3:=(HS.out wr hup).2.2.1
   have hx4:=(HS.out wr hup).2.2.2
   obtain ⟨i0,hi,hz0,hz1,hz2⟩:=info_parts jjN
   clear hqj hzj hnj hmj hv hvb hpg hpc0 hq7 hxz hs0 hnc hmc a0 g0 b0 b3 g4
   go_upto_region 12 with (fail)
   go_region_held3 (fun X => X.cell? ⟨b,4,none⟩ = some (.slice (some ⟨ng,noff,none⟩) qs.length ncap) ∧ X.cell? ⟨ng,noff + j,none⟩ = some (.string nj) ∧ X.cell? ⟨b,5,none⟩ = some (.slice (some ⟨mg,moff,none⟩) qs.length kcap) ∧ X.cell? ⟨mg,moff + j,none⟩ = some (.bool mj)) (exact HS.out _ (show Up w2 _ from uq)) (first
    | (go_at_call 48;refine (HY0.out _ (show Up wr _ from uq)).mono ?_;rintro e w3 ⟨rfl,hu3⟩;have u3 : Up wr w3:=uq;have O3:=Lib.hid (And.intro (ja5 HV.out.1 u3) u3))
    | (refine jcp rfl _ _ 74 rfl PieT i0 (.agg #[.string ⟨#[]⟩, .int .i64 0, .bool false]) 3 32 Tryz.underlying74 hi hz0 hz1 hz2 rfl (by decide) (.slice va j vcap) j _ rfl (ja5 O3.out.1 uq) _ 1 1 rfl (by first | rfl | (simp;done) | omega) rfl (by intro u hu;have hu2 : u = .string nj ∨ u = .int .i64 z ∨ u = .bool mj:=(by simpa using hu);rcases hu2 with hu2 | hu2 | hu2 <;> rw [hu2] <;> rfl) (by have:=H.out.few.1;unfold maxLen;omega) (by have:=H.out.few.1;omega) ?_;intro sa' cap' w7 hown' hgrow hblk;have U7 : Up w2 w7:=Up.grown (hup.trans (show Up wr _ from uq)) hgrow (fun r e => HV.out.2.1 r e);have HY:=Lib.hid (And.intro hown' (And.intro hblk U7));clear hown' hgrow hblk))
   go_wp2_with fail
   refine ⟨⟨j + 1,by omega,by simp,by rw [HNX.out];exact HY.out.1,fun g' hg => ?_,HY.out.2.2⟩,by simp [intOf];omega⟩
   rcases HY.out.2.1 with q2 | ⟨g2,q2,q3⟩
   ·exact HV.out.2.1 g' (by rw [← q2];exact hg)
   ·rw [q2] at hg
    cases hg
    have h1:=HV.out.2.2.size
    have h2:=O3.out.2.size
    (try simp only [gQw] at q3)
    omega
  ·obtain rfl : j = qs.length:=by omega
   have HV:=Lib.hid hv
   obtain ⟨va,vcap,rfl⟩:=ja7 hv
   clear hv hlt
   go_wp2_with fail
   refine bodyPost_ret (v := .tuple #[_, .int .i64 0]) (by simp [results,Tryz.results168,go_sem];rfl) rfl ?_
   exact ⟨_,rfl,HV.out,uq⟩
theorem Are.reads {w : World} {B A : Nat} {bs : List Nat} {ts : List Ty} {tv mv dv : Value} (h : Are w B A bs ts tv mv dv) {i b : Nat} {t : Ty} (hb : bs[i]? = some b) (ht : ts[i]? = some t) :
  ∃ (gr tcap g : Nat) (es : Array MapEntry) (clk : Nat) (pv nv kv : Value) (said : ByteArray) (qs : List Nat),tv = .slice (some ⟨gr,0,none⟩) bs.length tcap ∧ mv = .map (some g) ∧ i < bs.length ∧ (gr < w.heap.size ∧ w.cell? ⟨gr,i,none⟩ = some (ptrV b)) ∧
    w.heap[b]? = some (.cells (tyC t.kind t.num t.name pv nv kv t.size said) TyT (0,0)) ∧ RowOf TpT (fun _ => True) w pv (qs.map ptrV) ∧ w.heap[g]? = some (.map es clk) ∧ Entries es Value.string numV ((ts.map Ty.text).zipIdx) ∧ qs.length = t.parts.length ∧
    (∀ (j q : Nat) (p : Ty),qs[j]? = some q → t.parts[j]? = some p → (p.text.toList == []) = false ∧ q < w.heap.size ∧ w.cell? ⟨q,7,none⟩ = some (.string p.text) ∧ ((ts.map Ty.text).zipIdx)[idOf ts p]? = some (p.text,idOf ts p)) ∧
    RowV (fun _ => True) w nv (t.names.map .string) ∧ RowV (fun _ => True) w kv (t.marks.map .bool):=by
 have hi : i < bs.length:=(List.getElem?_eq_some_iff.1 hb).1
 have hty:=h.ty i b t hb ht
 have hask:=h.asked i b t hb ht
 have htm : t ∈ ts:=List.mem_of_getElem? ht
 obtain ⟨gr,tcap,hgr,hcell⟩ : ∃ gr tcap,tv = .slice (some ⟨gr,0,none⟩) bs.length tcap ∧ gr < w.heap.size ∧ w.cell? ⟨gr,i,none⟩ = some (ptrV b):=by
  rcases h.row.2 with ⟨_,h0⟩ | ⟨g,cap',cur,hv,_,hg,_⟩
  ·omega
  ·refine ⟨g,cap',hv,ja0 hg,?_⟩
   have q:=h.row.cells (g:=g) (by rw [hv];rfl) i (ptrV b) (by rw [List.getElem?_map,hb];rfl)
   rw [Addr.add_lit] at q
   simpa using q
 obtain ⟨g,es,clk,hm1,_,hm2,hm3⟩ : ∃ g es clk,mv = .map (some g) ∧ B ≤ g ∧ w.heap[g]? = some (.map es clk) ∧ Entries es Value.string numV ((ts.map Ty.text).zipIdx):=by
  rcases h.ids with ⟨_,e⟩ | q
  ·rw [e] at htm;cases htm
  ·exact q
 obtain ⟨pv2,qs2,k1,k2,k3,k4⟩:=hask.parts
 cases hty with
 | mk said pv nv kv qs hB hh hs hp hn hmm hl hq =>
   have e : pv2 = pv:=by
    have:=(ja1 hh 3).symm.trans k1
    simpa using this.symm
   subst e
   refine ⟨gr,tcap,g,es,clk,pv2,nv,kv,said,qs2,hgr,hm1,hi,hcell,hh,k2.keep fun _ _ _ _ q => ⟨trivial,q⟩,hm2,hm3,k3,fun j q p hj hpj => ?_,⟨_,hn.keep fun _ _ _ _ q => ⟨trivial,q⟩⟩,⟨_,hmm.keep fun _ _ _ _ q => ⟨trivial,q⟩⟩⟩
   obtain ⟨q1,q2,q3⟩:=k4 j q p hj hpj
   refine ⟨?_,q1.lt,q2,jix (jij (h.closed _ htm p (List.mem_of_getElem? hpj)))⟩
   cases e : p.text.toList with
   | nil => exact absurd (by rw [ByteArray.toList_eq] at e;cases hp2 : p.text with | mk d => rw [hp2] at e;exact congrArg _ (Array.toList_inj.1 e)) q3
   | cons _ _ => rfl
theorem Ty.Valid.lens {t : Ty} (h : t.Valid) : t.names.length ≤ t.parts.length ∧ t.marks.length ≤ t.parts.length:=by
 cases h <;> simp [Ty.names,Ty.marks,Ty.parts]
theorem Are.few {w : World} {B A : Nat} {bs : List Nat} {ts : List Ty} {tv mv dv : Value} (h : Are w B A bs ts tv mv dv) {t : Ty} (ht : t ∈ ts) : t.parts.length ≤ 100000 ∧ t.names.length ≤ 100000 ∧ t.marks.length ≤ 100000:=by
 obtain ⟨h1,h2,h3⟩:=h.good t ht
 have hs : Sm t:=⟨by omega,h3⟩
 have hl:=h1.lens
 have hp : t.parts.length ≤ 100000:=by
  cases t with
  | mk k n nm ps ns ms => exact hs.length
 omega
def tenT : List Ty:=(List.range 10).map fun i : Nat => ja3 ((i : Int) + 1)
theorem jcY (k : Int) (h1 : 1 ≤ k) (h2 : k ≤ 10) : (ja3 k).text = jaw k:=by
 unfold ja3
 rw [Ty.text_mk]
 unfold jap
 rw [if_neg (by omega),if_neg (by omega),if_neg (by omega),if_neg (by omega),if_neg (by omega),if_neg (by omega),if_neg (by omega),if_neg (by omega),if_neg (by omega),if_neg (by omega),if_neg (by omega),if_neg (by omega),if_neg (by omega)]
theorem jez : tenT.map Ty.text = jd2 10:=by
 unfold tenT jd2
 rw [List.map_map]
 refine List.map_congr_left fun i hi => ?_
 have:=List.mem_range.1 hi
 exact jcY _ (by omega) (by omega)
theorem jek {i : Nat} {t : Ty} (h : tenT[i]? = some t) : i < 10 ∧ t = ja3 ((i : Int) + 1):=by
 unfold tenT at h
 rw [List.getElem?_map] at h
 cases hr : (List.range 10)[i]? with
 | none => rw [hr] at h;cases h
 | some j =>
   rw [hr] at h
   have h2:=List.getElem?_eq_some_iff.1 hr
   obtain ⟨h3,h4⟩:=h2
   rw [List.getElem_range] at h4
   simp only [List.length_range] at h3
   subst h4
   simp only [Option.map_some,Option.some.injEq] at h
   exact ⟨h3,h.symm⟩
theorem jmv {N : Nat → Prop} {B : Nat} {w : World} {b : Nat} {k : Int} (h1 : 1 ≤ k) (h2 : k ≤ 10) (h : Leaf w b k (jaw k)) (hB : B ≤ b) : TyAt N B w b (ja3 k) :=
 TyAt.mk (jaw k) (.slice none 0 0) (.slice none 0 0) (.slice none 0 0) [] hB h (.inr (jcY k h1 h2).symm) (RowOf.nil _ _ _) (RowOf.nil _ _ _) (RowOf.nil _ _ _) rfl (fun j q p h1 _ => by simp at h1)
theorem Few.are {w : World} {B A : Nat} {bs : List Nat} {g : Nat} {tv : Value} (h : Few w B A bs g tv 10) : Are w B A bs tenT tv (.map (some g)) (.map none) where
 base:=h.ar.base
 head:=h.ar.head
 row:=h.ar.row
 rowB:=h.ar.rowB
 ids:=by rw [jez];rcases h.ar.ids with ⟨h9,_⟩ | q
         ·cases h9
         ·exact .inr q
 len:=by rw [h.len];rfl
 nodup:=by rw [jez];exact h.ar.nodup
 ty i b t h1 h2:=by
  obtain ⟨h3,rfl⟩:=jek h2
  have hs:=h.ar.said i b (jaw ((i : Int) + 1)) h1 (by rw [← jez,List.getElem?_map,h2];simp [jcY ((i : Int) + 1) (by omega) (by omega)])
  exact jmv (by omega) (by omega) (h.leaf i b h1) hs.1
 asked i b t h1 h2:=by
  obtain ⟨h3,rfl⟩:=jek h2
  have hl:=h.leaf i b h1
  have hv : (ja3 ((i : Int) + 1)).Valid := .basic (by omega) (by omega)
  exact ⟨by rw [jcY _ (by omega) (by omega)];exact (ja1 hl 7).trans rfl,jgb hv, .slice none 0 0,[],(ja1 hl 3).trans rfl,RowOf.nil _ _ _,rfl,fun j q p hj _ => by simp at hj⟩
 good t ht:=by
  obtain ⟨i,hi⟩:=List.getElem?_of_mem ht
  obtain ⟨h3,rfl⟩:=jek hi
  exact ⟨.basic (by omega) (by omega),by unfold ja3;rw [Ty.nodes_mk];simp,jbT _ _⟩
 closed t ht p hp:=by
  obtain ⟨i,hi⟩:=List.getElem?_of_mem ht
  obtain ⟨h3,rfl⟩:=jek hi
  cases hp
end Go.Proofs.YtiaepldmgighbaaGreatDoor
