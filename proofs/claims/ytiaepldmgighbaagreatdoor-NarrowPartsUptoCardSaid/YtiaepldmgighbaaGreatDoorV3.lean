/- NarrowParts: for every two types, every test and either answer (of bulk at most 1048576 together) the law answers true: what Keep keeps of a union is the union of what it keeps of its parts; its tied card, of the second form. -/
import Derived.Test.YtiaepldmgighbaaGreatDoorV2
namespace Go.Proofs.YtiaepldmgighbaaGreatDoor
open Go.ChangeShapes Go.WideShapes Go.ChangeAt Go.RowKit
set_option linter.unusedVariables false
set_option maxRecDepth 100000
section
variable {H : Type} {enc : TypeId × Value → H}
theorem jkd : Tryz.prog.cellsOf 54 = 8:=by kernel_rfl
theorem jlM : Tryz.prog.cellsOf 33 = 6:=by kernel_rfl
theorem jlN : Tryz.prog.cellsOf 3 = 1:=by kernel_rfl
theorem jlL : Tryz.prog.cellsOf 9 = 1:=by kernel_rfl
theorem jib {W : World} {sp : Nat → Bool} (fuel : Nat) (cs : List Value) (x : DataW H × List MemPlace) (h : DataW.trod enc Tryz.prog W 0 sp true fuel 54 cs = some x) (hb : Rows.uptoBulk x.1 ≤ 1048576) : ∃ (K : Int) (s : ByteArray) (xs : List Value) (t : Ty),cs = [Value.int .i64 K,Value.string s] ++ xs ∧ TIs W.heap.size W xs t ∧ t.nodes ≤ Rows.uptoBulk x.1:=by
 obtain ⟨xs,m,rfl,hx,hcl,hxl,hf⟩:=DataW.trod_struct Tryz.underlying54 h
 rw [jkd] at hcl
 match cs,hcl,xs,hxl with
 | [c0,c1,c2,c3,c4,c5,c6,c7],_,[x0,x1,x2],_ =>
   have f0 : DataW.trod enc Tryz.prog W 0 sp true m 3 ((([c0,c1,c2,c3,c4,c5,c6,c7] : List Value).drop 0).take (Tryz.prog.cellsOf 3)) = some x0:=hf 0 _ rfl
   rw [jlN] at f0
   have f1 : DataW.trod enc Tryz.prog W 0 sp true m 9 ((([c0,c1,c2,c3,c4,c5,c6,c7] : List Value).drop 1).take (Tryz.prog.cellsOf 9)) = some x1:=hf 1 _ rfl
   rw [jlL] at f1
   have f2 : DataW.trod enc Tryz.prog W 0 sp true m 33 ((([c0,c1,c2,c3,c4,c5,c6,c7] : List Value).drop 2).take (Tryz.prog.cellsOf 33)) = some x2:=hf 2 _ rfl
   rw [jlM] at f2
   simp only [List.drop,List.take] at f0 f1 f2
   have hbx : Rows.uptoBulk x.1 = Rows.uptoBulk x0.1 + (Rows.uptoBulk x1.1 + (Rows.uptoBulk x2.1 + 0)) + 1:=by
    rw [hx]
    simp only [Rows.uptoBulk,Rows.uptoBulkAll,List.map_cons,List.map_nil]
   obtain ⟨K,e0,_,_⟩:=DataW.trod_int Tryz.underlying3 f0
   obtain ⟨s,e1,_,_⟩:=DataW.trod_string Tryz.underlying9 f1
   obtain ⟨t,ht,hn⟩:=jnh m _ _ f2 (by omega)
   have hn : t.nodes ≤ Rows.uptoBulk x2.1:=hn
   simp only [List.cons.injEq,and_true] at e0 e1
   subst e0 e1
   exact ⟨K,s,_,t,rfl,ht,by omega⟩
end
theorem narrowParts_contract (H : Type) (enc : TypeId × Value → H) (W : World) (base : Nat) (args : Array Value) (ds gs : List (DataW H)) (before : List MemPlace)
  (hval : ∀ (j : Nat) t v,Tryz.f12.params[j]? = some t → args[j]? = some v → Value.okWide Tryz.prog W .any base t v)
  (hW : DataW.Whole enc Tryz.prog Tryz.f12.params.toList Rows.narrowPartsSpec.vars false W args.toList ds gs before)
  (hcond : ∀ k,(Rows.OpenSpec.upto Rows.narrowPartsSpec).cond = some k → k H (ds ++ gs) = true)
  (hL : laidMetH Tryz.prog Rows.narrowPartsUptoRow.laid W) (hS : W.ShapedOpen Tryz.prog) :
  Calls Tryz.prog 12 args W fun e W' => ∃ v,e = .returned v ∧ Rows.narrowPartsSpec.post enc Tryz.prog Tryz.f12 false true false false W args v W':=by
 have hW':=hW
 obtain ⟨p,q,hA0,hV,rfl,hfz,hnd⟩:=hW
 have hA : DataW.TrodAll enc Tryz.prog W 0 (fun _ => true) true Tryz.f12.params.toList args.toList ds p:=hA0
 rw [Tryz.params12] at hA hval
 obtain ⟨v0,vs0,d0,ds0,p0,q0,hargs,rfl,rfl,h0,r0⟩:=trodAll_cons hA
 obtain ⟨v1,vs1,d1,ds1,p1,q1,rfl,rfl,rfl,h1,r1⟩:=trodAll_cons r0
 obtain ⟨v2,vs2,d2,ds2,p2,q2,rfl,rfl,rfl,h2,r2⟩:=trodAll_cons r1
 obtain ⟨v3,vs3,d3,ds3,p3,q3,rfl,rfl,rfl,h3,r3⟩:=trodAll_cons r2
 obtain ⟨rfl,rfl,rfl⟩:=trodAll_nil r3
 obtain rfl : args = #[v0,v1,v2,v3]:=by cases args;simp_all
 obtain ⟨rfl,rfl⟩:=trodVars_none hV
 have k0:=h0
 have lt0 : ∀ x ∈ p0,x.block < W.heap.size:=by obtain ⟨m,hm⟩:=k0;exact DataW.trod_lt m _ _ _ hm
 have k1:=h1
 have lt1 : ∀ x ∈ p1,x.block < W.heap.size:=by obtain ⟨m,hm⟩:=k1;exact DataW.trod_lt m _ _ _ hm
 have k2:=h2
 have lt2 : ∀ x ∈ p2,x.block < W.heap.size:=by obtain ⟨m,hm⟩:=k2;exact DataW.trod_lt m _ _ _ hm
 obtain ⟨yes,rfl,rfl,rfl⟩:=open_bool Tryz.underlying4 (hval 3 4 v3 rfl rfl) h3
 have hb : Rows.uptoBulkAll ([d0,d1,d2, .lit (.bool yes)] ++ []) ≤ 1048576:=of_decide_eq_true (hcond _ rfl)
 simp only [List.append_nil,Rows.uptoBulkAll] at hb
 obtain ⟨c0,rfl,_⟩:=okWide_struct Tryz.underlying33 (hval 0 33 v0 rfl rfl)
 obtain ⟨c1,rfl,_⟩:=okWide_struct Tryz.underlying33 (hval 1 33 v1 rfl rfl)
 obtain ⟨c2,rfl,_⟩:=okWide_struct Tryz.underlying54 (hval 2 54 v2 rfl rfl)
 obtain ⟨m0,hm0⟩:=h0
 obtain ⟨m1,hm1⟩:=h1
 obtain ⟨m2,hm2⟩:=h2
 obtain ⟨x,hx,hxn⟩:=jnh m0 c0.toList _ hm0 (show Rows.uptoBulk d0 ≤ 1048576 by omega)
 obtain ⟨z,hz,hzn⟩:=jnh m1 c1.toList _ hm1 (show Rows.uptoBulk d1 ≤ 1048576 by omega)
 obtain ⟨K,s,ys,y,hc2,hy,hyn⟩:=jib m2 c2.toList _ hm2 (show Rows.uptoBulk d2 ≤ 1048576 by omega)
 have hxn : x.nodes ≤ Rows.uptoBulk d0:=hxn
 have hzn : z.nodes ≤ Rows.uptoBulk d1:=hzn
 have hyn : y.nodes ≤ Rows.uptoBulk d2:=hyn
 obtain ⟨m,hm⟩:=max_of hS
 have key:=jni c0.toList c1.toList ys x z y K s yes m W hx hz hy (by omega) (by omega) (by omega) (jof hL hS) hm
 rw [← hc2] at key
 simp only [Array.toArray_toList] at key
 clear hA0 hm0 hm1 hm2
 refine key.mono fun e W' ⟨he,bel⟩ => ?_
 subst he
 exact ⟨_,rfl,_,_,_,[],_,[],hW',trodAll_mk1 (shut_bool Tryz.underlying4 _),(trodAll_cons_mk (Below.trod jiU (by kernel_rfl) (of_decide_eq_true (by kernel_rfl)) k0 bel lt0) (trodAll_cons_mk (Below.trod jiU (by kernel_rfl) (of_decide_eq_true (by kernel_rfl)) k1 bel lt1) (trodAll_cons_mk (Below.trod jiU (by kernel_rfl) (of_decide_eq_true (by kernel_rfl)) k2 bel lt2) (trodAll_cons_mk (shut_bool Tryz.underlying4 _) trodAll_mk0)))),rfl,Below.frame bel _,fun h => by cases h⟩
abbrev argT : Value := .agg #[.int .i64 0, .int .i64 0, .string ⟨#[]⟩, .slice none 0 0, .slice none 0 0, .slice none 0 0]
abbrev jjj : Value := .agg #[.int .i64 0, .string ⟨#[]⟩, .int .i64 0, .int .i64 0, .string ⟨#[]⟩, .slice none 0 0, .slice none 0 0, .slice none 0 0]
theorem narrowParts_laid (os : Os) : laidMet Tryz.prog Rows.narrowPartsUptoRow.laid ((jeX os).forCall (fun _ _ => 0) ⟨#[],#[argT,argT,jjj,Value.bool false],[]⟩).memory :=
 laidMet_of_run' 8 (by kernel_rfl) (by kernel_rfl)
theorem narrowParts_reads (os : Os) {H : Type} (enc : TypeId × Value → H) : ∃ places,DataW.whole enc Tryz.prog ((jeX os).forCall (fun _ _ => 0) ⟨#[],#[argT,argT,jjj,Value.bool false],[]⟩).memory Tryz.f12.params.toList Rows.narrowPartsSpec.vars false #[argT,argT,jjj,Value.bool false].toList 8 = some ([.agg [.lit (.int .i64 0), .lit (.int .i64 0), .lit (.string []), .nil, .nil, .nil], .agg [.lit (.int .i64 0), .lit (.int .i64 0), .lit (.string []), .nil, .nil, .nil], .agg [.lit (.int .i64 0), .lit (.string []), .agg [.lit (.int .i64 0), .lit (.int .i64 0), .lit (.string []), .nil, .nil, .nil]], .lit (.bool false)],[],places) :=
 ⟨[],by kernel_rfl⟩
theorem narrowParts_lifted (os : Os) (started : os.Started) (H : Type) (enc : TypeId × Value → H) (F : Stop.Interp) :
  ReturnsInHanded {} Tryz.checked os 12 .any ((Rows.OpenSpec.upto Rows.narrowPartsSpec).preRow enc Tryz.prog Tryz.f12 Rows.narrowPartsUptoRow.domain false Rows.narrowPartsUptoRow.laid) (((Rows.OpenSpec.upto Rows.narrowPartsSpec).at F).post enc Tryz.prog Tryz.f12 false true false false):=by
 obtain ⟨places,hx⟩:=narrowParts_reads os enc
 refine returnsInHanded_of_row (C:=Tryz.checked) (s:=Rows.OpenSpec.upto Rows.narrowPartsSpec) jmo started (by kernel_rfl) Tryz.func12
  (witness_row_at (enc:=enc) (C:=Tryz.checked) false (jeX os) #[argT,argT,jjj,Value.bool false] rfl (by kernel_rfl) (by kernel_rfl) (by kernel_rfl)
   (OpenSpec.preRow_of_cond 8 hx (by kernel_rfl) (fun k hk => by cases hk;kernel_rfl) (by kernel_rfl) (narrowParts_laid os))) ?_
 intro W base args ds gs before hval hW _ hcond _ hL hS _
 exact narrowParts_contract H enc W base args ds gs before hval hW hcond hL hS
theorem narrowParts_said : Rows.NarrowPartsUptoSaid :=
 OpenClaim.holds_of_cond 12 Tryz.f12 rfl rfl rfl rfl rfl rfl rfl ⟨rfl,rfl,rfl,rfl,rfl⟩ rfl rfl rfl rfl rfl (by kernel_rfl) Tryz.func12 (by kernel_rfl)
  (of_decide_eq_true (by kernel_rfl)) (by unfold Func.isWrapper;first | (rw [if_pos (by decide +kernel)];kernel_rfl) | (rw [if_neg (by decide +kernel)];exact ⟨rfl,rfl⟩))
  (fun os started H enc _ F => by rw [OpenClaim.pre_eq_preRow];exact narrowParts_lifted os started H enc F)
theorem narrowParts_plain (f : FuncId) (fn : Func) (hf : Tryz.pinned.checked.prog.funcNamed "shuck/shucklaw10.NarrowParts" = some f) (hfn : Tryz.pinned.checked.prog.funcs[f]? = some fn) :
  false = Tryz.pinned.checked.prog.looks [] ∧ ∀ (j : Nat) t,fn.params[j]? = some t → Tryz.pinned.checked.prog.wantsStandIn t = false:=by
 obtain rfl : f = 12:=Option.some.inj ((show Tryz.prog.funcNamed "shuck/shucklaw10.NarrowParts" = some 12 by kernel_rfl).symm.trans hf) |>.symm
 obtain rfl : fn = Tryz.f12:=(Option.some.inj (Tryz.func12.symm.trans hfn)).symm
 refine ⟨by kernel_rfl,fun j t ht => ?_⟩
 rw [Tryz.params12] at ht
 have hm:=Array.mem_of_getElem? ht
 simp at hm
 rcases hm with rfl | rfl | rfl
 ·exact (show Tryz.prog.wantsStandIn 33 = false by kernel_rfl)
 ·exact (show Tryz.prog.wantsStandIn 54 = false by kernel_rfl)
 ·exact (show Tryz.prog.wantsStandIn 4 = false by kernel_rfl)
theorem narrowParts_card : Rows.NarrowPartsUptoCardSaid :=
 Claim7.holds_tied_plain_at .later [] _ _ _ _ narrowParts_said (fun _ h => by cases h) (by kernel_rfl) (fun _ h => by cases h) narrowPartsUpto_row_tie rfl ⟨rfl,rfl⟩ (by kernel_rfl) rfl narrowParts_plain (by kernel_rfl)
end Go.Proofs.YtiaepldmgighbaaGreatDoor
