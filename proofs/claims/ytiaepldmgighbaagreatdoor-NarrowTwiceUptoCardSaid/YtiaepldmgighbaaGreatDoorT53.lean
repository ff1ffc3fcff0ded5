/- NarrowTwice: for every type and every test (of bulk at most 1048576 together) the law answers true: what Keep keeps of what it kept is that again, for yes and for no; its tied card, of the second form. -/
import Derived.Test.YtiaepldmgighbaaGreatDoorT52
namespace Go.Proofs.YtiaepldmgighbaaGreatDoor
open Go.ChangeShapes Go.WideShapes Go.ChangeAt Go.RowKit
set_option linter.unusedVariables false
set_option maxRecDepth 100000
section
variable {H : Type} {enc : TypeId × Value → H}
theorem jkd : Tryz.prog.cellsOf 54 = 8:=by kernel_rfl
theorem jlM : Tryz.prog.cellsOf 33 = 6:=by kernel_rfl
theorem jlN : Tryz.prog.cellsOf 3 = 1:=by kernel_rfl
theorem jlL : Tryz.prog.cellsOf 9 = 1:=by kernel_rfl
theorem jib {W : World} {sp : Nat → Bool} (fuel : Nat) (cs : List Value) (x : DataW H × List MemPlace) (h : DataW.trod enc Tryz.prog W 0 sp true fuel 54 cs = some x) (hb : Rows.uptoBulk x.1 ≤ 1048576) : ∃ (K : Int) (s : ByteArray) (xs : List Value) (t : Ty),cs = [Value.int .i64 K,Value.string s] ++ xs ∧ TIs W.heap.size W xs t ∧ t.nodes ≤ Rows.uptoBulk x.1:=by
 obtain ⟨xs,m,rfl,hx,hcl,hxl,hf⟩:=DataW.trod_struct Tryz.underlying54 h
 rw [jkd] at hcl
 match cs,hcl,xs,hxl with
 | [c0,c1,c2,c3,c4,c5,c6,c7],_,[x0,x1,x2],_ =>
   have f0 : DataW.trod enc Tryz.prog W 0 sp true m 3 ((([c0,c1,c2,c3,c4,c5,c6,c7] : List Value).drop 0).take (Tryz.prog.cellsOf 3)) = some x0:=hf 0 _ rfl
   rw [jlN] at f0
   have f1 : DataW.trod enc Tryz.prog W 0 sp true m 9 ((([c0,c1,c2,c3,c4,c5,c6,c7] : List Value).drop 1).take (Tryz.prog.cellsOf 9)) = some x1:=hf 1 _ rfl
   rw [jlL] at f1
   have f2 : DataW.trod enc Tryz.prog W 0 sp true m 33 ((([c0,c1,c2,c3,c4,c5,c6,c7] : List Value).drop 2).take (Tryz.prog.cellsOf 33)) = some x2:=hf 2 _ rfl
   rw [jlM] at f2
   simp only [List.drop,List.take] at f0 f1 f2
   have hbx : Rows.uptoBulk x.1 = Rows.uptoBulk x0.1 + (Rows.uptoBulk x1.1 + (Rows.uptoBulk x2.1 + 0)) + 1:=by
     rw [hx]
     simp only [Rows.uptoBulk,Rows.uptoBulkAll,List.map_cons,List.map_nil]
   obtain ⟨K,e0,_,_⟩:=DataW.trod_int Tryz.underlying3 f0
   obtain ⟨s,e1,_,_⟩:=DataW.trod_string Tryz.underlying9 f1
   obtain ⟨t,ht,hn⟩:=jnh m _ _ f2 (by omega)
   have hn : t.nodes ≤ Rows.uptoBulk x2.1:=hn
   simp only [List.cons.injEq,and_true] at e0 e1
   subst e0 e1
   exact ⟨K,s,_,t,rfl,ht,by omega⟩
end
theorem jd0 (H : Type) (enc : TypeId × Value → H) (W : World) (base : Nat) (args : Array Value) (ds gs : List (DataW H)) (before : List MemPlace)
   (hval : ∀ (j : Nat) t v,Tryz.f9.params[j]? = some t → args[j]? = some v → Value.okWide Tryz.prog W .any base t v)
   (hW : DataW.Whole enc Tryz.prog Tryz.f9.params.toList Rows.narrowTwiceSpec.vars false W args.toList ds gs before)
   (hcond : ∀ k,(Rows.OpenSpec.upto Rows.narrowTwiceSpec).cond = some k → k H (ds ++ gs) = true)
   (hL : laidMetH Tryz.prog Rows.narrowTwiceUptoRow.laid W) (hS : W.ShapedOpen Tryz.prog) :
   Calls Tryz.prog 9 args W fun e W' => ∃ v,e = .returned v ∧ Rows.narrowTwiceSpec.post enc Tryz.prog Tryz.f9 false true false false W args v W':=by
 have hW':=hW
 obtain ⟨p,q,hA0,hV,rfl,hfz,hnd⟩:=hW
 have hA : DataW.TrodAll enc Tryz.prog W 0 (fun _ => true) true Tryz.f9.params.toList args.toList ds p:=hA0
 rw [Tryz.params9] at hA hval
 obtain ⟨v0,vs0,d0,ds0,p0,q0,hargs,rfl,rfl,h0,r0⟩:=trodAll_cons hA
 obtain ⟨v1,vs1,d1,ds1,p1,q1,rfl,rfl,rfl,h1,r1⟩:=trodAll_cons r0
 obtain ⟨rfl,rfl,rfl⟩:=trodAll_nil r1
 obtain rfl : args = #[v0,v1]:=by cases args;simp_all
 obtain ⟨rfl,rfl⟩:=trodVars_none hV
 have k0:=h0
 have lt0 : ∀ x ∈ p0,x.block < W.heap.size:=by obtain ⟨m,hm⟩:=k0;exact DataW.trod_lt m _ _ _ hm
 have k1:=h1
 have lt1 : ∀ x ∈ p1,x.block < W.heap.size:=by obtain ⟨m,hm⟩:=k1;exact DataW.trod_lt m _ _ _ hm
 have hb : Rows.uptoBulkAll ([d0,d1] ++ []) ≤ 1048576:=of_decide_eq_true (hcond _ rfl)
 simp only [List.append_nil,Rows.uptoBulkAll] at hb
 obtain ⟨c0,rfl,_⟩:=okWide_struct Tryz.underlying33 (hval 0 33 v0 rfl rfl)
 obtain ⟨c1,rfl,_⟩:=okWide_struct Tryz.underlying54 (hval 1 54 v1 rfl rfl)
 obtain ⟨m0,hm0⟩:=h0
 obtain ⟨m1,hm1⟩:=h1
 obtain ⟨x,hx,hxn⟩:=jnh m0 c0.toList _ hm0 (show Rows.uptoBulk d0 ≤ 1048576 by omega)
 obtain ⟨K,s,ys,y,hc1,hy,hyn⟩:=jib m1 c1.toList _ hm1 (show Rows.uptoBulk d1 ≤ 1048576 by omega)
 have hxn : x.nodes ≤ Rows.uptoBulk d0:=hxn
 have hyn : y.nodes ≤ Rows.uptoBulk d1:=hyn
 obtain ⟨m,hm⟩:=max_of hS
 have key:=jhj c0.toList ys x y K s m W hx hy (by omega) (by omega) (jof hL hS) hm
 rw [← hc1] at key
 simp only [Array.toArray_toList] at key
 clear hA0 hm0 hm1
 refine key.mono fun e W' ⟨he,bel⟩ => ?_
 subst he
 exact ⟨_,rfl,_,_,_,[],_,[],hW',trodAll_mk1 (shut_bool Tryz.underlying4 _),(trodAll_cons_mk (Below.trod jiU (by kernel_rfl) (of_decide_eq_true (by kernel_rfl)) k0 bel lt0) (trodAll_cons_mk (Below.trod jiU (by kernel_rfl) (of_decide_eq_true (by kernel_rfl)) k1 bel lt1) trodAll_mk0)),rfl,Below.frame bel _,fun h => by cases h⟩
abbrev argT : Value := .agg #[.int .i64 0, .int .i64 0, .string ⟨#[]⟩, .slice none 0 0, .slice none 0 0, .slice none 0 0]
abbrev jjj : Value := .agg #[.int .i64 0, .string ⟨#[]⟩, .int .i64 0, .int .i64 0, .string ⟨#[]⟩, .slice none 0 0, .slice none 0 0, .slice none 0 0]
theorem jef (os : Os) : laidMet Tryz.prog Rows.narrowTwiceUptoRow.laid ((jeX os).forCall (fun _ _ => 0) ⟨#[],#[argT,jjj],[]⟩).memory :=
 laidMet_of_run' 8 (by kernel_rfl) (by kernel_rfl)
theorem jdR (os : Os) {H : Type} (enc : TypeId × Value → H) : ∃ places,DataW.whole enc Tryz.prog ((jeX os).forCall (fun _ _ => 0) ⟨#[],#[argT,jjj],[]⟩).memory Tryz.f9.params.toList Rows.narrowTwiceSpec.vars false #[argT,jjj].toList 8 = some ([.agg [.lit (.int .i64 0), .lit (.int .i64 0), .lit (.string []), .nil, .nil, .nil], .agg [.lit (.int .i64 0), .lit (.string []), .agg [.lit (.int .i64 0), .lit (.int .i64 0), .lit (.string []), .nil, .nil, .nil]]],[],places) :=
 ⟨[],by kernel_rfl⟩
theorem jdr (os : Os) (started : os.Started) (H : Type) (enc : TypeId × Value → H) (F : Stop.Interp) :
   ReturnsInHanded {} Tryz.checked os 9 .any ((Rows.OpenSpec.upto Rows.narrowTwiceSpec).preRow enc Tryz.prog Tryz.f9 Rows.narrowTwiceUptoRow.domain false Rows.narrowTwiceUptoRow.laid) (((Rows.OpenSpec.upto Rows.narrowTwiceSpec).at F).post enc Tryz.prog Tryz.f9 false true false false):=by
 obtain ⟨places,hx⟩:=jdR os enc
 refine returnsInHanded_of_row (C:=Tryz.checked) (s:=Rows.OpenSpec.upto Rows.narrowTwiceSpec) jmo started (by kernel_rfl) Tryz.func9
   (witness_row_at (enc:=enc) (C:=Tryz.checked) false (jeX os) #[argT,jjj] rfl (by kernel_rfl) (by kernel_rfl) (by kernel_rfl)
     (OpenSpec.preRow_of_cond 8 hx (by kernel_rfl) (fun k hk => by cases hk;kernel_rfl) (by kernel_rfl) (jef os))) ?_
 intro W base args ds gs before hval hW _ hcond _ hL hS _
 exact jd0 H enc W base args ds gs before hval hW hcond hL hS
theorem jee : Rows.NarrowTwiceUptoSaid :=
 OpenClaim.holds_of_cond 9 Tryz.f9 rfl rfl rfl rfl rfl rfl rfl ⟨rfl,rfl,rfl,rfl,rfl⟩ rfl rfl rfl rfl rfl (by kernel_rfl) Tryz.func9 (by kernel_rfl)
   (of_decide_eq_true (by kernel_rfl)) (by unfold Func.isWrapper;first | (rw [if_pos (by decide +kernel)];kernel_rfl) | (rw [if_neg (by decide +kernel)];exact ⟨rfl,rfl⟩))
   (fun os started H enc _ F => by rw [OpenClaim.pre_eq_preRow];exact jdr os started H enc F)
theorem jdS (f : FuncId) (fn : Func) (hf : Tryz.pinned.checked.prog.funcNamed "shuck/shucklaw10.NarrowTwice" = some f) (hfn : Tryz.pinned.checked.prog.funcs[f]? = some fn) :
   false = Tryz.pinned.checked.prog.looks [] ∧ ∀ (j : Nat) t,fn.params[j]? = some t → Tryz.pinned.checked.prog.wantsStandIn t = false:=by
 obtain rfl : f = 9:=Option.some.inj ((show Tryz.prog.funcNamed "shuck/shucklaw10.NarrowTwice" = some 9 by kernel_rfl).symm.trans hf) |>.symm
 obtain rfl : fn = Tryz.f9:=(Option.some.inj (Tryz.func9.symm.trans hfn)).symm
 refine ⟨by kernel_rfl,fun j t ht => ?_⟩
 rw [Tryz.params9] at ht
 have hm:=Array.mem_of_getElem? ht
 simp at hm
 rcases hm with rfl | rfl
 · exact (show Tryz.prog.wantsStandIn 33 = false by kernel_rfl)
 · exact (show Tryz.prog.wantsStandIn 54 = false by kernel_rfl)
theorem narrowTwice_card : Rows.NarrowTwiceUptoCardSaid :=
 Claim7.holds_tied_plain_at .later [] _ _ _ _ jee (fun _ h => by cases h) (by kernel_rfl) (fun _ h => by cases h) narrowTwiceUpto_row_tie rfl ⟨rfl,rfl⟩ (by kernel_rfl) rfl jdS (by kernel_rfl)
end Go.Proofs.YtiaepldmgighbaaGreatDoor
