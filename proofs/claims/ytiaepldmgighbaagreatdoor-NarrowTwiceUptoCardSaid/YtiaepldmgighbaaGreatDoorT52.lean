import Derived.Clock
import Derived.Test.YtiaepldmgighbaaGreatDoorT51
namespace Go.Proofs.YtiaepldmgighbaaGreatDoor
open Go.RowKit
set_option linter.unusedSimpArgs false
set_option linter.unusedVariables false
abbrev Tes10 : TypeId:=54
theorem kept_fit {K : Int} {s : ByteArray} {v u : Ty} (hK : TestOk K v) (asked : Bool) {n : Nat} (hn : u.nodes ≤ n) : 1 + sumN (jaN asked (jaQ none K s v) (jad K s v) u.flat) ≤ 3 * n + 1:=by
 have h1:=jcR (asked:=asked) (says:=jaQ none K s v) (ins:=jad K s v) (fun u => jf2 hK) u.flat
 have h2:=jcU u
 unfold sumN at h1 ⊢
 omega
theorem jho {K : Int} {s : ByteArray} {v u : Ty} (hK : TestOk K v) (hu : CV u) (asked : Bool) {n : Nat} (hn : (keepC asked (jaQ none K s v) (jad K s v) u).nodes ≤ n) : 1 + sumN (jaN asked (jaQ none K s v) (jad K s v) (keepC asked (jaQ none K s v) (jad K s v) u).flat) ≤ n + 1 ∧ keepC asked (jaQ none K s v) (jad K s v) (keepC asked (jaQ none K s v) (jad K s v) u) = keepC asked (jaQ none K s v) (jad K s v) u:=by
 obtain ⟨e1,e2⟩:=jjW (asked:=asked) (says:=jaQ none K s v) (ins:=jad K s v) hu (fun z hz h2 _ => ins_ok hK (hu.flat z hz).1 (hu.flat z hz).2 h2) (jdO hK)
 refine ⟨?_,e2⟩
 rw [e1]
 have h2:=jcU (keepC asked (jaQ none K s v) (jad K s v) u)
 unfold sumN
 omega
set_option maxRecDepth 100000
set_option maxHeartbeats 12800000
theorem jhj (ts xs : List Value) (t x : Ty) (K : Int) (s : ByteArray) (m : Int) (w : World) (ht : TIs w.heap.size w ts t) (hx : TIs w.heap.size w xs x) (htn : t.nodes ≤ 2000000) (hxn : x.nodes ≤ 2000000)
   (hg : GlobB w.heap.size w) (hm : w.cell? ⟨0,0,none⟩ = some (.int .i64 m)) :
   Calls Tryz.prog 9 #[.agg ts.toArray, .agg ([Value.int .i64 K,Value.string s] ++ xs).toArray] w fun e w' => e = .returned (.bool true) ∧ Up w w':=by
 obtain ⟨t0,t1,t2,t3,t4,t5,rfl⟩:=ht.six
 obtain ⟨x0,x1,x2,x3,x4,x5,rfl⟩:=hx.six
 have HX:=Lib.hid (And.intro ht htn)
 have HY:=Lib.hid (And.intro hx hxn)
 have HG:=Lib.hid (And.intro hg hm)
 have hLX:=Lib.hid (fun W (hW : Up w W) => jcC w.heap.size t _ W (HX.out.1.low (hW.below (Nat.le_refl _))) hW.size HX.out.2)
 have hLY:=Lib.hid (fun W (hW : Up w W) => jcC w.heap.size x _ W (HY.out.1.low (hW.below (Nat.le_refl _))) hW.size HY.out.2)
 have hMY:=Lib.hid (fun W (hW : Up w W) (h60 : x.nodes ≤ 60) => jl2 w.heap.size K s x _ W (HY.out.1.low (hW.below (Nat.le_refl _))) hW.size h60)
 have HKN:=Lib.hid (fun W (hW : Up w W) => jeY W ((HG.out.1.memo (Memo.of_up jag _ hW)).mono hW.size) ((hW.cells _ _ (jaj HG.out.2)).trans HG.out.2))
 clear ht hx htn hxn hg hm
 simp only [List.cons_append,List.nil_append]
 go_enter Tryz.func9,Tryz.ntmps9
 go_upto_region 1 with (fail)
 refine ja4 fun A0 W0 hA0 hW0 => ?_
 have hu0 : Hid (Up w W0):=by subst hW0;exact uq
 obtain ⟨q,hq⟩ : ∃ z,Hid (w.heap.size = z):=⟨_,rfl⟩
 have HQT : Hid (W0.heap[q]? = some (.cells #[t0,t1,t2,t3,t4,t5] RefT (0,0))):=by subst hW0;rw [← hq.out];exact jah (ja9 _ _)
 have HQX : Hid (W0.heap[q + 1]? = some (.cells #[.int .i64 K, .string s,x0,x1,x2,x3,x4,x5] Tes10 (0,0))):=by subst hW0;rw [← hq.out];exact jaa _ _ _ (by simp only [gQw])
 rw [hq.out] at hA0
 clear hW0
 subst hA0
 have s6:=HQT.out;obtain ⟨q0,p0,q1,p1,q2,p2,q3,p3,q4,p4,q5,p5,q9⟩:=uc6 s6;clear s6
 have s8:=HQX.out;obtain ⟨c0,cf0,c1,cf1,c2,cf2,c3,cf3,c4,cf4,c5,cf5,c6,cf6,c7,cf7,cl⟩:=uc8 s8;clear s8
 go_wp2_with fail
 refine (hLX.out _ (hu0.out.trans (show Up W0 _ from uq))).mono ?_
 rintro e w1 ⟨b1,rfl,hb1,hu1⟩
 have HB1:=Lib.hid hb1
 have HW1 : Hid (Up W0 w1):=uq
 clear hb1
 cases b1
 rotate_left
 · go_wp2_with (first | (go_at_call 30;refine (HKN.out _ (hu0.out.trans (show Up W0 _ from uq))).mono ?_;rintro e wk ⟨rfl,huk⟩))
   go_ret
   exact ⟨rfl,hu0.out.trans (show Up W0 _ from uq)⟩
 have s6:=HW1.out.get HQT.out;obtain ⟨q0,p0,q1,p1,q2,p2,q3,p3,q4,p4,q5,p5,q9⟩:=uc6 s6;clear s6
 have s8:=HW1.out.get HQX.out;obtain ⟨c0,cf0,c1,cf1,c2,cf2,c3,cf3,c4,cf4,c5,cf5,c6,cf6,c7,cf7,cl⟩:=uc8 s8;clear s8
 go_wp2_with fail
 refine (hLY.out _ (hu0.out.trans (show Up W0 _ from uq))).mono ?_
 rintro e w2 ⟨b2,rfl,hb2,hu2⟩
 have HB2:=Lib.hid hb2
 have HW2 : Hid (Up W0 w2):=uq
 clear hb2
 cases b2
 rotate_left
 · go_wp2_with (first | (go_at_call 30;refine (HKN.out _ (hu0.out.trans (show Up W0 _ from uq))).mono ?_;rintro e wk ⟨rfl,huk⟩))
   go_ret
   exact ⟨rfl,hu0.out.trans (show Up W0 _ from uq)⟩
 have s6:=HW2.out.get HQT.out;obtain ⟨q0,p0,q1,p1,q2,p2,q3,p3,q4,p4,q5,p5,q9⟩:=uc6 s6;clear s6
 have s8:=HW2.out.get HQX.out;obtain ⟨c0,cf0,c1,cf1,c2,cf2,c3,cf3,c4,cf4,c5,cf5,c6,cf6,c7,cf7,cl⟩:=uc8 s8;clear s8
 by_cases h200 : 200 < (s.size : Int)
 · go_wp2_with (first | (go_at_call 30;refine (HKN.out _ (hu0.out.trans (show Up W0 _ from uq))).mono ?_;rintro e wk ⟨rfl,huk⟩))
   go_ret
   exact ⟨rfl,hu0.out.trans (show Up W0 _ from uq)⟩
 go_wp2_with fail
 refine (hMY.out _ (hu0.out.trans (show Up W0 _ from uq)) (HB2.out (by first | rfl | trivial))).mono ?_
 rintro e w3 ⟨b3,rfl,hb3,hu3⟩
 have HB3:=Lib.hid hb3
 have HW3 : Hid (Up W0 w3):=uq
 clear hb3
 cases b3
 · go_wp2_with (first | (go_at_call 30;refine (HKN.out _ (hu0.out.trans (show Up W0 _ from uq))).mono ?_;rintro e wk ⟨rfl,huk⟩))
   go_ret
   exact ⟨rfl,hu0.out.trans (show Up W0 _ from uq)⟩
 have HU3 : Hid (Up w w3):=hu0.out.trans HW3.out
 clear hu1 hu2 hu3
 go_wp2_with fail
 refine (jis w3).mono ?_
 rintro e w4 ⟨A,bs,g,tv,rfl,hf,hu4⟩
 have hS4 : Sta w3 w4 A bs tenT tv (.map (some g)):=Sta.new hf hu4 ((HG.out.1.memo (Memo.of_up jag _ HU3.out)).mono HU3.out.size)
 have hTX : Hid (TIs w3.heap.size w3 [t0,t1,t2,t3,t4,t5] t):=(HX.out.1.low (HU3.out.below (Nat.le_refl _))).mono HU3.out.size
 have hTY : Hid (TIs w3.heap.size w3 [x0,x1,x2,x3,x4,x5] x):=(HY.out.1.low (HU3.out.below (Nat.le_refl _))).mono HU3.out.size
 have hM3 : Hid (w3.cell? ⟨0,0,none⟩ = some (.int .i64 m)):=(HU3.out.cells _ _ (jaj HG.out.2)).trans HG.out.2
 have hl4 : Hid (bs.length = 10):=hf.len
 have HS4:=Lib.hid hS4
 have s6:=(HW3.out.trans hS4.up).get HQT.out;obtain ⟨q0,p0,q1,p1,q2,p2,q3,p3,q4,p4,q5,p5,q9⟩:=uc6 s6;clear s6
 have s8:=(HW3.out.trans hS4.up).get HQX.out;obtain ⟨c0,cf0,c1,cf1,c2,cf2,c3,cf3,c4,cf4,c5,cf5,c6,cf6,c7,cf7,cl⟩:=uc8 s8;clear s8
 clear hS4 hf
 go_wp2_with fail
 refine (jdu (HS4.out.later (show Up w4 _ from uq)) hTX.out hM3.out (HB1.out (by first | rfl | trivial)) (by have:=hl4.out;omega)).mono ?_
 rintro e w5 ⟨p,ok5,bs5,ts5,tv5,mv5,rfl,hS5,hl5,hx5⟩
 have HS5:=Lib.hid (And.intro hS5 (And.intro hl5 hx5))
 have s8:=(HW3.out.trans hS5.up).get HQX.out;obtain ⟨c0,cf0,c1,cf1,c2,cf2,c3,cf3,c4,cf4,c5,cf5,c6,cf6,c7,cf7,cl⟩:=uc8 s8;clear s8
 clear hS5 hl5 hx5
 go_wp2_with fail
 refine (jdu (HS5.out.1.later (show Up w5 _ from uq)) hTY.out hM3.out (HB2.out (by first | rfl | trivial)) (by have:=hl4.out;have:=HS5.out.2.1;rw [List.length_append];omega)).mono ?_
 rintro e w6 ⟨T,ok6,bs6,ts6,tv6,mv6,rfl,hS6,hl6,hx6⟩
 have HS6:=Lib.hid (And.intro hS6 (And.intro hl6 hx6))
 have s8:=(HW3.out.trans hS6.up).get HQX.out;obtain ⟨c0,cf0,c1,cf1,c2,cf2,c3,cf3,c4,cf4,c5,cf5,c6,cf6,c7,cf7,cl⟩:=uc8 s8;clear s8
 have HU6 : Hid (Up w w6):=Up.trans HU3.out hS6.up
 clear hS6 hl6 hx6 hu4
 cases ok5
 · go_wp2_with (first | (go_at_call 30;refine (HKN.out _ (Up.trans HU6.out (show Up w6 _ from uq))).mono ?_;rintro e wk ⟨rfl,huk⟩))
   go_ret
   exact ⟨rfl,Up.trans HU6.out (show Up w6 _ from uq)⟩
 cases ok6
 · go_wp2_with (first | (go_at_call 30;refine (HKN.out _ (Up.trans HU6.out (show Up w6 _ from uq))).mono ?_;rintro e wk ⟨rfl,huk⟩))
   go_ret
   exact ⟨rfl,Up.trans HU6.out (show Up w6 _ from uq)⟩
 obtain ⟨P,hP1,hP2,_,hP3,hP4⟩:=HS5.out.2.2 (by first | rfl | trivial)
 obtain ⟨V,hV1,hV2,_,hV3,hV4⟩:=HS6.out.2.2 (by first | rfl | trivial)
 obtain ⟨BS,hBS⟩ : ∃ BS,bs ++ bs5 ++ bs6 = BS:=⟨_,rfl⟩
 obtain ⟨TS,hTS⟩ : ∃ TS,tenT ++ ts5 ++ ts6 = TS:=⟨_,rfl⟩
 have HSS : Hid (Sta w3 w6 A BS TS tv6 mv6):=by have:=HS6.out.1;rw [hBS,hTS] at this;exact this
 have hBL : Hid (BS.length ≤ 12100):=by rw [← hBS];have:=hl4.out;have:=HS5.out.2.1;have:=HS6.out.2.1;unfold Hid;simp only [List.length_append];omega
 have hPT : Hid (TS[p]? = some P):=by rw [← hTS];exact more hP1
 have hVT : Hid (TS[T]? = some V):=by rw [← hTS];exact hV1
 have hK : Hid (TestOk K V.canon):=by
   obtain ⟨k1,k2,k3⟩:=HB3.out (by first | rfl | trivial)
   refine ⟨k1,k2,fun h => ⟨by rw [hV3];exact hV4.cv,?_⟩⟩
   rw [hV3, ← hV4.norm,Ty.canon_kind]
   exact (k3 h).2
 have hPC : Hid (CV P.canon ∧ P.nodes ≤ 60):=⟨by rw [hP3];exact hP4.cv,hP2⟩
 clear hBS hTS hP1 hP2 hP3 hP4 hV1 hV2 hV3 hV4
 go_wp2_with fail
 refine (jdw (HSS.out.later (show Up w6 _ from uq)) (by have:=hBL.out;omega) hPT.out hVT.out K s hK.out true (by have:=hPC.out.2;omega) (N:=181) (kept_fit hK.out true (n:=60) (by rw [Ty.nodes_canon];exact hPC.out.2)) (by decide) hM3.out).mono ?_
 rintro e w7 ⟨i7,bs7,ts7,tv7,mv7,X7,rfl,hS7,hl7,hx7,hv7,hc7,hn7,hz7⟩
 have H7:=Lib.hid (And.intro hS7 (And.intro hl7 (And.intro hx7 (And.intro hc7 hn7))))
 have HZ7:=Lib.hid (hz7 w6.heap.size _ (ja9 _ _))
 have s8:=HZ7.out;obtain ⟨z0,zf0,z1,zf1,z2,zf2,zl⟩:=uc3 s8;clear s8
 clear hz7
 clear hS7 hl7 hx7 hv7 hc7 hn7
 go_wp2_with fail
 have hf8:=Lib.hid (jho hK.out hPC.out.1 true (n:=181) (by have h1:=H7.out.2.2.2.1;rw [← h1,Ty.nodes_canon];exact H7.out.2.2.2.2))
 refine (jdw (H7.out.1.later (show Up w7 _ from uq)) (by have:=hBL.out;have:=H7.out.2.1;rw [List.length_append];omega) H7.out.2.2.1 (more hVT.out) K s hK.out true (by have:=H7.out.2.2.2.2;omega) (N:=182) (by have h1:=H7.out.2.2.2.1;rw [h1];exact hf8.out.1) (by decide) hM3.out).mono ?_
 rintro e w8 ⟨i8,bs8,ts8,tv8,mv8,X8,rfl,hS8,hl8,hx8,hv8,hc8,hn8,hz8⟩
 have h87 : Hid (i8 = i7):=hS8.same hx8 (more H7.out.2.2.1) (by rw [hc8,H7.out.2.2.2.1];exact hf8.out.2)
 have H8:=Lib.hid (And.intro hS8 hl8)
 have HZ8:=Lib.hid (hz8 w6.heap.size _ (Up.get (w:=w7) (show Up w7 _ from uq) HZ7.out))
 have s8:=HZ8.out;obtain ⟨z0,zf0,z1,zf1,z2,zf2,zl⟩:=uc3 s8;clear s8
 clear hz8
 clear hS8 hl8 hx8 hv8 hc8 hn8 hf8
 go_wp2_with fail
 refine (jdw (H8.out.1.later (show Up w8 _ from uq)) (by have:=hBL.out;have:=H7.out.2.1;have:=H8.out.2;simp only [List.length_append];omega) (more (more hPT.out)) (more (more hVT.out)) K s hK.out false (by have:=hPC.out.2;omega) (N:=181) (kept_fit hK.out false (n:=60) (by rw [Ty.nodes_canon];exact hPC.out.2)) (by decide) hM3.out).mono ?_
 rintro e w9 ⟨i9,bs9,ts9,tv9,mv9,X9,rfl,hS9,hl9,hx9,hv9,hc9,hn9,hz9⟩
 have H9:=Lib.hid (And.intro hS9 (And.intro hl9 (And.intro hx9 (And.intro hc9 hn9))))
 have HZ9:=Lib.hid (hz9 w6.heap.size _ (Up.get (w:=w8) (show Up w8 _ from uq) HZ8.out))
 have s8:=HZ9.out;obtain ⟨z0,zf0,z1,zf1,z2,zf2,zl⟩:=uc3 s8;clear s8
 clear hS9 hl9 hx9 hv9 hc9 hn9 hz9
 go_wp2_with fail
 have hf10:=Lib.hid (jho hK.out hPC.out.1 false (n:=181) (by have h1:=H9.out.2.2.2.1;rw [← h1,Ty.nodes_canon];exact H9.out.2.2.2.2))
 refine (jdw (H9.out.1.later (show Up w9 _ from uq)) (by have:=hBL.out;have:=H7.out.2.1;have:=H8.out.2;have:=H9.out.2.1;simp only [List.length_append];omega) H9.out.2.2.1 (more (more (more hVT.out))) K s hK.out false (by have:=H9.out.2.2.2.2;omega) (N:=182) (by have h1:=H9.out.2.2.2.1;rw [h1];exact hf10.out.1) (by decide) hM3.out).mono ?_
 rintro e w10 ⟨i10,bs10,ts10,tv10,mv10,X10,rfl,hS10,hl10,hx10,hv10,hc10,hn10,hz10⟩
 have h109 : Hid (i10 = i9):=hS10.same hx10 (more H9.out.2.2.1) (by rw [hc10,H9.out.2.2.2.1];exact hf10.out.2)
 have HU10 : Hid (Up w w10):=Up.trans HU3.out hS10.up
 clear hS10 hl10 hx10 hv10 hc10 hn10 hf10
 have e87:=h87.out
 have e109:=h109.out
 subst e87 e109
 go_wp2_with (first | (go_at_call 30;refine (HKN.out _ (HU10.out.trans (show Up w10 _ from uq))).mono ?_;rintro e wk ⟨rfl,huk⟩))
 go_ret
 exact ⟨rfl,HU10.out.trans (show Up w10 _ from uq)⟩
open Go.ChangeAt Go.ChangeShapes Go.WideShapes
theorem tab_of {W : World} (h : laidMetH Tryz.prog Rows.narrowTwiceUptoRow.laid W) : Tab W:=by
 have h1:=(laidMetH_iff.1 h).1
 have h2:=h1.filter (fun x => x.1 == "internal/strconv.uint64pow10")
 exact Lib.tabIs_of_head (g:=1) (rest := []) (by kernel_rfl) (by kernel_rfl) Tryz.underlying278 Tryz.underlying268 (by kernel_rfl) (by kernel_rfl) (show laidMet Tryz.prog [("internal/strconv.uint64pow10",Lib.tabData .u64 Lib.pow10Tab)] W from h2)
def jns : List Int := [0,1,56,2,57,49,28,3,61,58,42,50,38,29,17,4,62,47,59,36,45,43,51,22,53,39,33,30,24,18,12,5,63,55,48,27,60,41,37,16,46,35,44,21,52,32,23,11,54,26,40,15,34,20,31,10,25,14,19,9,13,8,7,6]
theorem bru_of {W : World} (h : laidMetH Tryz.prog Rows.narrowTwiceUptoRow.laid W) : Bru W:=by
 have h1:=(laidMetH_iff.1 h).1
 have h2:=h1.filter (fun x => x.1 == "math/bits.deBruijn64tab")
 have h3 : Lib.TabIs Tryz.prog W "math/bits.deBruijn64tab" .u8 jns:=Lib.tabIs_of_head (g:=3) (rest := []) (by kernel_rfl) (by kernel_rfl) Tryz.underlying285 Tryz.underlying5 (by kernel_rfl) (by kernel_rfl) (show laidMet Tryz.prog [("math/bits.deBruijn64tab",Lib.tabData .u8 jns)] W from h2)
 exact h3.cell (g:=3) (by kernel_rfl) 15 (by decide)
theorem jiJ {cs : Array Value} {T : TypeId} {f : Nat × Nat} (h1 : T ≠ TyT) (h2 : T ≠ TpT) : jou (.cells cs T f):=fun cs' f' =>
 ⟨fun e => by injection e with _ e _;exact h1 e,fun e => by injection e with _ e _;exact h2 e⟩
theorem jof {W : World} (h : laidMetH Tryz.prog Rows.narrowTwiceUptoRow.laid W) (hs : W.ShapedOpen Tryz.prog) : GlobB W.heap.size W:=by
 have ht:=tab_of h
 have hb:=bru_of h
 obtain ⟨cs0,h0,_,_⟩:=hs.1 1 (List.replicate 20 (Value.int .u64 0)).toArray 278 (of_decide_eq_true (by kernel_rfl)) (by kernel_rfl)
 obtain ⟨cs3,h3,_,_⟩:=hs.1 3 (List.replicate 64 (Value.int .u8 0)).toArray 285 (of_decide_eq_true (by kernel_rfl)) (by kernel_rfl)
 intro w1 k1 w2 k2
 have p0 : w2.heap[(1 : Nat)]? = W.heap[(1 : Nat)]? := (k2 _ _ (k1 _ _ (ja0 h0) h0) (jiJ (by decide) (by decide))).trans h0.symm
 have p3 : w2.heap[(3 : Nat)]? = W.heap[(3 : Nat)]? := (k2 _ _ (k1 _ _ (ja0 h3) h3) (jiJ (by decide) (by decide))).trans h3.symm
 refine ⟨?_,?_⟩
 · unfold Tab Lib.TabIs World.var? at ht ⊢
   rw [show Tryz.prog.globalNamed "internal/strconv.uint64pow10" = some 1 by kernel_rfl] at ht ⊢
   simp only [Option.bind_some] at ht ⊢
   rw [p0]
   exact ht
 · unfold Bru World.cell? at hb ⊢
   simp only at hb ⊢
   rw [p3]
   exact hb
theorem max_of {W : World} (hs : W.ShapedOpen Tryz.prog) : ∃ m,W.cell? ⟨0,0,none⟩ = some (.int .i64 m):=by
 obtain ⟨cs,hh,hz,hr⟩:=hs.1 0 #[.int .i64 0] 3 (of_decide_eq_true (by kernel_rfl)) (by kernel_rfl)
 obtain ⟨ts,hts,_,hall⟩:=hr (by kernel_rfl)
 rw [show Tryz.prog.cellTypes Tryz.prog.depth 3 = some [3] by kernel_rfl] at hts
 cases hts
 have h1 : 0 < cs.size:=by rw [hz];decide
 obtain ⟨u,hu',hok⟩:=hall 0 cs[0] (by simp [h1])
 have : u = 3:=by simpa using hu'.symm
 subst this
 have hcell : W.cell? ⟨0,0,none⟩ = some cs[0]:=by simp [World.cell?,hh,h1]
 rw [hcell]
 unfold Cell.ok at hok
 rw [Tryz.underlying3] at hok
 cases hv : cs[0] with
 | int k n =>
   rw [hv] at hok
   simp only at hok
   rw [hok.1]
   exact ⟨_,rfl⟩
 | _ => rw [hv] at hok;simp at hok
end Go.Proofs.YtiaepldmgighbaaGreatDoor
