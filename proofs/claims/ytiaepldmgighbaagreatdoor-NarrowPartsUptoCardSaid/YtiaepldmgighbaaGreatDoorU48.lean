import Derived.Test.YtiaepldmgighbaaGreatDoorU41
import Derived.Test.YtiaepldmgighbaaGreatDoorU37
import Derived.Test.YtiaepldmgighbaaGreatDoorU47
import Derived.Test.YtiaepldmgighbaaGreatDoorU05
import Derived.Test.YtiaepldmgighbaaGreatDoorU43
namespace Go.Proofs.YtiaepldmgighbaaGreatDoor
open Go.RowKit
set_option linter.unusedSimpArgs false
set_option linter.unusedVariables false
set_option maxRecDepth 100000
set_option maxHeartbeats 6400000
theorem jk9 (k n : Int) (nm : ByteArray) (ps : List Ty) (ns : List ByteArray) (ms : List Bool) (hk : k = 11 ∨ k = 12 ∨ k = 18 ∨ k = 19 ∨ k = 21 ∨ k = 22 ∨ k = 23) : jbq (.mk k n nm ps ns ms):=by
 intro B us w h hB
 unfold jbB
 obtain ⟨tx,htx⟩ : ∃ tx,Hid (dt (.mk k n nm ps ns ms) = tx):=⟨_,rfl⟩
 have htx2 : Hid (jap k n nm (ps.map fun p => (p.kind,dt p)) ns ms = tx):=by unfold Hid;rw [← jcg (by omega) (by omega)];exact htx.out
 rw [htx.out]
 clear htx
 cases h with
 | @mk _ _ _ pa cap nv mv _ _ _ us hn1 hn2 hnm hnv hln hsm hmv hlm hl hpl hpc hc hq =>
   obtain ⟨na,ncap,rfl,_,_⟩:=hnv.form
   obtain ⟨ma,mcap,rfl,_,_⟩:=hmv.form
   obtain ⟨nl,hnl⟩ : ∃ nl,Hid ((ns.map Value.string).length = nl):=⟨_,rfl⟩
   obtain ⟨ml,hml⟩ : ∃ ml,Hid ((ms.map Value.bool).length = ml):=⟨_,rfl⟩
   rw [hnl.out,hml.out]
   obtain ⟨ds,hdd⟩ : ∃ ds,Hid (numS n = ds):=⟨_,rfl⟩
   have hdig:=Lib.hid (fun W => show Calls Tryz.prog 80 #[.int .i64 n] W fun e w' => e = .returned (.string ds) ∧ Up W w' from by have:=jiI n hn1 hn2 W;rw [← hdd.out];exact this)
   have hquo:=Lib.hid (fun W => jnM nm hnm W)
   have hds : ds.size ≤ 24:=by have:=jbx n hn1 hn2;rw [hdd.out] at this;exact this
   have hqs:=jeH nm
   have z1 : ¬ 9223372036854775807 < nm.size + 1:=by omega
   have z2 : ¬ 9223372036854775807 < 6 + nm.size:=by omega
   have z3 : ¬ 9223372036854775807 < 5 + nm.size:=by omega
   have z4 : ¬ 9223372036854775807 < 10 + nm.size:=by omega
   have z5 : ¬ 9223372036854775807 < nm.size + 1 + ds.size:=by omega
   have z6 : ¬ 9223372036854775807 < 6 + nm.size + 1:=by omega
   have z7 : ¬ 9223372036854775807 < 5 + nm.size + 1:=by omega
   have z8 : ¬ 9223372036854775807 < 10 + nm.size + 1:=by omega
   have z9 : ¬ 9223372036854775807 < 6 + nm.size + 1 + ds.size:=by omega
   have za : ¬ 9223372036854775807 < 5 + nm.size + 1 + ds.size:=by omega
   have zb : ¬ 9223372036854775807 < 10 + nm.size + 1 + ds.size:=by omega
   have hnmi : (nm.size : Int) ≤ 2000000:=by omega
   clear hl hc hq hnv hmv hsm hln hlm hn1 hn2
   have hB2:=hB
   clear hB
   rcases hk with rfl | rfl | rfl | rfl | rfl | rfl | rfl
   ·rw [show tx = ds by rw [← htx2.out, ← hdd.out];exact rfl]
    clear htx2
    go_enter Tryz.func42,Tryz.ntmps42
    go_upto_region 1 with (fail)
    refine ja4 fun A2 W2 hA2 hW2 => ?_
    have hu0 : Hid (Up w W2):=by subst hW2;exact uq
    obtain ⟨q,hq⟩ : ∃ q,Hid (w.heap.size = q):=⟨_,rfl⟩
    have HQ:=Lib.hid (show W2.heap[q]? = some (.cells #[.int .i64 _, .int .i64 n, .string nm, .slice pa ps.length cap, .slice na nl ncap, .slice ma ml mcap] RefT (0,0)) by subst hW2;rw [← hq.out];exact jaa _ _ _ rfl)
    rw [hq.out] at hA2
    clear hW2
    subst hA2
    have s0:=HQ.out
    obtain ⟨q0,p0,q1,p1,q2,p2,q3,p3,q4,p4,q5,p5,q9⟩:=uc6 s0;clear s0
    go_wp2_with (first | (go_at_call 80;refine (hdig.out _).mono ?_;rintro e w2 ⟨rfl,hu2⟩) | (go_at_call 81;refine (hquo.out _).mono ?_;rintro e w2 ⟨rfl,hu2⟩))
    all_goals go_ret
    all_goals exact ⟨rfl,hu0.out.trans (by assumption)⟩
   ·rw [show tx = jbJ nm by rw [← htx2.out];exact rfl]
    clear htx2
    go_enter Tryz.func42,Tryz.ntmps42
    go_upto_region 1 with (fail)
    refine ja4 fun A2 W2 hA2 hW2 => ?_
    have hu0 : Hid (Up w W2):=by subst hW2;exact uq
    obtain ⟨q,hq⟩ : ∃ q,Hid (w.heap.size = q):=⟨_,rfl⟩
    have HQ:=Lib.hid (show W2.heap[q]? = some (.cells #[.int .i64 _, .int .i64 n, .string nm, .slice pa ps.length cap, .slice na nl ncap, .slice ma ml mcap] RefT (0,0)) by subst hW2;rw [← hq.out];exact jaa _ _ _ rfl)
    rw [hq.out] at hA2
    clear hW2
    subst hA2
    have s0:=HQ.out
    obtain ⟨q0,p0,q1,p1,q2,p2,q3,p3,q4,p4,q5,p5,q9⟩:=uc6 s0;clear s0
    go_wp2_with (first | (go_at_call 80;refine (hdig.out _).mono ?_;rintro e w2 ⟨rfl,hu2⟩) | (go_at_call 81;refine (hquo.out _).mono ?_;rintro e w2 ⟨rfl,hu2⟩))
    all_goals go_ret
    all_goals exact ⟨rfl,hu0.out.trans (by assumption)⟩
   ·rw [show tx = nm ++ ⟨#[39]⟩ ++ ds by rw [← htx2.out, ← hdd.out];exact rfl]
    clear htx2
    go_enter Tryz.func42,Tryz.ntmps42
    go_upto_region 1 with (fail)
    refine ja4 fun A2 W2 hA2 hW2 => ?_
    have hu0 : Hid (Up w W2):=by subst hW2;exact uq
    obtain ⟨q,hq⟩ : ∃ q,Hid (w.heap.size = q):=⟨_,rfl⟩
    have HQ:=Lib.hid (show W2.heap[q]? = some (.cells #[.int .i64 _, .int .i64 n, .string nm, .slice pa ps.length cap, .slice na nl ncap, .slice ma ml mcap] RefT (0,0)) by subst hW2;rw [← hq.out];exact jaa _ _ _ rfl)
    rw [hq.out] at hA2
    clear hW2
    subst hA2
    have s0:=HQ.out
    obtain ⟨q0,p0,q1,p1,q2,p2,q3,p3,q4,p4,q5,p5,q9⟩:=uc6 s0;clear s0
    go_wp2_with fail
    go_region_law (first | (go_simp;go_at_call 80;refine (hdig.out _).mono ?_;rintro e w2 ⟨rfl,hu2⟩;have s1:=(show Up W2 w2 from uq).get HQ.out;obtain ⟨q0,p0,q1,p1,q2,p2,q3,p3,q4,p4,q5,p5,q9⟩:=uc6 s1;clear s1))
    all_goals go_wp2_with fail
    all_goals go_ret
    all_goals exact ⟨rfl,hu0.out.trans (Up.trans (Up.drew (Up.refl _)) hu2)⟩
   ·rw [show tx = nm ++ ⟨#[64]⟩ ++ ds by rw [← htx2.out, ← hdd.out];exact rfl]
    clear htx2
    go_enter Tryz.func42,Tryz.ntmps42
    go_upto_region 1 with (fail)
    refine ja4 fun A2 W2 hA2 hW2 => ?_
    have hu0 : Hid (Up w W2):=by subst hW2;exact uq
    obtain ⟨q,hq⟩ : ∃ q,Hid (w.heap.size = q):=⟨_,rfl⟩
    have HQ:=Lib.hid (show W2.heap[q]? = some (.cells #[.int .i64 _, .int .i64 n, .string nm, .slice pa ps.length cap, .slice na nl ncap, .slice ma ml mcap] RefT (0,0)) by subst hW2;rw [← hq.out];exact jaa _ _ _ rfl)
    rw [hq.out] at hA2
    clear hW2
    subst hA2
    have s0:=HQ.out
    obtain ⟨q0,p0,q1,p1,q2,p2,q3,p3,q4,p4,q5,p5,q9⟩:=uc6 s0;clear s0
    go_wp2_with fail
    go_region_law (first | (go_simp;go_at_call 80;refine (hdig.out _).mono ?_;rintro e w2 ⟨rfl,hu2⟩;have s1:=(show Up W2 w2 from uq).get HQ.out;obtain ⟨q0,p0,q1,p1,q2,p2,q3,p3,q4,p4,q5,p5,q9⟩:=uc6 s1;clear s1))
    all_goals go_wp2_with fail
    all_goals go_ret
    all_goals exact ⟨rfl,hu0.out.trans (Up.trans (Up.drew (Up.refl _)) hu2)⟩
   ·rw [show tx = ⟨#[99,108,97,115,115,32]⟩ ++ nm ++ ⟨#[35]⟩ ++ ds by rw [← htx2.out, ← hdd.out];exact (show (⟨#[99,108,97,115,115,32]⟩ : ByteArray) ++ (nm ++ ⟨#[35]⟩ ++ numS n) = _ by simp only [ByteArray.append_assoc])]
    clear htx2
    go_enter Tryz.func42,Tryz.ntmps42
    go_upto_region 1 with (fail)
    refine ja4 fun A2 W2 hA2 hW2 => ?_
    have hu0 : Hid (Up w W2):=by subst hW2;exact uq
    obtain ⟨q,hq⟩ : ∃ q,Hid (w.heap.size = q):=⟨_,rfl⟩
    have HQ:=Lib.hid (show W2.heap[q]? = some (.cells #[.int .i64 _, .int .i64 n, .string nm, .slice pa ps.length cap, .slice na nl ncap, .slice ma ml mcap] RefT (0,0)) by subst hW2;rw [← hq.out];exact jaa _ _ _ rfl)
    rw [hq.out] at hA2
    clear hW2
    subst hA2
    have s0:=HQ.out
    obtain ⟨q0,p0,q1,p1,q2,p2,q3,p3,q4,p4,q5,p5,q9⟩:=uc6 s0;clear s0
    go_wp2_with fail
    go_region_law (first | (go_simp;go_at_call 80;refine (hdig.out _).mono ?_;rintro e w2 ⟨rfl,hu2⟩;have s1:=(show Up W2 w2 from uq).get HQ.out;obtain ⟨q0,p0,q1,p1,q2,p2,q3,p3,q4,p4,q5,p5,q9⟩:=uc6 s1;clear s1))
    all_goals go_wp2_with fail
    all_goals go_ret
    all_goals exact ⟨rfl,hu0.out.trans (Up.trans (Up.drew (Up.refl _)) hu2)⟩
   ·rw [show tx = ⟨#[101,110,117,109,32]⟩ ++ nm ++ ⟨#[35]⟩ ++ ds by rw [← htx2.out, ← hdd.out];exact (show (⟨#[101,110,117,109,32]⟩ : ByteArray) ++ (nm ++ ⟨#[35]⟩ ++ numS n) = _ by simp only [ByteArray.append_assoc])]
    clear htx2
    go_enter Tryz.func42,Tryz.ntmps42
    go_upto_region 1 with (fail)
    refine ja4 fun A2 W2 hA2 hW2 => ?_
    have hu0 : Hid (Up w W2):=by subst hW2;exact uq
    obtain ⟨q,hq⟩ : ∃ q,Hid (w.heap.size = q):=⟨_,rfl⟩
    have HQ:=Lib.hid (show W2.heap[q]? = some (.cells #[.int .i64 _, .int .i64 n, .string nm, .slice pa ps.length cap, .slice na nl ncap, .slice ma ml mcap] RefT (0,0)) by subst hW2;rw [← hq.out];exact jaa _ _ _ rfl)
    rw [hq.out] at hA2
    clear hW2
    subst hA2
    have s0:=HQ.out
    obtain ⟨q0,p0,q1,p1,q2,p2,q3,p3,q4,p4,q5,p5,q9⟩:=uc6 s0;clear s0
    go_wp2_with fail
    go_region_law (first | (go_simp;go_at_call 80;refine (hdig.out _).mono ?_;rintro e w2 ⟨rfl,hu2⟩;have s1:=(show Up W2 w2 from uq).get HQ.out;obtain ⟨q0,p0,q1,p1,q2,p2,q3,p3,q4,p4,q5,p5,q9⟩:=uc6 s1;clear s1))
    all_goals go_wp2_with fail
    all_goals go_ret
    all_goals exact ⟨rfl,hu0.out.trans (Up.trans (Up.drew (Up.refl _)) hu2)⟩
   ·rw [show tx = ⟨#[110,97,109,101,115,112,97,99,101,32]⟩ ++ nm ++ ⟨#[35]⟩ ++ ds by rw [← htx2.out, ← hdd.out];exact (show (⟨#[110,97,109,101,115,112,97,99,101,32]⟩ : ByteArray) ++ (nm ++ ⟨#[35]⟩ ++ numS n) = _ by simp only [ByteArray.append_assoc])]
    clear htx2
    go_enter Tryz.func42,Tryz.ntmps42
    go_upto_region 1 with (fail)
    refine ja4 fun A2 W2 hA2 hW2 => ?_
    have hu0 : Hid (Up w W2):=by subst hW2;exact uq
    obtain ⟨q,hq⟩ : ∃ q,Hid (w.heap.size = q):=⟨_,rfl⟩
    have HQ:=Lib.hid (show W2.heap[q]? = some (.cells #[.int .i64 _, .int .i64 n, .string nm, .slice pa ps.length cap, .slice na nl ncap, .slice ma ml mcap] RefT (0,0)) by subst hW2;rw [← hq.out];exact jaa _ _ _ rfl)
    rw [hq.out] at hA2
    clear hW2
    subst hA2
    have s0:=HQ.out
    obtain ⟨q0,p0,q1,p1,q2,p2,q3,p3,q4,p4,q5,p5,q9⟩:=uc6 s0;clear s0
    go_wp2_with fail
    go_region_law (first | (go_simp;go_at_call 80;refine (hdig.out _).mono ?_;rintro e w2 ⟨rfl,hu2⟩;have s1:=(show Up W2 w2 from uq).get HQ.out;obtain ⟨q0,p0,q1,p1,q2,p2,q3,p3,q4,p4,q5,p5,q9⟩:=uc6 s1;clear s1))
    all_goals go_wp2_with fail
    all_goals go_ret
    all_goals exact ⟨rfl,hu0.out.trans (Up.trans (Up.drew (Up.refl _)) hu2)⟩
theorem Snd.text {t : Ty} (h : Snd t) : t.wide ≤ 1000000000000000 → jbq t:=by
 induction h with
 | @mk k n nm ps ns ms h1 h2 h3 hp ih =>
   intro hw
   have hps : ∀ p ∈ ps,jbq p:=fun p hp => ih p hp (Nat.le_trans (Ty.wide_part hp) hw)
   by_cases hk : k < 11 ∨ 23 < k
   ·exact jk8 k n nm ps ns ms hk
   by_cases hf : k = 13 ∨ k = 20
   ·cases ps with
    | nil => exact absurd rfl (h1 (by omega))
    | cons p r => exact jin k n nm p r ns ms hf hw (hps p (by simp))
   by_cases e : k = 14
   ·subst e;exact jlA n nm ps ns ms hw hps (h2 rfl).1 (h2 rfl).2
   by_cases e : k = 15
   ·subst e;exact jlB n nm ps ns ms hw hps (h1 (by omega)) (h3 rfl)
   by_cases e : k = 16
   ·subst e;exact jim n nm ps ns ms hw hps
   by_cases e : k = 17
   ·subst e;exact jlz n nm ps ns ms hw hps
   exact jk9 k n nm ps ns ms (by omega)
theorem jji (a b : ByteArray) : (a.toList == b.toList) = decide (a = b):=by
 by_cases h : a = b
 ·subst h;simp
 ·have : ¬ a.toList = b.toList:=fun e => h (toList_inj e)
  simp [h,this]
theorem jlC (a b : Ty) (ha : jbq a) (hb : jbq b) (B : Nat) (us vs : List Value) (w : World) (hu : TIs B w us a) (hv : TIs B w vs b) (hB : B ≤ w.heap.size) :
  Calls Tryz.prog 71 #[.agg us.toArray, .agg vs.toArray] w fun e w' => e = .returned (.bool (decide (dt a = dt b))) ∧ Up w w':=by
 have HA:=Lib.hid (fun W (hW : Up w W) => ha B us W (hu.low (hW.below hB)) (Nat.le_trans hB hW.size))
 have HB:=Lib.hid (fun W (hW : Up w W) => hb B vs W (hv.low (hW.below hB)) (Nat.le_trans hB hW.size))
 obtain ⟨u0,u1,u2,u3,u4,u5,rfl⟩:=hu.six
 obtain ⟨v0,v1,v2,v3,v4,v5,rfl⟩:=hv.six
 unfold jbB at HA HB
 obtain ⟨tx,htx⟩ : ∃ x,Hid (dt a = x):=⟨_,rfl⟩
 obtain ⟨ty,hty⟩ : ∃ x,Hid (dt b = x):=⟨_,rfl⟩
 rw [htx.out] at HA
 rw [hty.out] at HB
 rw [htx.out,hty.out]
 clear ha hb hu hv
 go_enter Tryz.func71,Tryz.ntmps71
 go_wp2_with fail
 refine ja4 fun A1 W1 hA1 hW1 => ?_
 have x1 : Up w W1:=by rw [hW1];exact uq
 have bj : W1.heap[w.heap.size]? = some (.cells #[u0,u1,u2,u3,u4,u5] 33 (0,0)):=by rw [hW1];exact (jao _ _ _ (by simp)).trans (ja9 _ _)
 have bk : W1.heap[w.heap.size + 1]? = some (.cells #[v0,v1,v2,v3,v4,v5] 33 (0,0)):=by rw [hW1];exact jaa _ _ _ (by simp)
 clear hW1
 subst hA1
 have q0 : ∀ i : RUp W1,i.W.cell? ⟨w.heap.size,0,none⟩ = some u0:=fun i => ja1 (i.up.get bj) 0
 have q1 : ∀ i : RUp W1,i.W.cell? ⟨w.heap.size,1,none⟩ = some u1:=fun i => ja1 (i.up.get bj) 1
 have q2 : ∀ i : RUp W1,i.W.cell? ⟨w.heap.size,2,none⟩ = some u2:=fun i => ja1 (i.up.get bj) 2
 have q3 : ∀ i : RUp W1,i.W.cell? ⟨w.heap.size,3,none⟩ = some u3:=fun i => ja1 (i.up.get bj) 3
 have q4 : ∀ i : RUp W1,i.W.cell? ⟨w.heap.size,4,none⟩ = some u4:=fun i => ja1 (i.up.get bj) 4
 have q5 : ∀ i : RUp W1,i.W.cell? ⟨w.heap.size,5,none⟩ = some u5:=fun i => ja1 (i.up.get bj) 5
 have p0 : ∀ i : RUp W1,i.W.cell? ⟨w.heap.size + 1,0,none⟩ = some v0:=fun i => ja1 (i.up.get bk) 0
 have p1 : ∀ i : RUp W1,i.W.cell? ⟨w.heap.size + 1,1,none⟩ = some v1:=fun i => ja1 (i.up.get bk) 1
 have p2 : ∀ i : RUp W1,i.W.cell? ⟨w.heap.size + 1,2,none⟩ = some v2:=fun i => ja1 (i.up.get bk) 2
 have p3 : ∀ i : RUp W1,i.W.cell? ⟨w.heap.size + 1,3,none⟩ = some v3:=fun i => ja1 (i.up.get bk) 3
 have p4 : ∀ i : RUp W1,i.W.cell? ⟨w.heap.size + 1,4,none⟩ = some v4:=fun i => ja1 (i.up.get bk) 4
 have p5 : ∀ i : RUp W1,i.W.cell? ⟨w.heap.size + 1,5,none⟩ = some v5:=fun i => ja1 (i.up.get bk) 5
 have C1 : Hid (∀ i : RUp W1,Calls Tryz.prog 42 #[.agg #[u0,u1,u2,u3,u4,u5]] i.W fun e w' => e = .returned (.string tx) ∧ Up i.W w'):=fun i => HA.out _ (x1.trans i.up)
 have C2 : Hid (∀ i : RUp W1,Calls Tryz.prog 42 #[.agg #[v0,v1,v2,v3,v4,v5]] i.W fun e w' => e = .returned (.string ty) ∧ Up i.W w'):=fun i => HB.out _ (x1.trans i.up)
 refine jdd (by kernel_rfl) (by kernel_rfl) ?_
 repeat (go_big_quiet_step ((go_at_call 42;rename_i i;first | (with_reducible exact Calls.rup_of i (C1.out i)) | (with_reducible exact Calls.rup_of i (C2.out i)))))
 refine wpQuiet_nil ?_
 intro w6 hw'
 obtain ⟨i6,hw''⟩:=hw'
 have hu6 : Up W1 w6:=by rw [hw''];exact i6.up
 clear hw'' i6 q0 q1 q2 q3 q4 q5 p0 p1 p2 p3 p4 p5
 go_wp2_with fail
 go_ret
 refine ⟨?_,x1.trans hu6⟩
 show Ending.returned (.bool (tx.toList == ty.toList)) = _
 rw [jji]
inductive TIn (N : Nat → Prop) (w : World) : List Value → Ty → Prop
 | mk {k n : Int} {nm : ByteArray} {pa : Option Addr} {cap : Nat} {nv mv : Value} {ps : List Ty} {ns : List ByteArray} {ms : List Bool} (us : List (List Value))
   (hn1 : -9223372036854775808 ≤ n) (hn2 : n ≤ 9223372036854775807) (hnm : nm.size ≤ 2000000)
   (hnv : RowV N w nv (ns.map .string)) (hln : ns.length ≤ 2000000) (hsm : ∀ s ∈ ns,s.size ≤ 2000000)
   (hmv : RowV N w mv (ms.map .bool)) (hlm : ms.length ≤ 2000000)
   (hl : us.length = ps.length) (hpl : ps.length ≤ 2000000) (hpc : ps.length ≤ cap)
   (hc : ∀ (j : Nat) (u : List Value),us[j]? = some u → ∃ b off,pa = some ⟨b,off,none⟩ ∧ N b ∧ u.length = 6 ∧ ∀ i,i < 6 → w.cell? ⟨b,off + j * 6 + i,none⟩ = u[i]?)
   (hq : ∀ (j : Nat) (u : List Value) (p : Ty),us[j]? = some u → ps[j]? = some p → TIn N w u p) :
   TIn N w [.int .i64 k, .int .i64 n, .string nm, .slice pa ps.length cap,nv,mv] (.mk k n nm ps ns ms)
theorem jjf {w : World} {b o : Nat} {u : List Value} (h6 : u.length = 6) (h : ∀ i,i < 6 → w.cell? ⟨b,o + i,none⟩ = u[i]?) : ∃ cs T f,w.heap[b]? = some (.cells cs T f):=by
 obtain ⟨x,hx⟩ : ∃ x,u[0]? = some x:=⟨_,List.getElem?_eq_getElem (by omega)⟩
 have:=h 0 (by decide)
 rw [hx] at this
 obtain ⟨cs,T,f,h1,_⟩:=jg3 this
 exact ⟨cs,T,f,h1⟩
theorem TIs.tin {B : Nat} {w : World} {us : List Value} {t : Ty} (h : TIs B w us t) : TIn (fun x => x < B) w us t:=by
 induction h with
 | mk us hn1 hn2 hnm hnv hln hsm hmv hlm hl hpl hpc hc hq ih => exact .mk us hn1 hn2 hnm hnv hln hsm hmv hlm hl hpl hpc hc ih
theorem TIn.keep {N N' : Nat → Prop} {w w' : World} {us : List Value} {t : Ty} (h : TIn N w us t) (k : ∀ (x : Nat) (o : Obj),N x → w.heap[x]? = some o → N' x ∧ w'.heap[x]? = some o) : TIn N' w' us t:=by
 have hr : ∀ {v : Value} {us : List Value},RowV N w v us → RowV N' w' v us:=fun ⟨T,h⟩ => ⟨T,h.keep fun g cs fz h1 h2 => k g _ h1 h2⟩
 induction h with
 | mk us hn1 hn2 hnm hnv hln hsm hmv hlm hl hpl hpc hc hq ih =>
   refine .mk us hn1 hn2 hnm (hr hnv) hln hsm (hr hmv) hlm hl hpl hpc (fun j u hj => ?_) ih
   obtain ⟨b,off,h1,h2,h3,h4⟩:=hc j u hj
   obtain ⟨cs,T,f,hb⟩:=jjf h3 h4
   obtain ⟨k1,k2⟩:=k b _ h2 hb
   exact ⟨b,off,h1,k1,h3,fun i hi => by rw [ja1 k2, ← ja1 hb];exact h4 i hi⟩
theorem TIn.up {N : Nat → Prop} {w w' : World} {us : List Value} {t : Ty} (h : TIn N w us t) (k : Up w w') : TIn N w' us t:=h.keep fun x o hx ho => ⟨hx,(k.block x (Array.getElem?_eq_some_iff.1 ho).1).trans ho⟩
theorem TIn.more {N N' : Nat → Prop} {w : World} {us : List Value} {t : Ty} (h : TIn N w us t) (k : ∀ x,N x → x < w.heap.size → N' x) : TIn N' w us t:=h.keep fun x o hx ho => ⟨k x hx (Array.getElem?_eq_some_iff.1 ho).1,ho⟩
theorem TIn.tis {N : Nat → Prop} {w : World} {us : List Value} {t : Ty} (h : TIn N w us t) : TIs w.heap.size w us t:=by
 have hr : ∀ {v : Value} {us : List Value},RowV N w v us → RowV (fun x => x < w.heap.size) w v us:=fun ⟨T,h⟩ => ⟨T,h.keep fun g cs fz h1 h2 => ⟨ja0 h2,h2⟩⟩
 induction h with
 | mk us hn1 hn2 hnm hnv hln hsm hmv hlm hl hpl hpc hc hq ih =>
   refine .mk us hn1 hn2 hnm (hr hnv) hln hsm (hr hmv) hlm hl hpl hpc (fun j u hj => ?_) ih
   obtain ⟨b,off,h1,h2,h3,h4⟩:=hc j u hj
   obtain ⟨cs,T,f,hb⟩:=jjf h3 h4
   exact ⟨b,off,h1,ja0 hb,h3,h4⟩
theorem TIn.six {N : Nat → Prop} {w : World} {us : List Value} {t : Ty} (h : TIn N w us t) : ∃ u1 u2 u3 u4 u5,us = [.int .i64 t.kind,u1,u2,u3,u4,u5]:=by
 cases h
 exact ⟨_,_,_,_,_,rfl⟩
theorem TIn.leaf (N : Nat → Prop) (w : World) (k : Int) : TIn N w [.int .i64 k, .int .i64 0, .string ⟨#[]⟩, .slice none 0 0, .slice none 0 0, .slice none 0 0] (ja3 k) :=
 .mk (ps := []) (ns := []) (ms := []) [] (by decide) (by decide) (by decide) (RowV.nil _ _) (by simp) (by simp) (RowV.nil _ _) (by simp) rfl (by simp) (by simp) (fun j u h => by simp at h) (fun j u p h => by simp at h)
def ElemsAt (N : Nat → Prop) (w : World) (ts : List Ty) (a : Option Addr) : Prop := ∀ (j : Nat) (t : Ty),ts[j]? = some t → ∃ b off u1 u2 u3 u4 u5,a = some ⟨b,off,none⟩ ∧ w.cell? ⟨b,off + j * 6,none⟩ = some (.int .i64 t.kind) ∧ w.cell? ⟨b,off + j * 6 + 1,none⟩ = some u1 ∧ w.cell? ⟨b,off + j * 6 + 2,none⟩ = some u2 ∧ w.cell? ⟨b,off + j * 6 + 3,none⟩ = some u3 ∧ w.cell? ⟨b,off + j * 6 + 4,none⟩ = some u4 ∧ w.cell? ⟨b,off + j * 6 + 5,none⟩ = some u5 ∧ TIn N w [.int .i64 t.kind,u1,u2,u3,u4,u5] t
theorem jak {w w' : World} (k : Up w w') {a : Addr} {v : Value} (ha : a.spot = none) (h : w.cell? a = some v) : w'.cell? a = some v:=by
 obtain ⟨b,o,s⟩:=a
 simp only at ha
 subst ha
 exact (k.cells b o (jaj h)).trans h
theorem ElemsAt.later {N : Nat → Prop} {w w' : World} {ts : List Ty} {a : Option Addr} (h : ElemsAt N w ts a) (k : Up w w') : ElemsAt N w' ts a:=fun j t ht => by
 obtain ⟨b,off,u1,u2,u3,u4,u5,e,c0,c1,c2,c3,c4,c5,hT⟩:=h j t ht
 exact ⟨b,off,u1,u2,u3,u4,u5,e,jak k rfl c0,jak k rfl c1,jak k rfl c2,jak k rfl c3,jak k rfl c4,jak k rfl c5,hT.up k⟩
theorem ElemsAt.of_cells {N : Nat → Prop} {w : World} {ts : List Ty} {pa : Option Addr} {us : List (List Value)} (hl : us.length = ts.length)
  (hc : ∀ (j : Nat) (u : List Value),us[j]? = some u → ∃ b off,pa = some ⟨b,off,none⟩ ∧ u.length = 6 ∧ ∀ i,i < 6 → w.cell? ⟨b,off + j * 6 + i,none⟩ = u[i]?)
  (hq : ∀ (j : Nat) (u : List Value) (p : Ty),us[j]? = some u → ts[j]? = some p → TIn N w u p) : ElemsAt N w ts pa:=fun j t ht => by
 obtain ⟨u,hu⟩ : ∃ u,us[j]? = some u:=⟨_,List.getElem?_eq_getElem (by rw [hl];exact (List.getElem?_eq_some_iff.1 ht).1)⟩
 obtain ⟨b,off,e,_,h4⟩:=hc j u hu
 have hT:=hq j u t hu ht
 obtain ⟨u1,u2,u3,u4,u5,rfl⟩:=hT.six
 exact ⟨b,off,u1,u2,u3,u4,u5,e,h4 0 (by decide),h4 1 (by decide),h4 2 (by decide),h4 3 (by decide),h4 4 (by decide),h4 5 (by decide),hT⟩
theorem TIn.parts {N : Nat → Prop} {w : World} {us : List Value} {k n : Int} {nm : ByteArray} {ps : List Ty} {ns : List ByteArray} {ms : List Bool} (h : TIn N w us (.mk k n nm ps ns ms)) :
  ∃ pa cap nv mv,us = [.int .i64 k, .int .i64 n, .string nm, .slice pa ps.length cap,nv,mv] ∧ ps.length ≤ cap ∧ ps.length ≤ 2000000 ∧ ElemsAt N w ps pa:=by
 cases h with
 | mk us hn1 hn2 hnm hnv hln hsm hmv hlm hl hpl hpc hc hq =>
   exact ⟨_,_,_,_,rfl,hpc,hpl,ElemsAt.of_cells hl (fun j u hj => let ⟨b,off,e,_,h6,h4⟩:=hc j u hj; ⟨b,off,e,h6,h4⟩) hq⟩
structure RowU (N : Nat → Prop) (lo : Nat) (w : World) (v : Value) (ts : List Ty) (uss : List (List Value)) : Prop where
 len : uss.length = ts.length
 six : ∀ u ∈ uss,u.length = 6
 ty : ∀ (j : Nat) (u : List Value) (t : Ty),uss[j]? = some u → ts[j]? = some t → TIn N w u t
 own : w.ownsRow 0 RefT 6 v ts.length uss.flatten
 far : ∀ g,v.ownBlock = some g → lo ≤ g
def RowTD (N : Nat → Prop) (lo : Nat) (w : World) (v : Value) (ts : List Ty) : Prop := ∃ uss,RowU N lo w v ts uss
theorem RowTD.nil (N : Nat → Prop) (lo : Nat) (w : World) : RowTD N lo w (.slice none 0 0) []:=by
 refine ⟨[],rfl,?_,?_,World.ownsRow_nil _ _ _ _,?_⟩
 ·intro u h;cases h
 ·intro j u t h;simp at h
 ·intro g h;cases h
theorem RowU.form {N : Nat → Prop} {lo : Nat} {w : World} {v : Value} {ts : List Ty} {uss : List (List Value)} (h : RowU N lo w v ts uss) : ∃ a cap,v = .slice a ts.length cap ∧ ts.length ≤ cap:=by
 rcases h.own.2 with ⟨e,e2⟩ | ⟨g,cap,cur,e,_,_,q,_⟩
 ·exact ⟨none,0,by rw [e2];exact e,by omega⟩
 ·exact ⟨_,cap,e,q⟩
theorem jcf : ∀ (uss : List (List Value)) (j : Nat) (u : List Value),(∀ u ∈ uss,u.length = 6) → uss[j]? = some u → ∀ i,i < 6 → uss.flatten[j * 6 + i]? = u[i]?
 | [],j,u,_,h => by simp at h
 | x :: r,0,u,h6,h => fun i hi => by
   simp only [gQz,Option.some.injEq] at h
   subst h
   have:=h6 x (by simp)
   rw [List.flatten_cons,Nat.zero_mul,Nat.zero_add,List.getElem?_append_left (by omega)]
 | x :: r,j + 1,u,h6,h => fun i hi => by
   simp only [gQs] at h
   have h1:=h6 x (by simp)
   rw [List.flatten_cons,List.getElem?_append_right (by omega),h1,show (j + 1) * 6 + i - 6 = j * 6 + i by omega]
   exact jcf r j u (fun u hu => h6 u (by simp [hu])) h i hi
theorem jfI {w : World} {v : Value} {n : Nat} {xs : List Value} (h : w.ownsRow 0 RefT 6 v n xs) {j : Nat} {u : Value} (hu : xs[j]? = some u) : ∃ g cap cur,v = .slice (some ⟨g,0,none⟩) n cap ∧ w.heap[g]? = some (.cells cur RefT (0,0)) ∧ w.cell? ⟨g,j,none⟩ = some u:=by
 rcases h.2 with ⟨_,h0⟩ | ⟨g,cap,cur,hv,_,hg,hnc,_,hcs,ht⟩
 ·have h1:=h.1
  rw [h0] at h1
  have:=(List.getElem?_eq_some_iff.1 hu).1
  omega
 ·refine ⟨g,cap,cur,hv,hg,?_⟩
  subst hv
  rw [h.cellAt j (by rw [← h.1];exact (List.getElem?_eq_some_iff.1 hu).1)]
  exact hu
theorem RowU.elems {N : Nat → Prop} {lo : Nat} {w : World} {v : Value} {ts : List Ty} {uss : List (List Value)} (h : RowU N lo w v ts uss) : ∃ a cap,v = .slice a ts.length cap ∧ ts.length ≤ cap ∧ ElemsAt N w ts a:=by
 obtain ⟨a,cap,hv,hc⟩:=h.form
 obtain ⟨h1,h2,h3,h4,h5⟩:=h
 refine ⟨a,cap,hv,hc,ElemsAt.of_cells h1 (fun j u hj => ?_) h3⟩
 have h6:=h2 u (List.mem_of_getElem? hj)
 have hf:=jcf uss j u h2 hj
 obtain ⟨x,hx⟩ : ∃ x,u[0]? = some x:=⟨_,List.getElem?_eq_getElem (by omega)⟩
 obtain ⟨g,cap',cur,e,hg,_⟩:=jfI h4 ((hf 0 (by decide)).trans hx)
 rw [hv] at e
 injection e with e _ _
 refine ⟨g,0,e,h6,fun i hi => ?_⟩
 obtain ⟨y,hy⟩ : ∃ y,u[i]? = some y:=⟨_,List.getElem?_eq_getElem (by omega)⟩
 obtain ⟨g',_,_,e',_,hc'⟩:=jfI h4 ((hf i hi).trans hy)
 rw [hv] at e'
 injection e' with e' _ _
 rw [e] at e'
 injection e' with e'
 injection e' with e' _ _
 subst e'
 rw [Nat.zero_add,hc',hy]
theorem jbF {w : World} {v : Value} {n : Nat} {xs : List Value} (h : w.ownsRow 0 RefT 6 v n xs) {g : Nat} (hg : v.ownBlock = some g) : ∃ cur,w.heap[g]? = some (.cells cur RefT (0,0)):=by
 rcases h.2 with ⟨e,_⟩ | ⟨g',cap,cur,e,_,hh,_⟩
 ·rw [e] at hg;cases hg
 ·rw [e] at hg;cases hg;exact ⟨cur,hh⟩
theorem jed {w w' : World} {e : TypeId} {size : Nat} {v : Value} {n : Nat} {xs : List Value} (h : w.ownsRow 0 e size v n xs) (hb : ∀ g,v.ownBlock = some g → w'.heap[g]? = w.heap[g]?) : w'.ownsRow 0 e size v n xs:=by
 refine ⟨h.1,?_⟩
 rcases h.2 with h2 | ⟨g,cap,cur,e1,e2,e3,e4⟩
 ·exact .inl h2
 ·exact .inr ⟨g,cap,cur,e1,e2,(hb g (by rw [e1];rfl)).trans e3,e4⟩
theorem RowU.up {N : Nat → Prop} {lo : Nat} {w w' : World} {v : Value} {ts : List Ty} {uss : List (List Value)} (h : RowU N lo w v ts uss) (k : Up w w') : RowU N lo w' v ts uss:=by
 obtain ⟨h1,h2,h3,h4,h5⟩:=h
 refine ⟨h1,h2,fun j u t a b => (h3 j u t a b).up k,jed h4 fun g hg => ?_,h5⟩
 obtain ⟨cur,hh⟩:=jbF h4 hg
 exact k.block g (ja0 hh)
theorem RowU.push {N : Nat → Prop} {lo : Nat} {w W w' : World} {v v' : Value} {ts ts' : List Ty} {uss : List (List Value)} (h : RowU N lo W v ts uss) (hlo : ∀ x,N x → x < W.heap.size → x < lo) (hW : lo ≤ W.heap.size) {uss' : List (List Value)} (hl : uss'.length = ts'.length) (h6 : ∀ u ∈ uss',u.length = 6) (hT : ∀ (j : Nat) (u : List Value) (t : Ty),uss'[j]? = some u → ts'[j]? = some t → TIn N W u t)
  (hown : w'.ownsRow 0 RefT 6 v' (ts.length + ts'.length) (uss.flatten ++ uss'.flatten)) (hg : W.grownBy w' v.ownBlock) (hb : v'.ownBlock = v.ownBlock ∨ ∃ g,v'.ownBlock = some g ∧ W.heap.size ≤ g) : RowU N lo w' v' (ts ++ ts') (uss ++ uss'):=by
 obtain ⟨h1,h2,h3,h4,h5⟩:=h
 have hk : ∀ {u : List Value} {t : Ty},TIn N W u t → TIn N w' u t:=fun hT => hT.keep fun x o hx ho => ⟨hx,(hg.block x (Array.getElem?_eq_some_iff.1 ho).1 (fun e => by have:=h5 x e.symm;have:=hlo x hx (Array.getElem?_eq_some_iff.1 ho).1;omega)).trans ho⟩
 refine ⟨by simp [h1,hl],fun u hu => ?_,fun j u t hu ht => ?_,?_,fun g hg' => ?_⟩
 ·rcases List.mem_append.1 hu with q | q
  ·exact h2 u q
  ·exact h6 u q
 ·rcases Nat.lt_or_ge j ts.length with hj | hj
  ·rw [List.getElem?_append_left (by omega)] at hu
   rw [List.getElem?_append_left (by omega)] at ht
   exact hk (h3 j u t hu ht)
  ·rw [List.getElem?_append_right (by omega)] at hu
   rw [List.getElem?_append_right (by omega)] at ht
   rw [h1] at hu
   exact hk (hT _ u t hu ht)
 ·rw [List.flatten_append,List.length_append]
  exact hown
 ·rcases hb with q | ⟨g2,q,q2⟩
  ·exact h5 g (by rw [← q];exact hg')
  ·rw [q] at hg'
   cases hg'
   omega
theorem RowV.one {N : Nat → Prop} {w : World} {v : Value} {us : List Value} (h : RowV N w v us) : v.oneCell' = true:=by
 obtain ⟨a,cap,rfl,_⟩:=h.form
 rfl
theorem TIn.one {N : Nat → Prop} {w : World} {us : List Value} {t : Ty} (h : TIn N w us t) : ∀ u ∈ us,u.oneCell' = true:=by
 cases h with
 | mk us hn1 hn2 hnm hnv hln hsm hmv hlm hl hpl hpc hc hq =>
   intro u hu
   simp only [List.mem_cons,List.not_mem_nil,or_false] at hu
   rcases hu with rfl | rfl | rfl | rfl | rfl | rfl
   ·rfl
   ·rfl
   ·rfl
   ·rfl
   ·exact hnv.one
   ·exact hmv.one
theorem jf6 : ∀ (uss : List (List Value)) (k : Nat) (x : Value),(∀ u ∈ uss,u.length = 6) → uss.flatten[k]? = some x → ∃ (j i : Nat) (u : List Value),k = j * 6 + i ∧ i < 6 ∧ uss[j]? = some u ∧ u[i]? = some x
 | [],k,x,_,h => by simp at h
 | y :: r,k,x,h6,h => by
   have h1:=h6 y (by simp)
   rw [List.flatten_cons] at h
   rcases Nat.lt_or_ge k 6 with hk | hk
   ·rw [List.getElem?_append_left (by omega)] at h
    exact ⟨0,k,y,by omega,hk,rfl,h⟩
   ·rw [List.getElem?_append_right (by omega),h1] at h
    obtain ⟨j,i,u,e1,e2,e3,e4⟩:=jf6 r (k - 6) x (fun u hu => h6 u (by simp [hu])) h
    exact ⟨j + 1,i,u,by omega,e2,e3,e4⟩
theorem jce : ∀ (uss : List (List Value)),(∀ u ∈ uss,u.length = 6) → uss.flatten.length = uss.length * 6
 | [],_ => rfl
 | y :: r,h6 => by
   have h1:=h6 y (by simp)
   rw [List.flatten_cons,List.length_append,List.length_cons,jce r (fun u hu => h6 u (by simp [hu])),h1]
   omega
theorem ElemsAt.rows {N : Nat → Prop} {w : World} {ts : List Ty} {a : Option Addr} (h : ElemsAt N w ts a) : ∃ uss : List (List Value),uss.length = ts.length ∧ (∀ u ∈ uss,u.length = 6) ∧ (∀ (j : Nat) (u : List Value) (t : Ty),uss[j]? = some u → ts[j]? = some t → TIn N w u t) ∧ (∀ u ∈ uss.flatten,u.oneCell' = true) ∧ ∀ (k : Nat) (x : Value),uss.flatten[k]? = some x → ∃ b off,a = some ⟨b,off,none⟩ ∧ w.cell? ⟨b,off + k,none⟩ = some x:=by
 obtain ⟨uss,hl,hat⟩:=jeV (P:=fun j (u : List Value) => ∃ t,ts[j]? = some t ∧ u.length = 6 ∧ TIn N w u t ∧ ∃ b off,a = some ⟨b,off,none⟩ ∧ ∀ i,i < 6 → w.cell? ⟨b,off + j * 6 + i,none⟩ = u[i]?) ts.length (fun j hj => by
  obtain ⟨t,ht⟩ : ∃ t,ts[j]? = some t:=⟨_,List.getElem?_eq_getElem hj⟩
  obtain ⟨b,off,u1,u2,u3,u4,u5,e,c0,c1,c2,c3,c4,c5,hT⟩:=h j t ht
  refine ⟨_,t,ht,rfl,hT,b,off,e,fun i hi => ?_⟩
  have : i = 0 ∨ i = 1 ∨ i = 2 ∨ i = 3 ∨ i = 4 ∨ i = 5:=by omega
  rcases this with rfl | rfl | rfl | rfl | rfl | rfl
  ·exact c0
  ·exact c1
  ·exact c2
  ·exact c3
  ·exact c4
  ·exact c5)
 have h6 : ∀ u ∈ uss,u.length = 6:=fun u hu => by
  obtain ⟨j,hj⟩:=List.getElem?_of_mem hu
  exact (hat j u hj).choose_spec.2.1
 refine ⟨uss,hl,h6,fun j u t hu ht => ?_,fun x hx => ?_,fun k x hx => ?_⟩
 ·obtain ⟨t',q1,_,q3,_⟩:=hat j u hu
  rw [ht] at q1
  cases q1
  exact q3
 ·obtain ⟨u,hu,hx⟩:=List.mem_flatten.1 hx
  obtain ⟨j,hj⟩:=List.getElem?_of_mem hu
  obtain ⟨t',q1,_,q3,_⟩:=hat j u hj
  exact q3.one x hx
 ·obtain ⟨j,i,u,rfl,hi,hu,hx⟩:=jf6 uss k x h6 hx
  obtain ⟨t',q1,_,q3,b,off,e,q4⟩:=hat j u hu
  exact ⟨b,off,e,by rw [← Nat.add_assoc,q4 i hi,hx]⟩
theorem jlx {N : Nat → Prop} {w : World} {b : Nat} {us : List Value} {t : Ty} {f : Nat × Nat} (h : w.heap[b]? = some (.cells us.toArray RefT f)) (hT : TIn N w us t) : ElemsAt N w [t] (some ⟨b,0,none⟩):=by
 refine ElemsAt.of_cells (us := [us]) rfl (fun j u hj => ?_) (fun j u p hj hp => ?_)
 ·cases j with
  | zero =>
    simp only [gQz,Option.some.injEq] at hj
    subst hj
    obtain ⟨u1,u2,u3,u4,u5,rfl⟩:=hT.six
    refine ⟨b,0,rfl,rfl,fun i hi => ?_⟩
    rw [ja1 h,Nat.zero_mul,Nat.zero_add,gQa]
  | succ j => simp at hj
 ·cases j with
  | zero =>
    simp only [gQz,Option.some.injEq] at hj hp
    subst hj hp
    exact hT
  | succ j => simp at hj
theorem jdD (N : Nat → Prop) (t : Ty) (us : List Value) (w : World) (h : TIn N w us t) :
  Calls Tryz.prog 70 #[.agg us.toArray] w fun e w' => ∃ a c,e = .returned (.slice a t.flat.length c) ∧ t.flat.length ≤ c ∧ t.flat.length ≤ 2000000 ∧ ElemsAt N w' t.flat a ∧ Up w w':=by
 cases t with
 | mk k n nm ps ns ms =>
 have HT:=Lib.hid h
 obtain ⟨pa,cap,nv,mv,rfl,hc,hl,he⟩:=h.parts
 have HE:=Lib.hid (And.intro hc (And.intro hl he))
 clear h hc hl he
 by_cases hk : k = 16
 ·have e : (Ty.mk k n nm ps ns ms).flat = ps:=by unfold Ty.flat;rw [if_pos (show (Ty.mk k n nm ps ns ms).kind = 16 from hk)];rfl
  rw [e]
  obtain ⟨lp,hlp⟩ : ∃ l,Hid (ps.length = l):=⟨_,rfl⟩
  rw [hlp.out]
  subst hk
  go_enter Tryz.func70,Tryz.ntmps70
  go_wp2_with fail
  go_ret
  exact ⟨pa,cap,rfl,by rw [← hlp.out];exact HE.out.1,by rw [← hlp.out];exact HE.out.2.1,HE.out.2.2.later uq,uq⟩
 ·have e : (Ty.mk k n nm ps ns ms).flat = [Ty.mk k n nm ps ns ms]:=by unfold Ty.flat;rw [if_neg (show ¬ (Ty.mk k n nm ps ns ms).kind = 16 from hk)]
  rw [e]
  have hk2 : (k == 16) = false:=by simp [hk]
  obtain ⟨lp,hlp⟩ : ∃ l,Hid (ps.length = l):=⟨_,rfl⟩
  rw [hlp.out]
  go_enter Tryz.func70,Tryz.ntmps70
  go_wp2_with fail
  go_ret
  rw [hlp.out] at HT
  exact ⟨_,_,rfl,Nat.le_refl _,by decide,jlx (b:=w.heap.size + 1) (jaa _ _ _ (by simp)) (HT.out.up uq),uq⟩
theorem jf8 (N : Nat → Prop) (l : List Ty) (k : Int) (a : Option Addr) (c : Nat) (w : World) (h : ElemsAt N w l a) (hc : l.length ≤ c) (hl : l.length ≤ 4000000000) :
  Calls Tryz.prog 110 #[.slice a l.length c, .int .i64 k] w fun e w' => e = .returned (.bool (l.any fun x => x.kind == k)) ∧ Up w w':=by
 have HE:=Lib.hid h
 obtain ⟨ll,hll⟩ : ∃ x,Hid (l.length = x):=⟨_,rfl⟩
 rw [hll.out] at hc hl ⊢
 clear h
 go_enter Tryz.func110,Tryz.ntmps110
 go_wp2_with fail
 go_loopw [5] (fun i wr => ∃ (j : Nat),j ≤ ll ∧ i = .int .i64 j ∧ Hid ((l.take j).any (fun x => x.kind == k) = false) ∧ w = wr) (fun i _ => ll - (intOf i).toNat)
 case atStart => exact ⟨0,Nat.zero_le _,rfl,by unfold Hid;simp,rfl⟩
 case round =>
  obtain ⟨j,hj,rfl,hX,rfl⟩:=hrel
  by_cases hlt : j < ll
  ·have hji : (j : Int) < ll:=by omega
   obtain ⟨x,hx⟩ : ∃ x,l[j]? = some x:=⟨_,List.getElem?_eq_getElem (by rw [hll.out];exact hlt)⟩
   obtain ⟨b,off,u1,u2,u3,u4,u5,rfl,c0,c1,c2,c3,c4,c5,hT⟩:=HE.out j x hx
   have hb:=jaj c0
   have HXK:=Lib.hid hx
   obtain ⟨xk,hxk⟩ : ∃ y,Hid (x.kind = y):=⟨_,rfl⟩
   rw [hxk.out] at c0
   clear hT c1 c2 c3 c4 c5 hx
   by_cases he : xk = k
   ·subst he
    go_wp2_with fail
    all_goals go_ret
    all_goals refine ⟨?_,Up.refl _⟩
    all_goals (rw [show (l.any fun x => x.kind == xk) = true from List.any_eq_true.2 ⟨x,List.mem_of_getElem? HXK.out,by rw [hxk.out];simp⟩];rfl)
   ·have he2 : (xk == k) = false:=by simp [he]
    go_wp2_with fail
    all_goals exact ⟨⟨j + 1,by omega,by simp,by unfold Hid;rw [List.take_add_one,HXK.out,Option.toList_some,List.any_append,hX.out];simp [hxk.out,he],by trivial⟩,by simp [intOf];omega⟩
  ·obtain rfl : j = ll:=by omega
   go_wp2_with fail
   all_goals go_ret
   all_goals exact ⟨by have:=hX.out;rw [← hll.out,List.take_length] at this;rw [this];rfl,Up.refl _⟩
def jcd (x : Ty) (l : List Ty) : Bool :=
 x.kind == 3 || (x.kind == 11 && l.any (fun y => y.kind == 7)) || (x.kind == 12 && l.any (fun y => y.kind == 8)) || (x.kind == 20 && l.any (fun y => y.kind == 19 && decide (dt y = dt (part x 0))))
theorem jlE (N N' : Nat → Prop) (t : Ty) (us : List Value) (l : List Ty) (a : Option Addr) (c : Nat) (w : World) (ht : TIn N' w us t) (h : ElemsAt N w l a) (hc : l.length ≤ c) (hl : l.length ≤ 4000000000) (h0 : t.kind = 20 → t.parts ≠ [] ∧ ∀ p ∈ t.parts,jbq p) (hd : ∀ x ∈ l,jbq x) :
  Calls Tryz.prog 111 #[.agg us.toArray, .slice a l.length c] w fun e w' => e = .returned (.bool (jcd t l)) ∧ Up w w':=by
 have HK7:=Lib.hid (fun k W (hW : Up w W) => jf8 N l k a c W (h.later hW) hc hl)
 have HE:=Lib.hid h
 have HT:=Lib.hid (And.intro ht (And.intro h0 hd))
 obtain ⟨u1,u2,u3,u4,u5,rfl⟩:=ht.six
 obtain ⟨ll,hll⟩ : ∃ x,Hid (l.length = x):=⟨_,rfl⟩
 rw [hll.out] at hc hl HK7 ⊢
 obtain ⟨k,hk⟩ : ∃ y,Hid (t.kind = y):=⟨_,rfl⟩
 rw [hk.out]
 clear h ht h0 hd
 by_cases k3 : k = 3
 ·have e : jcd t l = true:=by unfold jcd;rw [hk.out,k3];rfl
  rw [e]
  subst k3
  go_enter Tryz.func111,Tryz.ntmps111
  go_wp2_with fail
  go_ret
  exact ⟨rfl,uq⟩
 by_cases k11 : k = 11
 ·have e : jcd t l = l.any (fun y => y.kind == 7):=by unfold jcd;rw [hk.out,k11];simp
  rw [e]
  subst k11
  go_enter Tryz.func111,Tryz.ntmps111
  go_wp2_with (first | (go_at_call 110;refine (HK7.out 7 _ (show Up w _ from uq)).mono ?_;rintro e w2 ⟨rfl,hu2⟩))
  go_ret
  exact ⟨rfl,uq⟩
 by_cases k12 : k = 12
 ·have e : jcd t l = l.any (fun y => y.kind == 8):=by unfold jcd;rw [hk.out,k12];simp
  rw [e]
  subst k12
  go_enter Tryz.func111,Tryz.ntmps111
  go_wp2_with (first | (go_at_call 110;refine (HK7.out 8 _ (show Up w _ from uq)).mono ?_;rintro e w2 ⟨rfl,hu2⟩))
  go_ret
  exact ⟨rfl,uq⟩
 by_cases k20 : k = 20
 ·cases t with
  | mk kk n nm ps ns ms =>
  obtain rfl : kk = k:=hk.out
  subst k20
  obtain ⟨hp0,hpd⟩:=HT.out.2.1 rfl
  cases ps with
  | nil => exact absurd rfl hp0
  | cons p r =>
  obtain ⟨pa,cap,nv,mv,e,hpc,hpl,hpe⟩:=HT.out.1.parts
  simp only [List.cons.injEq,and_true,true_and] at e
  obtain ⟨_,rfl,rfl,rfl,q4,q5⟩:=e
  subst q4 q5
  have HPE:=Lib.hid hpe
  have HD:=Lib.hid (And.intro (hpd p (List.mem_cons_self)) HT.out.2.2)
  obtain ⟨lp,hlp⟩ : ∃ x,Hid ((p :: r).length = x):=⟨_,rfl⟩
  have hlp0 : 0 < lp:=by have:=hlp.out;simp at this;omega
  rw [hlp.out] at hpc ⊢
  rw [show jcd (.mk 20 n nm (p :: r) ns ms) l = l.any (fun y => y.kind == 19 && decide (dt y = dt p)) from rfl]
  clear HT hp0 hpd hpe hpl HK7
  go_enter Tryz.func111,Tryz.ntmps111
  go_upto_region 1 with (fail)
  refine ja4 fun A2 W2 hA2 hW2 => ?_
  have hu0 : Hid (Up w W2):=by subst hW2;exact uq
  obtain ⟨q,hq⟩ : ∃ q,Hid (w.heap.size = q):=⟨_,rfl⟩
  have HQ:=Lib.hid (show W2.heap[q]? = some (.cells #[.int .i64 20, .int .i64 n, .string nm, .slice pa lp cap,u4,u5] RefT (0,0)) by subst hW2;rw [← hq.out];exact jaa _ _ _ rfl)
  rw [hq.out] at hA2
  clear hW2
  subst hA2
  have s0:=HQ.out
  obtain ⟨q0,p0,q1,p1,q2,p2,q3,p3,q4,p4,q5,p5,q9⟩:=uc6 s0;clear s0
  go_wp2_with fail
  go_loopw [5] (fun i wr => ∃ (j : Nat),j ≤ ll ∧ i = .int .i64 j ∧ Hid ((l.take j).any (fun y => y.kind == 19 && decide (dt y = dt p)) = false) ∧ Up W2 wr) (fun i _ => ll - (intOf i).toNat)
  case atStart => exact ⟨0,Nat.zero_le _,rfl,by unfold Hid;simp,uq⟩
  case round =>
   obtain ⟨j,hj,rfl,hX,hup⟩:=hrel
   have hupw:=hu0.out.trans hup
   have HQr:=Lib.hid (hup.get HQ.out)
   have x3:=ja1 HQr.out 3
   have xl:=ja0 HQr.out
   simp only [gQa,gQz,gQs] at x3
   by_cases hlt : j < ll
   ·have hji : (j : Int) < ll:=by omega
    obtain ⟨x,hx⟩ : ∃ x,l[j]? = some x:=⟨_,List.getElem?_eq_getElem (by rw [hll.out];exact hlt)⟩
    obtain ⟨b,off,v1,v2,v3,v4,v5,rfl,c0,c1,c2,c3,c4,c5,hT⟩:=HE.out.later hupw j x hx
    have hb:=jaj c0
    have HXK:=Lib.hid hx
    obtain ⟨xk,hxk⟩ : ∃ y,Hid (x.kind = y):=⟨_,rfl⟩
    rw [hxk.out] at c0 hT
    by_cases he : xk = 19
    ·subst he
     obtain ⟨b2,off2,w1,w2',w3,w4,w5,rfl,d0,d1,d2,d3,d4,d5,hT2⟩:=HPE.out.later hupw 0 p rfl
     have hb2:=jaj d0
     simp only [Nat.zero_mul,Nat.add_zero] at d0 d1 d2 d3 d4 d5
     have HS:=Lib.hid (fun W (hW : Up wr W) => jlC x p (HD.out.2 x (List.mem_of_getElem? HXK.out)) HD.out.1 W.heap.size _ _ W (hT.up hW).tis (hT2.up hW).tis (Nat.le_refl _))
     have hin : Hid ((l.take (j + 1)).any (fun y => y.kind == 19 && decide (dt y = dt p)) = decide (dt x = dt p)):=by
      unfold Hid
      rw [List.take_add_one,HXK.out,Option.toList_some,List.any_append,hX.out]
      simp [hxk.out]
     have hin2 : Hid (dt x = dt p → l.any (fun y => y.kind == 19 && decide (dt y = dt p)) = true):=fun e => List.any_eq_true.2 ⟨x,List.mem_of_getElem? HXK.out,by simp [hxk.out,e]⟩
     clear hT hT2 hx
     by_cases hs : dt x = dt p
     ·have hin3:=Lib.hid (hin2.out hs)
      rw [decide_eq_true hs] at HS
      clear hs hin hin2
      go_wp2_with fail
      go_region_law (first | (go_simp;go_at_call 71;refine (HS.out _ (Up.drew (Up.refl _))).mono ?_;rintro e w3 ⟨rfl,hu3⟩))
      all_goals go_wp2_with fail
      all_goals go_ret
      all_goals exact ⟨by rw [hin3.out];rfl,hupw.trans (Up.trans (Up.drew (Up.refl _)) hu3)⟩
     ·rw [decide_eq_false hs] at HS hin
      clear hs hin2
      go_wp2_with fail
      go_region_law (first | (go_simp;go_at_call 71;refine (HS.out _ (Up.drew (Up.refl _))).mono ?_;rintro e w3 ⟨rfl,hu3⟩))
      all_goals go_wp2_with fail
      all_goals exact ⟨⟨j + 1,by omega,by simp,hin,hup.trans (Up.trans (Up.drew (Up.refl _)) hu3)⟩,by simp [intOf];omega⟩
    ·have he2 : (xk == 19) = false:=by simp [he]
     have hin : Hid ((l.take (j + 1)).any (fun y => y.kind == 19 && decide (dt y = dt p)) = false):=by
      unfold Hid
      rw [List.take_add_one,HXK.out,Option.toList_some,List.any_append,hX.out]
      simp [hxk.out,he]
     clear hT hx c1 c2 c3 c4 c5
     go_wp2_with fail
     go_quiet (fail)
     all_goals go_wp2_with fail
     all_goals exact ⟨⟨j + 1,by omega,by simp,hin,hup.trans uq⟩,by simp [intOf];omega⟩
   ·obtain rfl : j = ll:=by omega
    go_wp2_with fail
    all_goals go_ret
    all_goals exact ⟨by have:=hX.out;rw [← hll.out,List.take_length] at this;rw [this];rfl,hupw⟩
 ·have e : jcd t l = false:=by unfold jcd;rw [hk.out];simp [k3,k11,k12,k20]
  rw [e]
  have q3 : (k == 3) = false:=by simp [k3]
  have q11 : (k == 11) = false:=by simp [k11]
  have q12 : (k == 12) = false:=by simp [k12]
  have q20 : (k == 20) = false:=by simp [k20]
  go_enter Tryz.func111,Tryz.ntmps111
  go_wp2_with fail
  go_ret
  exact ⟨rfl,uq⟩
def jbh (t : Ty) : ByteArray:=jaK t.kind (dt t)
def insD (x : Ty) : List Ty → List Ty
 | [] => [x]
 | y :: r => if ltS (jbh y) (jbh x) = true then y :: insD x r else if jbh y = jbh x then y :: r else x :: y :: r
def jfs (l : List Ty) (x : Ty) : Bool := !jcd x l
def outD (l m : List Ty) : List Ty:=(m.filter (jfs l)).foldl (fun o x => insD x o) []
def jlV : List Ty → Ty
 | [] => ja3 3
 | [x] => x
 | l => .mk 16 0 ⟨#[]⟩ l [] []
def jbi (given : List Ty) : Ty :=
 if (given.flatMap Ty.flat).any (fun x => x.kind == 1) = true then ja3 1
 else if (given.flatMap Ty.flat).any (fun x => x.kind == 2) = true then ja3 2
 else jlV (outD (given.flatMap Ty.flat) (given.flatMap Ty.flat))
theorem jhe (l m : List Ty) (x : Ty) : outD l (m ++ [x]) = if jcd x l = true then outD l m else insD x (outD l m):=by
 unfold outD jfs
 rw [List.filter_append,List.foldl_append]
 cases h : jcd x l <;> simp [h]
theorem jgt (x : Ty) : ∀ (out : List Ty) (k : Nat),k ≤ out.length → (∀ (j : Nat) (y : Ty),j < k → out[j]? = some y → ltS (jbh y) (jbh x) = true) → (∀ y,out[k]? = some y → ltS (jbh y) (jbh x) = false) →
  insD x out = if (∃ y,out[k]? = some y ∧ jbh y = jbh x) then out else out.take k ++ x :: out.drop k
 | [],k,hk,_,_ => by
   obtain rfl : k = 0:=by simpa using hk
   rw [if_neg (by simp)]
   rfl
 | y :: r,0,_,_,h2 => by
   have:=h2 y rfl
   unfold insD
   rw [this,if_neg (by simp)]
   by_cases e : jbh y = jbh x
   ·rw [if_pos e,if_pos ⟨y,rfl,e⟩]
   ·rw [if_neg e,if_neg (by rintro ⟨z,hz,hz2⟩;simp only [gQz,Option.some.injEq] at hz;subst hz;exact e hz2)]
    rfl
 | y :: r,k + 1,hk,h1,h2 => by
   have h0:=h1 0 y (by omega) rfl
   have ih:=jgt x r k (by simpa using hk) (fun j z hj hz => h1 (j + 1) z (by omega) (by simpa using hz)) (fun z hz => h2 z (by simpa using hz))
   unfold insD
   rw [if_pos h0,ih]
   simp only [gQs]
   split
   ·rfl
   ·rfl
theorem jj3 (x : Ty) : ∀ out : List Ty,(insD x out).length ≤ out.length + 1
 | [] => by simp [insD]
 | y :: r => by
   have:=jj3 x r
   unfold insD
   split
   ·simp;omega
   ·split
    ·simp
    ·simp
theorem jgm (l : List Ty) : ∀ m : List Ty,(outD l m).length ≤ m.length:=by
 intro m
 rcases List.eq_nil_or_concat m with rfl | ⟨r,x,rfl⟩
 ·simp [outD]
 ·rw [List.concat_eq_append,jhe]
  have:=jgm l r
  have h2:=jj3 x (outD l r)
  split
  ·simp;omega
  ·simp;omega
termination_by m => m.length
decreasing_by subst_vars;simp
theorem jgs (x : Ty) : ∀ (out : List Ty) (z : Ty),z ∈ insD x out → z = x ∨ z ∈ out
 | [],z,h => by simp [insD] at h;exact .inl h
 | y :: r,z,h => by
   unfold insD at h
   split at h
   ·rcases List.mem_cons.1 h with e | e
    ·exact .inr (by simp [e])
    ·rcases jgs x r z e with q | q
     ·exact .inl q
     ·exact .inr (by simp [q])
   ·split at h
    ·exact .inr h
    ·rcases List.mem_cons.1 h with e | e
     ·exact .inl e
     ·exact .inr e
theorem jhy : ∀ (m out : List Ty) (z : Ty),z ∈ m.foldl (fun o x => insD x o) out → z ∈ m ∨ z ∈ out
 | [],out,z,h => .inr h
 | x :: r,out,z,h => by
   rcases jhy r (insD x out) z h with q | q
   ·exact .inl (by simp [q])
   ·rcases jgs x out z q with e | e
    ·exact .inl (by simp [e])
    ·exact .inr e
theorem jgl {l m : List Ty} {z : Ty} (h : z ∈ outD l m) : z ∈ m ∧ jcd z l = false:=by
 rcases jhy _ _ z h with q | q
 ·obtain ⟨q1,q2⟩:=List.mem_filter.1 q
  exact ⟨q1,by unfold jfs at q2;simpa using q2⟩
 ·cases q
theorem jgg : (Tryz.prog.info? RefT).map (fun i => (i.zero,i.size,i.bytes)) = some (some (.agg #[.int .i64 0, .int .i64 0, .string ⟨#[]⟩, .slice none 0 0, .slice none 0 0, .slice none 0 0]),6,104):=by kernel_rfl
theorem jnL (xs : List Value) (k : Nat) (u0 u1 u2 u3 u4 u5 : Value) (j : Nat) : ((((((xs.set k u0).set (k + 1) u1).set (k + 2) u2).set (k + 3) u3).set (k + 4) u4).set (k + 5) u5)[j]? = if k ≤ j ∧ j < k + 6 ∧ j < xs.length then [u0,u1,u2,u3,u4,u5][j - k]? else xs[j]? := by
 simp only [List.getElem?_set,List.length_set]
 by_cases h : k ≤ j ∧ j < k + 6 ∧ j < xs.length
 ·rw [if_pos h]
  obtain ⟨h1,h2,h3⟩:=h
  have : j = k ∨ j = k + 1 ∨ j = k + 2 ∨ j = k + 3 ∨ j = k + 4 ∨ j = k + 5:=by omega
  rcases this with rfl | rfl | rfl | rfl | rfl | rfl
  all_goals (simp [h3,Nat.add_sub_cancel_left])
 ·rw [if_neg h]
  by_cases hl : j < xs.length
  ·repeat rw [if_neg (by omega)]
  ·rw [List.getElem?_eq_none (by omega)]
   repeat' split
   all_goals first | rfl | omega
theorem jik : ∀ (uss : List (List Value)) (j : Nat) (u0 u1 u2 u3 u4 u5 : Value),(∀ u ∈ uss,u.length = 6) → j < uss.length →
  ((((((uss.flatten.set (j * 6) u0).set (j * 6 + 1) u1).set (j * 6 + 2) u2).set (j * 6 + 3) u3).set (j * 6 + 4) u4).set (j * 6 + 5) u5) = (uss.set j [u0,u1,u2,u3,u4,u5]).flatten:=by
 intro uss j u0 u1 u2 u3 u4 u5 h6 hj
 have h6' : ∀ u ∈ uss.set j [u0,u1,u2,u3,u4,u5],u.length = 6:=fun u hu => by
  rcases List.mem_or_eq_of_mem_set hu with q | q
  ·exact h6 u q
  ·rw [q];rfl
 have hlen:=jce uss h6
 have hlen':=jce _ h6'
 rw [List.length_set] at hlen'
 apply List.ext_getElem?
 intro k
 rw [jnL]
 rcases Nat.lt_or_ge k (uss.length * 6) with hk | hk
 ·have hm:=Nat.div_add_mod k 6
  have hm6:=Nat.mod_lt k (show 0 < 6 by decide)
  have hdl : k / 6 < uss.length:=by omega
  have ek : k = (k / 6) * 6 + k % 6:=by omega
  by_cases hjk : k / 6 = j
  ·rw [if_pos (by omega)]
   have hs:=jcf (uss.set j [u0,u1,u2,u3,u4,u5]) (k / 6) [u0,u1,u2,u3,u4,u5] h6' (by rw [List.getElem?_set,if_pos hjk.symm,if_pos (by omega)]) (k % 6) hm6
   rw [← ek] at hs
   rw [hs]
   congr 1
   omega
  ·rw [if_neg (by omega)]
   obtain ⟨u,hu⟩ : ∃ u,uss[k / 6]? = some u:=⟨_,List.getElem?_eq_getElem hdl⟩
   have hs:=jcf (uss.set j [u0,u1,u2,u3,u4,u5]) (k / 6) u h6' (by rw [List.getElem?_set,if_neg (fun e => hjk e.symm)];exact hu) (k % 6) hm6
   have hs2:=jcf uss (k / 6) u h6 hu (k % 6) hm6
   rw [← ek] at hs hs2
   rw [hs,hs2]
 ·rw [if_neg (by omega),List.getElem?_eq_none (by omega),List.getElem?_eq_none (by omega)]
def jbc (w : World) (g k : Nat) (u0 u1 u2 u3 u4 u5 : Value) : World:=(((((w.setCell ⟨g,k,none⟩ u0).setCell ⟨g,k + 1,none⟩ u1).setCell ⟨g,k + 2,none⟩ u2).setCell ⟨g,k + 3,none⟩ u3).setCell ⟨g,k + 4,none⟩ u4).setCell ⟨g,k + 5,none⟩ u5
theorem jcq {a w : World} (h : Up a w) {g : Nat} (hg : a.heap.size ≤ g) (k : Nat) (u0 u1 u2 u3 u4 u5 : Value) : Up a (jbc w g k u0 u1 u2 u3 u4 u5):=by
 unfold jbc
 exact (((((h.setCell hg _).setCell hg _).setCell hg _).setCell hg _).setCell hg _).setCell hg _
theorem jcr {w : World} {g x : Nat} (h : x ≠ g) (k : Nat) (u0 u1 u2 u3 u4 u5 : Value) : (jbc w g k u0 u1 u2 u3 u4 u5).heap[x]? = w.heap[x]? := by
 unfold jbc
 rw [ja2 h,ja2 h,ja2 h,ja2 h,ja2 h,ja2 h]
theorem RowU.store {N : Nat → Prop} {lo : Nat} {w : World} {g n cap : Nat} {ts : List Ty} {uss : List (List Value)} (h : RowU N lo w (.slice (some ⟨g,0,none⟩) n cap) ts uss) (hlo : ∀ x,N x → x < w.heap.size → x < lo) {j : Nat} (hj : j < ts.length) {u0 u1 u2 u3 u4 u5 : Value} {t : Ty} (ht : TIn N w [u0,u1,u2,u3,u4,u5] t) :
  RowU N lo (jbc w g (j * 6) u0 u1 u2 u3 u4 u5) (.slice (some ⟨g,0,none⟩) n cap) (ts.set j t) (uss.set j [u0,u1,u2,u3,u4,u5]):=by
 obtain ⟨h1,h2,h3,h4,h5⟩:=h
 have hgl:=h5 g rfl
 have hk : ∀ {u : List Value} {t : Ty},TIn N w u t → TIn N (jbc w g (j * 6) u0 u1 u2 u3 u4 u5) u t:=fun hT => hT.keep fun x o hx ho => ⟨hx,(jcr (fun e => by have:=hlo x hx (Array.getElem?_eq_some_iff.1 ho).1;omega) _ _ _ _ _ _ _).trans ho⟩
 have hn : n = ts.length:=by
  rcases h4.2 with ⟨e,_⟩ | ⟨g',c',cur,e,_⟩
  ·cases e
  ·injection e
 subst hn
 refine ⟨by simp [h1],fun u hu => ?_,fun i u x hu hx => ?_,?_,h5⟩
 ·rcases List.mem_or_eq_of_mem_set hu with q | q
  ·exact h2 u q
  ·rw [q];rfl
 ·rw [List.getElem?_set] at hu hx
  by_cases e : j = i
  ·rw [if_pos e] at hu hx
   rw [if_pos (by omega)] at hu
   rw [if_pos hj] at hx
   cases hu
   cases hx
   exact hk ht
  ·rw [if_neg e] at hu hx
   exact hk (h3 i u x hu hx)
 ·rw [← jik uss j u0 u1 u2 u3 u4 u5 h2 (by omega),List.length_set]
  unfold jbc
  exact ((((((h4.stored _ u0).1.stored _ u1).1.stored _ u2).1.stored _ u3).1.stored _ u4).1.stored _ u5).1
end Go.Proofs.YtiaepldmgighbaaGreatDoor
