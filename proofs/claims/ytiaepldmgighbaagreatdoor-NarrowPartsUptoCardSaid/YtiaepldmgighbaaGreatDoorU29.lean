import Derived.Lib.SmallJoins
import Derived.Test.YtiaepldmgighbaaGreatDoorU23
namespace Go.Proofs.YtiaepldmgighbaaGreatDoor
open Go.RowKit
set_option linter.unusedSimpArgs false
theorem jm3 : (Tryz.prog.globalNamed "internal/strconv.uint64pow10").isSome = true:=by kernel_rfl
theorem Tab.up {w w' : World} (h : Tab w) (hu : Up w w') : Tab w':=by
 obtain ⟨g,hg⟩:=Option.isSome_iff_exists.1 jm3
 exact Joins.tab_stays hg h hu (Nat.le_refl _)
theorem Up.grow (w : World) (k : Nat) (os : Array Obj) : Up w (Go.Sort.grow (w.drewN k) os) :=
 ⟨rfl,rfl,rfl,by simp [Go.Sort.grow,World.drewN],fun b hb => by
  show (w.heap ++ os)[b]? = _
  rw [Array.getElem?_append_left hb]⟩
theorem jep (n : Int) (w : World) (h0 : -9223372036854775808 ≤ n) (h1 : n ≤ 9223372036854775807) (ht : Tab w) : Calls Tryz.prog 148 #[.int .i64 n] w fun e w' => e = .returned (.string (numS n)) ∧ Up w w' :=
 (Tryz.strconv_Itoa n h0 h1 w ht).mono fun _ w' ⟨he,k,os,hw⟩ => ⟨he,by subst hw;exact Up.grow w k os⟩
structure MemoOf (B : Nat) (w : World) where
 W : World
 memo : Memo jag B w W
instance (B : Nat) (w : World) : Nonempty (MemoOf B w):=⟨⟨w,Memo.refl _ _ _⟩⟩
theorem jbt {P : Program} {id : Nat} {Q : Exit → Act → World → Prop} {a : Act} {w : World} {l : List Oper} (B : Nat) (hm : P.follows .mixedOrders = true) (hB : Region.lexB .any l.toArray = true)
  (h : wpQuiet P l.toArray (fun w' => ∃ i : MemoOf B w,w' = i.W) (fun a' => ∀ w',(∃ i : MemoOf B w,w' = i.W) → Q .normal a' w') l a) : (Code.region id l.toArray true).wp P Q a w :=
 wp_region_quiet (C:=fun w' => ∃ i : MemoOf B w,w' = i.W) hm hB ⟨⟨_,Memo.of_up _ _ (Up.refl w).drew⟩,rfl⟩ (by simpa using h)
theorem Calls.memo_of {P : Program} {f : FuncId} {args : Array Value} {B : Nat} {w : World} (i : MemoOf B w) {v : Value} (h : Calls P f args i.W fun e w' => e = .returned v ∧ Memo jag B i.W w') : Calls P f args i.W fun e w'' => e = .returned v ∧ ∃ j : MemoOf B w,w'' = j.W :=
 h.mono fun _ w' ⟨he,hu⟩ => ⟨he,⟨w',i.memo.trans hu⟩,rfl⟩
def jdG : Prop := ∀ (s : ByteArray) (w : World),s.size ≤ 1000000000 → Bru w → Calls Tryz.prog 149 #[.string s] w fun e w' => e = .returned (.string (jbJ s)) ∧ Up w w'
set_option maxRecDepth 100000
set_option maxHeartbeats 1600000
theorem jcy (b : Nat) (n : Int) (nm : ByteArray) (w : World) (a1 : w.cell? ⟨b,1,none⟩ = some (.int .i64 n)) (a2 : w.cell? ⟨b,2,none⟩ = some (.string nm)) (h0 : -9223372036854775808 ≤ n) (h1 : n ≤ 9223372036854775807) (hs : nm.size ≤ 1000000000) (ht : Tab w) :
  Calls Tryz.prog 152 #[.pointer (some ⟨b,0,none⟩)] w fun e w' => e = .returned (.string (jbn nm n)) ∧ Up w w':=by
 have hl:=jcX a1
 have hz:=jbx n h0 h1
 have hsi : (nm.size : Int) ≤ 1000000000:=by omega
 have T:=Lib.hid ht
 have hq : Hid (-9223372036854775808 ≤ n ∧ n ≤ 9223372036854775807):=⟨h0,h1⟩
 obtain ⟨x,hx⟩ : ∃ x,Hid (numS n = x):=⟨_,rfl⟩
 have hxs : (x.size : Int) ≤ 24:=by rw [← hx.out];omega
 unfold jbn
 rw [hx.out]
 clear ht h0 h1 hz
 go_enter Tryz.func152,Tryz.ntmps152
 go_wp2_with fail
 have r1 : ∀ i : UpOf w,i.W.cell? ⟨b,1,none⟩ = some (.int .i64 n):=fun i => (i.up.cells _ _ hl).trans a1
 have r2 : ∀ i : UpOf w,i.W.cell? ⟨b,2,none⟩ = some (.string nm):=fun i => (i.up.cells _ _ hl).trans a2
 have hc : ∀ i : UpOf w,Calls Tryz.prog 148 #[.int .i64 n] i.W fun e w' => e = .returned (.string x) ∧ Up i.W w':=fun i => by
  rw [← hx.out]
  exact jep n i.W hq.out.1 hq.out.2 (T.out.up i.up)
 have HCC:=Lib.hid hc
 clear hc
 refine jck (by kernel_rfl) (by kernel_rfl) ?_
 repeat (go_big_quiet_step ((go_at_call 148;rename_i i;exact Calls.up_of i (HCC.out i))))
 refine wpQuiet_nil ?_
 intro _ hw'
 obtain ⟨⟨w2,hu2⟩,hw''⟩:=hw'
 subst hw''
 clear r1 r2
 go_wp2_with fail
 go_ret
 exact ⟨rfl,hu2⟩
theorem jjB (n : Int) (nm : ByteArray) (ps : List Ty) (ns : List ByteArray) (ms : List Bool) (h0 : -9223372036854775808 ≤ n) (h1 : n ≤ 9223372036854775807) : jaO (.mk 11 n nm ps ns ms):=by
 intro N B b W ht hg
 have e : (Ty.mk 11 n nm ps ns ms).text = numS n:=by rw [Ty.text_mk];simp [jap]
 rw [e]
 have T:=Lib.hid hg.now.1
 have hq : Hid (-9223372036854775808 ≤ n ∧ n ≤ 9223372036854775807):=⟨h0,h1⟩
 cases ht with
 | @mk _ _ _ _ _ _ _ said pv nv mv qs hB hh hs hp hn hm hl hq' =>
   have a0:=ja1 hh 0
   have a1:=ja1 hh 1
   have al:=ja0 hh
   simp only [gQa,gQz,gQs] at a0 a1
   obtain ⟨x,hx⟩ : ∃ x,Hid (numS n = x):=⟨_,rfl⟩
   rw [hx.out]
   clear hh hs hp hn hm hl hq' hg e h0 h1
   go_enter Tryz.func101,Tryz.ntmps101
   go_wp2_with (first | (go_at_call 148;refine (jep n _ hq.out.1 hq.out.2 (T.out.up uq)).mono ?_;rintro e w2 ⟨rfl,hu2⟩;rw [hx.out]))
   go_ret
   exact ⟨rfl,Memo.of_up _ _ uq⟩
theorem jjA (hQ : jdG) (n : Int) (nm : ByteArray) (ps : List Ty) (ns : List ByteArray) (ms : List Bool) (hs0 : nm.size ≤ 1000000000) : jaO (.mk 12 n nm ps ns ms):=by
 intro N B b W ht hg
 have e : (Ty.mk 12 n nm ps ns ms).text = jbJ nm:=by rw [Ty.text_mk];simp [jap]
 rw [e]
 have T:=Lib.hid hg
 have Q:=Lib.hid (And.intro hQ hs0)
 cases ht with
 | @mk _ _ _ _ _ _ _ said pv nv mv qs hB hh hs hp hn hm hl hq' =>
   have a0:=ja1 hh 0
   have a2:=ja1 hh 2
   have al:=ja0 hh
   simp only [gQa,gQz,gQs] at a0 a2
   obtain ⟨x,hx⟩ : ∃ x,Hid (jbJ nm = x):=⟨_,rfl⟩
   rw [hx.out]
   clear hh hs hp hn hm hl hq' hg e hQ hs0
   go_enter Tryz.func101,Tryz.ntmps101
   go_wp2_with (first | (go_at_call 149;refine (Q.out.1 nm _ Q.out.2 (T.out.up uq).now.2).mono ?_;rintro e w2 ⟨rfl,hu2⟩;rw [hx.out]))
   go_ret
   exact ⟨rfl,Memo.of_up _ _ uq⟩
theorem jju (n : Int) (nm : ByteArray) (ps : List Ty) (ns : List ByteArray) (ms : List Bool) (h0 : -9223372036854775808 ≤ n) (h1 : n ≤ 9223372036854775807) (hs0 : nm.size ≤ 1000000000) : jaO (.mk 18 n nm ps ns ms):=by
 intro N B b W ht hg
 have e : (Ty.mk 18 n nm ps ns ms).text = nm ++ ⟨#[39]⟩ ++ numS n:=by rw [Ty.text_mk];simp [jap]
 rw [e]
 have T:=Lib.hid hg.now.1
 have hz:=jbx n h0 h1
 have hsi : (nm.size : Int) ≤ 1000000000:=by omega
 have hq : Hid (-9223372036854775808 ≤ n ∧ n ≤ 9223372036854775807):=⟨h0,h1⟩
 cases ht with
 | @mk _ _ _ _ _ _ _ said pv nv mv qs hB hh hs hp hn hm hl hq' =>
   have a0:=ja1 hh 0
   have a1:=ja1 hh 1
   have a2:=ja1 hh 2
   have al:=ja0 hh
   simp only [gQa,gQz,gQs] at a0 a1 a2
   obtain ⟨x,hx⟩ : ∃ x,Hid (numS n = x):=⟨_,rfl⟩
   have hxs : (x.size : Int) ≤ 24:=by rw [← hx.out];omega
   rw [hx.out]
   clear hh hs hp hn hm hl hq' hg e h0 h1 hs0 hz
   go_enter Tryz.func101,Tryz.ntmps101
   go_wp2_with fail
   have r1 : ∀ i : UpOf W,i.W.cell? ⟨b,1,none⟩ = some (.int .i64 n):=fun i => (i.up.cells _ _ al).trans a1
   have r2 : ∀ i : UpOf W,i.W.cell? ⟨b,2,none⟩ = some (.string nm):=fun i => (i.up.cells _ _ al).trans a2
   have hc : ∀ i : UpOf W,Calls Tryz.prog 148 #[.int .i64 n] i.W fun e w' => e = .returned (.string x) ∧ Up i.W w':=fun i => by
    rw [← hx.out]
    exact jep n i.W hq.out.1 hq.out.2 (T.out.up i.up)
   have HCC:=Lib.hid hc
   clear hc
   refine jck (by kernel_rfl) (by kernel_rfl) ?_
   repeat (go_big_quiet_step ((go_at_call 148;rename_i i;exact Calls.up_of i (HCC.out i))))
   refine wpQuiet_nil ?_
   intro _ hw'
   obtain ⟨⟨w2,hu2⟩,hw''⟩:=hw'
   subst hw''
   clear r1 r2
   go_wp2_with fail
   go_ret
   exact ⟨rfl,Memo.of_up _ _ hu2⟩
theorem jfF (n : Int) (nm : ByteArray) (ps : List Ty) (ns : List ByteArray) (ms : List Bool) (h0 : -9223372036854775808 ≤ n) (h1 : n ≤ 9223372036854775807) (hs0 : nm.size ≤ 1000000000) : jaO (.mk 19 n nm ps ns ms):=by
 intro N B b W ht hg
 have e : (Ty.mk 19 n nm ps ns ms).text = nm ++ ⟨#[64]⟩ ++ numS n:=by rw [Ty.text_mk];simp [jap]
 rw [e]
 have T:=Lib.hid hg.now.1
 have hz:=jbx n h0 h1
 have hsi : (nm.size : Int) ≤ 1000000000:=by omega
 have hq : Hid (-9223372036854775808 ≤ n ∧ n ≤ 9223372036854775807):=⟨h0,h1⟩
 cases ht with
 | @mk _ _ _ _ _ _ _ said pv nv mv qs hB hh hs hp hn hm hl hq' =>
   have a0:=ja1 hh 0
   have a1:=ja1 hh 1
   have a2:=ja1 hh 2
   have al:=ja0 hh
   simp only [gQa,gQz,gQs] at a0 a1 a2
   obtain ⟨x,hx⟩ : ∃ x,Hid (numS n = x):=⟨_,rfl⟩
   have hxs : (x.size : Int) ≤ 24:=by rw [← hx.out];omega
   rw [hx.out]
   clear hh hs hp hn hm hl hq' hg e h0 h1 hs0 hz
   go_enter Tryz.func101,Tryz.ntmps101
   go_wp2_with fail
   have r1 : ∀ i : UpOf W,i.W.cell? ⟨b,1,none⟩ = some (.int .i64 n):=fun i => (i.up.cells _ _ al).trans a1
   have r2 : ∀ i : UpOf W,i.W.cell? ⟨b,2,none⟩ = some (.string nm):=fun i => (i.up.cells _ _ al).trans a2
   have hc : ∀ i : UpOf W,Calls Tryz.prog 148 #[.int .i64 n] i.W fun e w' => e = .returned (.string x) ∧ Up i.W w':=fun i => by
    rw [← hx.out]
    exact jep n i.W hq.out.1 hq.out.2 (T.out.up i.up)
   have HCC:=Lib.hid hc
   clear hc
   refine jck (by kernel_rfl) (by kernel_rfl) ?_
   repeat (go_big_quiet_step ((go_at_call 148;rename_i i;exact Calls.up_of i (HCC.out i))))
   refine wpQuiet_nil ?_
   intro _ hw'
   obtain ⟨⟨w2,hu2⟩,hw''⟩:=hw'
   subst hw''
   clear r1 r2
   go_wp2_with fail
   go_ret
   exact ⟨rfl,Memo.of_up _ _ hu2⟩
set_option maxHeartbeats 3200000
theorem jca (k n : Int) (nm : ByteArray) (ps : List Ty) (ns : List ByteArray) (ms : List Bool) (hk : k = 21 ∨ k = 22 ∨ k = 23) (h0 : -9223372036854775808 ≤ n) (h1 : n ≤ 9223372036854775807) (hs0 : nm.size ≤ 1000000000) : jaO (.mk k n nm ps ns ms):=by
 intro N B b W ht hg
 have T:=Lib.hid hg.now.1
 have hz:=jbx n h0 h1
 have hz2 : (jbn nm n).size = nm.size + 1 + (numS n).size:=by
  unfold jbn
  simp only [ByteArray.size_append]
  rfl
 have hq : Hid (-9223372036854775808 ≤ n ∧ n ≤ 9223372036854775807 ∧ nm.size ≤ 1000000000):=⟨h0,h1,hs0⟩
 obtain ⟨x,hx⟩ : ∃ x,Hid (jbn nm n = x):=⟨_,rfl⟩
 have hxs : (x.size : Int) ≤ 1000000100:=by rw [← hx.out];omega
 cases ht with
 | @mk _ _ _ _ _ _ _ said pv nv mv qs hB hh hs hp hn hm hl hq' =>
   have a0:=ja1 hh 0
   have a1:=ja1 hh 1
   have a2:=ja1 hh 2
   have al:=ja0 hh
   simp only [gQa,gQz,gQs] at a0 a1 a2
   rw [Ty.text_mk]
   clear hh hs hp hn hm hl hq' hg h0 h1 hs0 hz hz2
   rcases hk with rfl | rfl | rfl
   all_goals
    first
    | rw [show jap 21 n nm (ps.map fun p => (p.kind,p.text)) ns ms = ⟨#[99,108,97,115,115,32]⟩ ++ jbn nm n by simp [jap]]
    | rw [show jap 22 n nm (ps.map fun p => (p.kind,p.text)) ns ms = ⟨#[101,110,117,109,32]⟩ ++ jbn nm n by simp [jap]]
    | rw [show jap 23 n nm (ps.map fun p => (p.kind,p.text)) ns ms = ⟨#[110,97,109,101,115,112,97,99,101,32]⟩ ++ jbn nm n by simp [jap]]
    rw [hx.out]
    go_enter Tryz.func101,Tryz.ntmps101
    go_wp2_with (first | (go_at_call 152;refine (jcy b n nm _ ((Up.cells (w:=W) uq _ _ al).trans a1) ((Up.cells (w:=W) uq _ _ al).trans a2) hq.out.1 hq.out.2.1 hq.out.2.2 (T.out.up uq)).mono ?_;rintro e w2 ⟨rfl,hu2⟩;rw [hx.out]))
    go_ret
    exact ⟨rfl,Memo.of_up _ _ uq⟩
theorem jgU (k n : Int) (nm : ByteArray) (ps : List Ty) (ns : List ByteArray) (ms : List Bool) (h1 : 1 ≤ k) (h2 : k ≤ 10) : jaO (.mk k n nm ps ns ms):=by
 intro N B b W ht hg
 have e : (Ty.mk k n nm ps ns ms).text = jaw k:=by
  rw [Ty.text_mk]
  unfold jap
  iterate 13 rw [if_neg (by omega)]
 rw [e]
 have HK:=Lib.hid (And.intro h1 h2)
 have e11 : (k == 11) = false:=by simp;omega
 have e12 : (k == 12) = false:=by simp;omega
 have e13 : (k == 13) = false:=by simp;omega
 have e14 : (k == 14) = false:=by simp;omega
 have e15 : (k == 15) = false:=by simp;omega
 have e16 : (k == 16) = false:=by simp;omega
 have e17 : (k == 17) = false:=by simp;omega
 have e18 : (k == 18) = false:=by simp;omega
 have e19 : (k == 19) = false:=by simp;omega
 have e20 : (k == 20) = false:=by simp;omega
 have e21 : (k == 21) = false:=by simp;omega
 have e22 : (k == 22) = false:=by simp;omega
 have e23 : (k == 23) = false:=by simp;omega
 cases ht with
 | @mk _ _ _ _ _ _ _ said pv nv mv qs hB hh hs hp hn hm hl hq' =>
   have a0:=ja1 hh 0
   have al:=ja0 hh
   simp only [gQa,gQz,gQs] at a0
   clear hh hs hp hn hm hl hq' hg e h1 h2
   go_enter Tryz.func101,Tryz.ntmps101
   go_wp2_with (first | (go_at_call 154;refine (jiz k HK.out.1 HK.out.2 _).mono ?_;rintro e w2 ⟨rfl,hu2⟩))
   go_ret
   exact ⟨rfl,Memo.of_up _ _ uq⟩
theorem TyAt.up {N : Nat → Prop} {B : Nat} {w w' : World} {b : Nat} {t : Ty} (h : TyAt N B w b t) (k : Up w w') : TyAt N B w' b t:=h.keep (fun _ _ _ _ _ _ q => k.get q) (fun _ _ _ _ _ _ _ _ _ said _ q => ⟨said,k.get q, .inl rfl⟩)
theorem TyAt.memo {N : Nat → Prop} {B : Nat} {w w' : World} {b : Nat} {t : Ty} (h : TyAt N B w b t) (k : Memo jag B w w') : TyAt N B w' b t:=k.ty N b t (fun _ _ e => e) h
theorem RowOf.memo {T : TypeId} {N : Nat → Prop} {B : Nat} {w w' : World} {v : Value} {us : List Value} (h : RowOf T N w v us) (hT : T ≠ TyT) (k : Memo jag B w w') : RowOf T N w' v us:=h.keep fun _ _ _ q1 q2 => ⟨q1,k.cells q2 hT (fun e => e)⟩
structure View (N : Nat → Prop) (B : Nat) (w : World) (b : Nat) (k n : Int) (nm : ByteArray) (ps : List Ty) (ns : List ByteArray) (ms : List Bool) (pv nv mv : Value) (qs : List Nat) : Prop where
 blk : ∃ (cs : Array Value) (f : Nat × Nat),w.heap[b]? = some (.cells cs TyT f)
 c0 : w.cell? ⟨b,0,none⟩ = some (.int .i64 k)
 c1 : w.cell? ⟨b,1,none⟩ = some (.int .i64 n)
 c2 : w.cell? ⟨b,2,none⟩ = some (.string nm)
 c3 : w.cell? ⟨b,3,none⟩ = some pv
 c4 : w.cell? ⟨b,4,none⟩ = some nv
 c5 : w.cell? ⟨b,5,none⟩ = some mv
 hp : RowOf TpT N w pv (qs.map ptrV)
 hn : RowOf StrT N w nv (ns.map .string)
 hm : RowOf BooT N w mv (ms.map .bool)
 hl : qs.length = ps.length
 hq : ∀ (j q : Nat) (p : Ty),qs[j]? = some q → ps[j]? = some p → TyAt N B w q p
theorem TyAt.view {N : Nat → Prop} {B : Nat} {w : World} {b : Nat} {k n : Int} {nm : ByteArray} {ps : List Ty} {ns : List ByteArray} {ms : List Bool} (h : TyAt N B w b (.mk k n nm ps ns ms)) : ∃ pv nv mv qs,View N B w b k n nm ps ns ms pv nv mv qs:=by
 cases h with
 | mk said pv nv mv qs hB hh hs hp hn hm hl hq => exact ⟨pv,nv,mv,qs,⟨_,_,hh⟩,ja1 hh 0,ja1 hh 1,ja1 hh 2,ja1 hh 3,ja1 hh 4,ja1 hh 5,hp,hn,hm,hl,hq⟩
theorem View.memo {N : Nat → Prop} {B : Nat} {w w' : World} {b : Nat} {k n : Int} {nm : ByteArray} {ps : List Ty} {ns : List ByteArray} {ms : List Bool} {pv nv mv : Value} {qs : List Nat} (h : View N B w b k n nm ps ns ms pv nv mv qs) (m : Memo jag B w w') : View N B w' b k n nm ps ns ms pv nv mv qs:=by
 obtain ⟨cs,f,hb⟩:=h.blk
 obtain ⟨cs',h1,_⟩:=m.fld b cs f hb
 exact ⟨⟨cs',f,h1⟩,(m.cell hb (by decide)).trans h.c0,(m.cell hb (by decide)).trans h.c1,(m.cell hb (by decide)).trans h.c2,(m.cell hb (by decide)).trans h.c3,(m.cell hb (by decide)).trans h.c4,(m.cell hb (by decide)).trans h.c5,h.hp.memo (by decide) m,h.hn.memo (by decide) m,h.hm.memo (by decide) m,h.hl,fun j q p h1 h2 => (h.hq j q p h1 h2).memo m⟩
theorem View.lt {N : Nat → Prop} {B : Nat} {w : World} {b : Nat} {k n : Int} {nm : ByteArray} {ps : List Ty} {ns : List ByteArray} {ms : List Bool} {pv nv mv : Value} {qs : List Nat} (h : View N B w b k n nm ps ns ms pv nv mv qs) : b < w.heap.size:=let ⟨_,_,hb⟩:=h.blk;ja0 hb
theorem View.part {N : Nat → Prop} {B : Nat} {w : World} {b : Nat} {k n : Int} {nm : ByteArray} {ps : List Ty} {ns : List ByteArray} {ms : List Bool} {pv nv mv : Value} {qs : List Nat} (h : View N B w b k n nm ps ns ms pv nv mv qs) {j : Nat} {p : Ty} (hj : ps[j]? = some p) :
  ∃ q g off cap,pv = .slice (some ⟨g,off,none⟩) ps.length cap ∧ ps.length ≤ cap ∧ g < w.heap.size ∧ w.cell? ⟨g,off + j,none⟩ = some (.pointer (some ⟨q,0,none⟩)) ∧ TyAt N B w q p ∧ ∀ w',Memo jag B w w' → w'.cell? ⟨g,off + j,none⟩ = some (.pointer (some ⟨q,0,none⟩)):=by
 have hl:=(List.getElem?_eq_some_iff.1 hj).1
 obtain ⟨q,hq⟩ : ∃ q,qs[j]? = some q:=⟨_,List.getElem?_eq_getElem (by have:=h.hl;omega)⟩
 obtain ⟨a,cap,e,h2,_,h3⟩:=h.hp
 obtain ⟨g,off,cs,fz,r1,_,r3,r4⟩:=h3 j (ptrV q) (by rw [List.getElem?_map,hq];rfl)
 subst r1
 rw [List.length_map,h.hl] at e h2
 exact ⟨q,g,off,cap,e,h2,ja0 r3,(ja1 r3 _).trans r4,h.hq j q p hq hj,fun w' m => (ja1 (m.cells r3 (by decide) (fun e => e)) _).trans r4⟩
theorem View.parts {N : Nat → Prop} {B : Nat} {w : World} {b : Nat} {k n : Int} {nm : ByteArray} {ps : List Ty} {ns : List ByteArray} {ms : List Bool} {pv nv mv : Value} {qs : List Nat} (h : View N B w b k n nm ps ns ms pv nv mv qs) : ∃ a cap,pv = .slice a ps.length cap ∧ ps.length ≤ cap ∧ ps.length ≤ 1000000000:=by
 obtain ⟨a,cap,e,h2,h3,_⟩:=h.hp
 rw [List.length_map,h.hl] at e h2 h3
 exact ⟨a,cap,e,h2,h3⟩
theorem jdl (zs : List Int) (g cap x : Nat) (p : Ty) (N : Nat → Prop) (B : Nat) (w : World) (hx : TyAt N B w x p) (hG : Glob w) (hT : jaL p) (hs : p.text.size ≤ 100000000000000) (hc : ∀ j z,zs[j]? = some z → w.cell? ⟨g,0 + j,none⟩ = some (.int .i64 z)) (hg : g < w.heap.size) (hlen : zs.length ≤ 1000000) :
  Calls Tryz.prog 96 #[.pointer (some ⟨x,0,none⟩), .slice (some ⟨g,0,none⟩) zs.length cap] w fun e w' => e = .returned (.string (jas zs p.kind p.text)) ∧ Memo jag B w w':=by
 have HC:=Lib.hid hc
 have HX:=Lib.hid (And.intro hx (And.intro hG hT))
 obtain ⟨s,hss⟩ : ∃ s,Hid (p.text = s):=⟨_,rfl⟩
 rw [hss.out] at hs ⊢
 obtain ⟨k,hkk⟩ : ∃ k,Hid (p.kind = k):=⟨_,rfl⟩
 rw [hkk.out]
 have y0 : w.cell? ⟨x,0,none⟩ = some (.int .i64 k):=by
  rw [← hkk.out]
  cases p with
  | mk k' n nm ps ns ms =>
    obtain ⟨pv,nv,mv,qs,V⟩:=hx.view
    exact V.c0
 have yl:=hx.lt
 have hsi : (s.size : Int) ≤ 100000000000000:=by omega
 clear hc hx hG hT
 by_cases hk : k ∈ zs
 ·have e : jas zs k s = ⟨#[40]⟩ ++ s ++ ⟨#[41]⟩:=by unfold jas;rw [if_pos hk]
  rw [e]
  have HK : Hid (decide (k ∈ zs) = true):=by unfold Hid;simp [hk]
  clear hk e
  go_enter Tryz.func96,Tryz.ntmps96
  go_wp2_with (first | (go_at_call 146;refine (jdI zs g 0 cap k _ HC.out hg hlen).mono ?_;rintro e w2 ⟨rfl,hu2⟩;simp only [HK.out]) | (go_at_call 61;refine (HX.out.2.2 N B x _ (HX.out.1.up uq) (HX.out.2.1.up uq)).mono ?_;rintro e w3 ⟨rfl,hm3⟩;rw [hss.out];have hm3:=Lib.hid hm3))
  go_ret
  exact ⟨rfl,(Memo.of_up _ _ hu2).trans hm3.out⟩
 ·have e : jas zs k s = s:=by unfold jas;rw [if_neg hk]
  rw [e]
  have HK : Hid (decide (k ∈ zs) = false):=by unfold Hid;simp [hk]
  clear hk e
  go_enter Tryz.func96,Tryz.ntmps96
  go_wp2_with (first | (go_at_call 146;refine (jdI zs g 0 cap k _ HC.out hg hlen).mono ?_;rintro e w2 ⟨rfl,hu2⟩;simp only [HK.out]) | (go_at_call 61;refine (HX.out.2.2 N B x _ (HX.out.1.up uq) (HX.out.2.1.up uq)).mono ?_;rintro e w3 ⟨rfl,hm3⟩;rw [hss.out];have hm3:=Lib.hid hm3))
  go_ret
  exact ⟨rfl,(Memo.of_up _ _ hu2).trans hm3.out⟩
theorem jjz (n : Int) (nm : ByteArray) (ps : List Ty) (ns : List ByteArray) (ms : List Bool) (h1 : 1 ≤ ps.length) (hT : ∀ p ∈ ps,jaL p ∧ p.text.size ≤ 100000000000000) : jaO (.mk 13 n nm ps ns ms):=by
 intro N B b W ht hg
 obtain ⟨p,r,hpr⟩ : ∃ p r,ps = p :: r:=by
  cases ps with
  | nil => simp at h1
  | cons p r => exact ⟨p,r,rfl⟩
 have e : (Ty.mk 13 n nm ps ns ms).text = jas [15,16] p.kind p.text ++ ⟨#[91,93]⟩:=by rw [Ty.text_mk,hpr];simp [jap]
 rw [e]
 obtain ⟨pv,nv,mv,qs,V⟩:=ht.view
 obtain ⟨q,g,off,cap,rfl,hcap,hgl,hcell,hpt,hkeep⟩:=V.part (j:=0) (p:=p) (by rw [hpr];rfl)
 have HX:=Lib.hid (And.intro hpt (And.intro hg (hT p (by rw [hpr];simp))))
 have hz:=jaU [15,16] p.kind p.text
 have a0:=V.c0
 have a3:=V.c3
 have al:=V.lt
 have hl1 : (0 : Int) < ps.length:=by omega
 have hsz:=HX.out.2.2.2
 obtain ⟨x,hx⟩ : ∃ x,Hid (jas [15,16] p.kind p.text = x):=⟨_,rfl⟩
 have hxs : (x.size : Int) ≤ 100000000000002:=by rw [← hx.out];omega
 rw [hx.out]
 rw [Nat.add_zero] at hcell
 clear ht hg hT V e hz hsz hpt hpr h1 hkeep
 go_enter Tryz.func101,Tryz.ntmps101
 go_wp2_with (first | (go_at_call 96;refine (jdl [15,16] W.heap.size 2 q p N B _ (HX.out.1.up uq) (HX.out.2.1.up uq) HX.out.2.2.1 HX.out.2.2.2 (by intro j z hz;match j,hz with | 0,hz => (simp at hz;subst hz;simp) | 1,hz => (simp at hz;subst hz;simp) | j + 2,hz => simp at hz) (by simp) (by simp)).mono ?_;rintro e w2 ⟨rfl,hm2⟩;rw [hx.out];have hm2:=Lib.hid hm2))
 go_ret
 exact ⟨rfl,(Memo.of_up _ _ uq).trans hm2.out⟩
theorem jjt (n : Int) (nm : ByteArray) (ps : List Ty) (ns : List ByteArray) (ms : List Bool) (h1 : 1 ≤ ps.length) (hs0 : nm.size ≤ 1000000000) (hT : ∀ p ∈ ps,jaL p ∧ p.text.size ≤ 100000000000000) : jaO (.mk 20 n nm ps ns ms):=by
 intro N B b W ht hg
 obtain ⟨p,r,hpr⟩ : ∃ p r,ps = p :: r:=by
  cases ps with
  | nil => simp at h1
  | cons p r => exact ⟨p,r,rfl⟩
 have e : (Ty.mk 20 n nm ps ns ms).text = p.text ++ ⟨#[46]⟩ ++ nm:=by rw [Ty.text_mk,hpr];simp [jap]
 rw [e]
 obtain ⟨pv,nv,mv,qs,V⟩:=ht.view
 obtain ⟨q,g,off,cap,rfl,hcap,hgl,hcell,hpt,hkeep⟩:=V.part (j:=0) (p:=p) (by rw [hpr];rfl)
 have HX:=Lib.hid (And.intro hpt (And.intro hg (hT p (by rw [hpr];simp))))
 have HV:=Lib.hid V
 have a0:=V.c0
 have al:=V.lt
 have hl1 : (0 : Int) < ps.length:=by omega
 have hsz:=HX.out.2.2.2
 obtain ⟨x,hx⟩ : ∃ x,Hid (p.text = x):=⟨_,rfl⟩
 have hxs : (x.size : Int) ≤ 100000000000000:=by rw [← hx.out];omega
 have hsi : (nm.size : Int) ≤ 1000000000:=by omega
 have r2 : ∀ i : MemoOf B W,i.W.cell? ⟨b,2,none⟩ = some (.string nm):=fun i => (HV.out.memo i.memo).c2
 have r3 : ∀ i : MemoOf B W,i.W.cell? ⟨b,3,none⟩ = some (.slice (some ⟨g,off,none⟩) ps.length cap):=fun i => (HV.out.memo i.memo).c3
 have r4 : ∀ i : MemoOf B W,i.W.cell? ⟨g,off,none⟩ = some (.pointer (some ⟨q,0,none⟩)):=fun i => by simpa using hkeep i.W i.memo
 have hc : ∀ i : MemoOf B W,Calls Tryz.prog 61 #[.pointer (some ⟨q,0,none⟩)] i.W fun e w' => e = .returned (.string x) ∧ Memo jag B i.W w':=fun i => by
  rw [← hx.out]
  exact HX.out.2.2.1 N B q i.W (HX.out.1.memo i.memo) (HX.out.2.1.memo i.memo)
 have HCC:=Lib.hid hc
 rw [hx.out]
 clear ht hg hT V e hsz hpt hpr h1 hs0 hc hcell hkeep
 go_enter Tryz.func101,Tryz.ntmps101
 go_wp2_with fail
 refine jbt B (by kernel_rfl) (by kernel_rfl) ?_
 repeat (go_big_quiet_step ((go_at_call 61;rename_i i;exact Calls.memo_of i (HCC.out i))))
 refine wpQuiet_nil ?_
 intro _ hw'
 obtain ⟨⟨w2,hm2⟩,hw''⟩:=hw'
 subst hw''
 clear r2 r3 r4
 have M2:=Lib.hid hm2
 clear hm2
 go_wp2_with fail
 go_ret
 exact ⟨rfl,M2.out⟩
end Go.Proofs.YtiaepldmgighbaaGreatDoor
