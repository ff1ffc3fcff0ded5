import Derived.Test.YtiaepldmgighbaaGreatDoorU41
import Derived.Test.YtiaepldmgighbaaGreatDoorU32
import Derived.Test.YtiaepldmgighbaaGreatDoorU42
namespace Go.Proofs.YtiaepldmgighbaaGreatDoor
open Go.RowKit
set_option linter.unusedSimpArgs false
set_option linter.unusedVariables false
abbrev IntL : TypeId:=3
theorem jgr : (Tryz.prog.info? IntL).map (fun i => (i.zero,i.size,i.bytes)) = some (some (.int .i64 0),1,8):=by kernel_rfl
def jlU (w w' : World) : Prop := ∀ (x : Nat) (o : Obj),w.heap[x]? = some o → (∀ (cs : Array Value) (f : Nat × Nat),o ≠ .cells cs IntL f) → w'.heap[x]? = some o
theorem jcz {T : TypeId} (cs : Array Value) (f : Nat × Nat) (hT : T ≠ IntL) : ∀ (cs' : Array Value) (f' : Nat × Nat),Obj.cells cs T f ≠ .cells cs' IntL f':=fun cs' f' e => by
 injection e with _ e _
 exact hT e
theorem TyAt.apart {N : Nat → Prop} {B : Nat} {w w' : World} {b : Nat} {t : Ty} (h : TyAt N B w b t) (k : jlU w w') : TyAt N B w' b t:=by
 induction h with
 | mk said pv nv mv qs hB hh hs hp hn hm hl hq ih =>
   exact TyAt.mk said pv nv mv qs hB (k _ _ hh (jcz _ _ (by decide))) hs (hp.keep fun g cs fz q1 q2 => ⟨q1,k _ _ q2 (jcz _ _ (by decide))⟩) (hn.keep fun g cs fz q1 q2 => ⟨q1,k _ _ q2 (jcz _ _ (by decide))⟩) (hm.keep fun g cs fz q1 q2 => ⟨q1,k _ _ q2 (jcz _ _ (by decide))⟩) hl ih
theorem TyAt.apart_cell {N : Nat → Prop} {B : Nat} {w w' : World} {b : Nat} {t : Ty} (h : TyAt N B w b t) (k : jlU w w') (i : Nat) : w'.cell? ⟨b,i,none⟩ = w.cell? ⟨b,i,none⟩:=by
 obtain ⟨cs,hb⟩:=h.blk
 rw [ja1 hb,ja1 (k _ _ hb (jcz _ _ (by decide)))]
theorem Asked.apart {N : Nat → Prop} {B : Nat} {w w' : World} {b : Nat} {t : Ty} (h : Asked N B w b t) (ht : TyAt N B w b t) (k : jlU w w') : Asked N B w' b t:=by
 obtain ⟨pv,qs,h1,h2,h3,h4⟩:=h.parts
 refine ⟨(ht.apart_cell k 7).trans h.self,h.ne,pv,qs,(ht.apart_cell k 3).trans h1,h2.keep fun g cs fz q1 q2 => ⟨q1,k _ _ q2 (jcz _ _ (by decide))⟩,h3,fun j q p hj hp => ?_⟩
 obtain ⟨q1,q2,q3⟩:=h4 j q p hj hp
 exact ⟨q1.apart k,(q1.apart_cell k 7).trans q2,q3⟩
theorem Are.apart {w w' : World} {B A : Nat} {bs : List Nat} {ts : List Ty} {tv mv dv : Value} (h : Are w B A bs ts tv mv dv) (k : jlU w w') : Are w' B A bs ts tv mv dv where
 base:=h.base
 head:=k _ _ h.head (jcz _ _ (by decide))
 row:=ja8 h.row fun g' hg' => by
  obtain ⟨cur,hc⟩ : ∃ cur,w.heap[g']? = some (.cells cur TpT (0,0)):=by
   rcases h.row.2 with ⟨hv,_⟩ | ⟨g'',cap,cur,hv,_,hc,_⟩
   ·rw [hv] at hg'; cases hg'
   ·rw [hv] at hg'; cases hg'; exact ⟨cur,hc⟩
  rw [hc]
  exact k _ _ hc (jcz _ _ (by decide))
 rowB:=h.rowB
 ids:=h.ids.imp id fun ⟨g,es,clk,h1,h2,h3,h4⟩ => ⟨g,es,clk,h1,h2,k _ _ h3 (fun _ _ e => by cases e),h4⟩
 len:=h.len
 nodup:=h.nodup
 ty i b t h1 h2:=(h.ty i b t h1 h2).apart k
 asked i b t h1 h2:=(h.asked i b t h1 h2).apart (h.ty i b t h1 h2) k
 good:=h.good
 closed:=h.closed
theorem jar {w : World} {T : TypeId} {v : Value} {n : Nat} {xs : List Value} (h : w.ownsRow 0 T 1 v n xs) {g : Nat} (hg : v.ownBlock = some g) : ∃ cur,w.heap[g]? = some (.cells cur T (0,0)):=by
 rcases h.2 with ⟨hv,_⟩ | ⟨g'',cap,cur,hv,_,hc,_⟩
 ·rw [hv] at hg;cases hg
 ·rw [hv] at hg;cases hg;exact ⟨cur,hc⟩
theorem jgj {S : Nat → Prop} {B : Nat} {w w' : World} {T : TypeId} {v : Value} {n : Nat} {xs : List Value} (h : w.ownsRow 0 T 1 v n xs) (hT : T ≠ TyT) (hS : ∀ g,v.ownBlock = some g → ¬ S g) (m : Memo S B w w') : w'.ownsRow 0 T 1 v n xs:=ja8 h fun g hg => by
 obtain ⟨cur,hc⟩:=jar h hg
 exact (m.cells hc hT (hS g hg)).trans hc.symm
theorem jgv {l r : List Ty} : ∀ {zs : List Nat} {us : List Ty},zs.map (fun z => l[z]?) = us.map some → zs.map (fun z => (l ++ r)[z]?) = us.map some
 | [],[],_ => rfl
 | [],_ :: _,h => by simp at h
 | _ :: _,[],h => by simp at h
 | z :: zs,u :: us,h => by
   simp only [List.map_cons,List.cons.injEq] at h ⊢
   exact ⟨by rw [List.getElem?_append_left (List.getElem?_eq_some_iff.1 h.1).1];exact h.1,jgv h.2⟩
theorem KeepR.done {B A : Nat} {bs : List Nat} {ts : List Ty} {tv mv dv : Value} {w w' : World} {u : Ty} {e : Ending} (h : KeepR B A bs ts tv mv dv w u e w') (hv : u.Valid) (hn : u.nodes ≤ 500) :
  ∃ (i : Nat) (bs' : List Nat) (ts' : List Ty) (tv' mv' : Value) (x : Ty),e = .returned (.tuple #[.int .i64 i, .int .i64 0]) ∧ Are w' B A (bs ++ bs') (ts ++ ts') tv' mv' dv ∧ LayM B A tv mv w w' tv' mv' ∧ bs'.length ≤ u.nodes ∧ (ts ++ ts')[i]? = some x ∧ x.Valid ∧ x.canon = u.canon ∧ x.nodes = u.nodes:=by
 rcases h with ⟨_,i,rfl,i',bs',ts',tv',mv',e,h1,h2,h3,h4,_⟩ | ⟨h5,_,_⟩
 ·injection e with e
  injection e with _ e
  obtain rfl : i = i':=by omega
  rw [List.getElem?_map] at h3
  cases hx : (ts ++ ts')[i]? with
  | none => rw [hx] at h3;cases h3
  | some x =>
    rw [hx] at h3
    simp only [Option.map_some,Option.some.injEq] at h3
    have hg:=(h1.good x (List.mem_of_getElem? hx)).1
    exact ⟨i,bs',ts',tv',mv',x,rfl,h1,h2,h4,hx,hg,text_inj hg hv h3,je3 hg hv h3⟩
 ·omega
inductive NOk : Ty → Prop
 | mk {k n : Int} {nm : ByteArray} {ps : List Ty} {ns : List ByteArray} {ms : List Bool} (hp : ∀ p ∈ ps,NOk p) (hc : CV (jbm (.mk k n nm ps ns ms))) : NOk (.mk k n nm ps ns ms)
def LaidR (B A : Nat) (bs : List Nat) (ts : List Ty) (tv mv dv : Value) (w : World) (t : Ty) (e : Ending) (w' : World) : Prop :=
 ∃ (i : Nat) (ok : Bool) (bs' : List Nat) (ts' : List Ty) (tv' mv' : Value),e = .returned (.tuple #[.int .i64 i, .bool ok]) ∧ Are w' B A (bs ++ bs') (ts ++ ts') tv' mv' dv ∧ LayM B A tv mv w w' tv' mv' ∧ bs'.length ≤ 100 * t.nodes ∧ (ok = true → ∃ u,(ts ++ ts')[i]? = some u ∧ u.nodes ≤ t.nodes ∧ (∀ P,t.varsOk P → u.varsOk P) ∧ u.canon = jbm t ∧ NOk t)
structure LaidS (B A : Nat) (bs : List Nat) (ts : List Ty) (tv mv dv : Value) (w : World) (ps : List Ty) (c j : Nat) (lv : Value) (bs1 : List Nat) (ts1 : List Ty) (tv1 mv1 : Value) (zs : List Nat) (us : List Ty) (wr : World) : Prop where
 base : B ≤ w.heap.size
 are : Are wr B A (bs ++ bs1) (ts ++ ts1) tv1 mv1 dv
 lay : LayM B A tv mv w wr tv1 mv1
 few : bs1.length ≤ 100 * sumN (ps.take c)
 len : zs.length = j
 ids : zs.map (fun z => (ts ++ ts1)[z]?) = us.map some
 size : sumN us ≤ sumN (ps.take j)
 vars : ∀ P,(∀ p ∈ ps.take j,p.varsOk P) → ∀ u ∈ us,u.varsOk P
 norm : us.map Ty.canon = (ps.take j).map jbm ∧ ∀ p ∈ ps.take j,NOk p
 row : wr.ownsRow 0 IntL 1 lv j (zs.map numV)
 far : ∀ g,lv.ownBlock = some g → w.heap.size ≤ g ∧ ¬ arS A tv1 mv1 g
section
variable {B A : Nat} {bs : List Nat} {ts : List Ty} {tv mv dv : Value} {w : World} {ps : List Ty} {c j : Nat} {lv : Value} {bs1 : List Nat} {ts1 : List Ty} {tv1 mv1 : Value} {zs : List Nat} {us : List Ty} {wr : World}
theorem LaidS.up (h : LaidS B A bs ts tv mv dv w ps c j lv bs1 ts1 tv1 mv1 zs us wr) {w2 : World} (hu : Up wr w2) : LaidS B A bs ts tv mv dv w ps c j lv bs1 ts1 tv1 mv1 zs us w2 :=
 ⟨h.base,h.are.up hu,h.lay.trans (LayM.of_memo (Memo.of_up _ _ hu)),h.few,h.len,h.ids,h.size,h.vars,h.norm,ja5 h.row hu,h.far⟩
theorem LaidS.called (h0 : LaidS B A bs ts tv mv dv w ps j j lv bs1 ts1 tv1 mv1 zs us wr) {w2 w3 : World} (hu : Up wr w2) {p : Ty} (hp : ps[j]? = some p) {e : Ending} (k : LaidR B A (bs ++ bs1) (ts ++ ts1) tv1 mv1 dv w2 p e w3) :
  ∃ (i : Nat) (ok : Bool) (bs2 : List Nat) (ts2 : List Ty) (tv2 mv2 : Value),e = .returned (.tuple #[.int .i64 i, .bool ok]) ∧ LaidS B A bs ts tv mv dv w ps (j + 1) j lv bs2 ts2 tv2 mv2 zs us w3 ∧ (ok = true → ∃ x,(ts ++ ts2)[i]? = some x ∧ x.nodes ≤ p.nodes ∧ (∀ P,p.varsOk P → x.varsOk P) ∧ x.canon = jbm p ∧ NOk p):=by
 have h:=h0.up hu
 obtain ⟨i,ok,bs',ts',tv',mv',rfl,k1,k2,k3,k4⟩:=k
 refine ⟨i,ok,bs1 ++ bs',ts1 ++ ts',tv',mv',rfl,⟨h.base,?_,h.lay.trans k2,?_,h.len,?_,h.size,h.vars,h.norm,jgj h.row (by decide) (fun g hg => (h.far g hg).2) k2.memo,fun g hg => ⟨(h.far g hg).1,fun hx => ?_⟩⟩,?_⟩
 ·rw [List.append_assoc,List.append_assoc] at k1
  exact k1
 ·have:=h.few
  rw [jdi hp,List.length_append]
  omega
 ·rw [← List.append_assoc]
  exact jgv h.ids
 ·rcases k2.own g hx with q | q
  ·exact (h.far g hg).2 q
  ·obtain ⟨cur,hc⟩:=jar h.row hg
   have:=ja0 hc
   omega
 ·rw [List.append_assoc] at k4
  exact k4
theorem LaidS.grown (h0 : LaidS B A bs ts tv mv dv w ps (j + 1) j lv bs1 ts1 tv1 mv1 zs us wr) {W w7 : World} (hu : Up wr W) {p x : Ty} {i : Nat} (hp : ps[j]? = some p) (hx : (ts ++ ts1)[i]? = some x) (hn : x.nodes ≤ p.nodes) (hxv : ∀ P,p.varsOk P → x.varsOk P) (hxc : x.canon = jbm p ∧ NOk p) {lv' : Value}
  (hown : w7.ownsRow 0 IntL 1 lv' (j + 1) (zs.map numV ++ [.int .i64 i])) (hgrow : (W.alloc (.cells #[.int .i64 i] IntL)).grownBy w7 lv.ownBlock) (hblk : lv'.ownBlock = lv.ownBlock ∨ ∃ g',lv'.ownBlock = some g' ∧ W.heap.size + 1 ≤ g') :
  LaidS B A bs ts tv mv dv w ps (j + 1) (j + 1) lv' bs1 ts1 tv1 mv1 (zs ++ [i]) (us ++ [x]) w7:=by
 have h:=h0.up hu
 have hlw : w.heap.size ≤ W.heap.size:=h.lay.memo.size
 have hap : jlU W w7:=fun y o hy ho => jan hgrow (jah hy) (fun e => by
  obtain ⟨cur,hc⟩:=jar h.row e
  rw [hc] at hy
  cases hy
  exact ho _ _ rfl)
 refine ⟨h.base,h.are.apart hap,⟨?_,h.lay.own,h.lay.ids⟩,h.few,by simp [h.len],?_,?_,fun P hP u hu' => ?_,⟨by rw [List.take_add_one,hp,Option.toList_some,List.map_append,List.map_append,h.norm.1,List.map_singleton,List.map_singleton,hxc.1],fun y hy => (by rw [List.take_add_one,hp,Option.toList_some] at hy;rcases List.mem_append.1 hy with q | q;exact h.norm.2 y q;rw [List.mem_singleton.1 q];exact hxc.2)⟩,?_,fun g hg => ?_⟩
 ·have m1:=h.lay.memo.mono (T:=fun x => arS A tv mv x ∨ w.heap.size ≤ x) fun _ e => .inl e
  have m2 : Memo (fun x => arS A tv mv x ∨ w.heap.size ≤ x) B (W.alloc (.cells #[.int .i64 i] IntL)) w7:=Memo.grown hgrow fun r e => by
   obtain ⟨cur,hc⟩:=jar h.row e
   have hf:=(h.far r e).1
   exact ⟨.inr hf,Nat.le_trans h.base hf,cur,IntL,(0,0),jah hc,by decide⟩
  exact ((m1.up (show Up W (W.alloc (.cells #[.int .i64 i] IntL)) from uq)).trans m2).less fun _ e => e
 ·rw [List.map_append,List.map_append,h.ids,List.map_cons,List.map_nil,hx]
  rfl
 ·have:=h.size
  rw [jdi hp]
  unfold sumN at *
  rw [List.map_append,List.sum_append]
  simp only [List.map_cons,List.map_nil,List.sum_cons,List.sum_nil]
  omega
 ·rw [List.take_add_one,hp,Option.toList_some] at hP
  rcases List.mem_append.1 hu' with q | q
  ·exact h.vars P (fun y hy => hP y (List.mem_append_left _ hy)) u q
  ·rw [List.mem_singleton.1 q]
   exact hxv P (hP p (by simp))
 ·rw [List.map_append]
  exact hown
 ·rcases hblk with q | ⟨g',q,q2⟩
  ·exact h.far g (by rw [← q];exact hg)
  ·rw [q] at hg
   cases hg
   exact ⟨by omega,h.are.open_ g (by omega)⟩
theorem LaidS.stop (h : LaidS B A bs ts tv mv dv w ps c j lv bs1 ts1 tv1 mv1 zs us wr) {t : Ty} (hn : sumN ps ≤ t.nodes) {w2 : World} (hu : Up wr w2) : LaidR B A bs ts tv mv dv w t (.returned (.tuple #[.int .i64 0, .bool false])) w2 :=
 ⟨0,false,bs1,ts1,tv1,mv1,rfl,h.are.up hu,(h.up hu).lay,by have:=h.few;have:=jbV ps c;omega,fun e => by cases e⟩
theorem LaidS.done (h : LaidS B A bs ts tv mv dv w ps c j lv bs1 ts1 tv1 mv1 zs us wr) {t : Ty} (hn : 1 + sumN ps = t.nodes) (h60 : t.nodes ≤ 60) {W W2 w' : World} (hu : Up wr W) {u : Ty} (hm : Memo jag B W W2) {e : Ending} (k : KeepR B A (bs ++ bs1) (ts ++ ts1) tv1 mv1 dv W2 u e w') (hv : u.Valid) (hun : u.nodes ≤ t.nodes) (huv : ∀ P,t.varsOk P → u.varsOk P) (huc : u.canon = jbm t ∧ NOk t) :
  ∃ i : Nat,e = .returned (.tuple #[.int .i64 i, .int .i64 0]) ∧ LaidR B A bs ts tv mv dv w t (.returned (.tuple #[.int .i64 i, .bool true])) w':=by
 obtain ⟨i,bs',ts',tv',mv',x,rfl,k1,k2,k3,k4,_,k6,k5⟩:=k.done hv (by omega)
 refine ⟨i,rfl,i,true,bs1 ++ bs',ts1 ++ ts',tv',mv',rfl,?_,((h.up hu).lay.trans (LayM.of_memo hm)).trans k2,?_,fun _ => ⟨x,?_,by omega,fun P hP => by rw [← Ty.varsOk_canon,k6,Ty.varsOk_canon];exact huv P hP,k6.trans huc.1,huc.2⟩⟩
 ·rw [List.append_assoc,List.append_assoc] at k1
  exact k1
 ·have:=h.few
  have:=jbV ps c
  rw [List.length_append]
  omega
 ·rw [← List.append_assoc]
  exact k4
end
theorem LaidR.from_ {B A : Nat} {bs : List Nat} {ts : List Ty} {tv mv dv : Value} {w W : World} {t : Ty} {e : Ending} {w' : World} (h : LaidR B A bs ts tv mv dv W t e w') (hu : Up w W) : LaidR B A bs ts tv mv dv w t e w':=by
 obtain ⟨i,ok,bs',ts',tv',mv',h1,h2,h3,h4,h5⟩:=h
 exact ⟨i,ok,bs',ts',tv',mv',h1,h2,(LayM.of_memo (Memo.of_up _ _ hu)).trans h3,h4,h5⟩
theorem Are.not_own {w : World} {B A : Nat} {bs : List Nat} {ts : List Ty} {tv mv dv : Value} (h : Are w B A bs ts tv mv dv) {q : Nat} {cs : Array Value} {f : Nat × Nat} (hq : w.heap[q]? = some (.cells cs RefT f)) : ¬ arS A tv mv q:=by
 rintro (e | e | e)
 ·subst e
  exact jb1 hq h.head (by decide) rfl
 ·obtain ⟨cur,hc⟩:=jar h.row e
  exact jb1 hq hc (by decide) rfl
 ·rcases h.ids with ⟨h9,_⟩ | ⟨g,es,clk,h9,_,hm,_⟩
  ·rw [h9] at e;cases e
  ·rw [h9] at e
   cases e
   rw [hm] at hq
   cases hq
theorem jii {l : List Ty} : ∀ {zs : List Nat} {us : List Ty},zs.map (fun z => l[z]?) = us.map some → ∀ t ∈ us,t ∈ l
 | [],[],_ => fun t h => by cases h
 | [],_ :: _,h => by simp at h
 | _ :: _,[],h => by simp at h
 | z :: zs,u :: us,h => by
   simp only [List.map_cons,List.cons.injEq] at h
   intro t ht
   rcases List.mem_cons.1 ht with rfl | ht
   ·exact List.mem_of_getElem? h.1
   ·exact jii h.2 t ht
theorem jdj {l : List Ty} {t : Ty} (h : t ∈ l) : t.nodes ≤ sumN l:=jd7 (List.mem_map_of_mem (f:=Ty.nodes) h)
theorem jc8 (l : List Ty) : l.length ≤ sumN l:=by
 induction l with
 | nil => exact Nat.le_refl _
 | cons x r ih =>
   have:=x.nodes_pos
   unfold sumN at *
   simp only [List.length_cons,List.map_cons,List.sum_cons]
   omega
theorem jj7 {w : World} {B A : Nat} {bs : List Nat} {ts : List Ty} {tv mv dv : Value} (h : Are w B A bs ts tv mv dv) {zs : List Nat} {us : List Ty} (hi : zs.map (fun z => ts[z]?) = us.map some) (hn : sumN us ≤ 1000) : Fit us :=
 ⟨fun t ht => (h.good t (jii hi t ht)).1,fun t ht => (h.good t (jii hi t ht)).2.2,by unfold sumN at hn;omega,Nat.le_trans (jc8 us) hn⟩
theorem jgu {w : World} {a : Option Addr} {n cap : Nat} {zs : List Nat} (h : w.ownsRow 0 IntL 1 (.slice a n cap) n (zs.map numV)) (hl : zs.length = n) : IdsAt w a zs:=fun j z hj => by
 have hjl:=(List.getElem?_eq_some_iff.1 hj).1
 obtain ⟨g,cap',cur,hv,hg,_,hc⟩:=jaY h (by omega)
 injection hv with h1 _ _
 have q:=hc j (numV z) (by rw [List.getElem?_map,hj];rfl)
 exact ⟨g,0,h1,ja0 hg,(ja1 hg _).trans q⟩
def jov (t : Ty) : Prop := ∀ (us : List Value) (w : World) (B A : Nat) (bs : List Nat) (ts : List Ty) (tv mv dv : Value) (m : Int),TIs B w us t → Are w B A bs ts tv mv dv → GlobB B w → w.cell? ⟨0,0,none⟩ = some (.int .i64 m) → 0 < B → bs.length + 100 * t.nodes ≤ 400000 → t.nodes ≤ 60 →
 Calls Tryz.prog 31 #[.pointer (some ⟨A,0,none⟩), .agg us.toArray] w (LaidR B A bs ts tv mv dv w t)
set_option maxRecDepth 100000
set_option maxHeartbeats 6400000
theorem jmz : ∀ (c : Nat) (t : Ty),t.nodes ≤ c → jov t:=by
 intro c
 induction c with
 | zero => intro t h;have:=t.nodes_pos;omega
 | succ c ih =>
   intro t hc us w B A bs ts tv mv dv m h hA hG hM hMB hf h60
   have hBw:=hA.lt
   have a4:=ja0 hA.head
   cases h with
   | @mk k n nm pa cap nv kv ps ns ms us hn1 hn2 hnm hnv hln hsm hmv hlm hl hpl hpc hcc hq =>
     have hsum : Hid (1 + sumN ps = (Ty.mk k n nm ps ns ms).nodes):=(Ty.nodes_mk _ _ _ _ _ _).symm
     obtain ⟨N,hN⟩ : ∃ N,Hid ((Ty.mk k n nm ps ns ms).nodes = N):=⟨_,rfl⟩
     obtain ⟨T,hT⟩ : ∃ T,Hid (Ty.mk k n nm ps ns ms = T):=⟨_,rfl⟩
     rw [hN.out] at hc hf h60 hsum
     rw [hT.out]
     rw [hT.out] at hN
     have HP:=Lib.hid (fun (j : Nat) (hj : j < ps.length) => jcP hl hcc hq hj)
     have IH:=Lib.hid ih
     have H0:=Lib.hid (And.intro hA (And.intro hG (And.intro hM (And.intro hMB (And.intro hf (And.intro h60 (And.intro hBw hc)))))))
     have HNV:=Lib.hid (And.intro hnv (And.intro hln (And.intro hsm (And.intro hmv (And.intro hlm (And.intro hnm (And.intro hn1 hn2)))))))
     obtain ⟨na,ncap,rfl,_,_⟩:=hnv.form
     obtain ⟨ma,mcap,rfl,_,_⟩:=hmv.form
     obtain ⟨nl,hnl⟩ : ∃ nl,Hid ((ns.map Value.string).length = nl):=⟨_,rfl⟩
     obtain ⟨ml,hml⟩ : ∃ ml,Hid ((ms.map Value.bool).length = ml):=⟨_,rfl⟩
     rw [hnl.out,hml.out]
     have hpl60 : ps.length ≤ 60:=by have:=jc8 ps;have:=hsum.out;omega
     clear ih hA hG hM hMB hf h60 hBw hc hl hcc hq hnv hln hsm hmv hlm hnm hn1 hn2
     go_enter Tryz.func31,Tryz.ntmps31
     go_wp2_with fail
     refine ja4 fun A2 W2 hA2 hW2 => ?_
     have hu0 : Hid (Up w W2):=by subst hW2;exact uq
     obtain ⟨q,hq⟩ : ∃ q,Hid (w.heap.size = q):=⟨_,rfl⟩
     have HQ : Hid (W2.heap[q]? = some (.cells #[.int .i64 k, .int .i64 n, .string nm, .slice pa ps.length cap, .slice na nl ncap, .slice ma ml mcap] RefT (0,0))):=by subst hW2;rw [← hq.out];exact jaa _ _ _ rfl
     rw [hq.out] at hA2
     clear hW2
     subst hA2
     have hB2 : Hid (B ≤ W2.heap.size):=Nat.le_trans H0.out.2.2.2.2.2.2.1 hu0.out.size
     have hA2:=Lib.hid (H0.out.1.up hu0.out)
     have hnq:=Lib.hid (hA2.out.not_own HQ.out)
     go_loopw [6,7] (fun lv i wr => ∃ j : Nat,j ≤ ps.length ∧ i = .int .i64 j ∧ ∃ bs1 ts1 tv1 mv1 zs us,LaidS B A bs ts tv mv dv W2 ps j j lv bs1 ts1 tv1 mv1 zs us wr) (fun _ i _ => ps.length - (intOf i).toNat)
     case atStart =>
      refine ⟨0,Nat.zero_le _,rfl,[],[],tv,mv,[],[],hB2.out,?_,LayM.refl _ _ _ _ _,Nat.zero_le _,rfl,rfl,Nat.zero_le _,(fun P hP u hu => by cases hu),⟨rfl,fun p hp => by simp at hp⟩,(show W2.ownsRow 0 IntL 1 (.slice none 0 0) 0 [] from ⟨rfl, .inl ⟨rfl,rfl⟩⟩),fun g hg => by simp [Value.ownBlock] at hg⟩
      rw [List.append_nil,List.append_nil]
      exact hA2.out
     case round =>
      obtain ⟨j,hj,rfl,bs1,ts1,tv1,mv1,zs,us,hS⟩:=hrel
      have hbel : Below B w wr:=Below.trans (hu0.out.below H0.out.2.2.2.2.2.2.1) (hS.lay.memo.below hB2.out)
      have hBr : B ≤ wr.heap.size:=Nat.le_trans H0.out.2.2.2.2.2.2.1 hbel.size
      have HQr:=Lib.hid (hS.lay.memo.cells HQ.out (by decide) hnq.out)
      obtain ⟨la,lcap,rfl⟩:=ja7 hS.row
      have hAr:=ja0 hS.are.head
      have x0:=ja1 HQr.out 0;have x1:=ja1 HQr.out 1;have x2:=ja1 HQr.out 2;have x3:=ja1 HQr.out 3;have x4:=ja1 HQr.out 4;have x5:=ja1 HQr.out 5;have xl:=ja0 HQr.out;simp only [gQa,gQz,gQs] at x0 x1 x2 x3 x4 x5
      by_cases hlt : j < ps.length
      ·have hji : (j : Int) < ps.length:=by omega
       obtain ⟨p,b,off,u0,u1,u2,u3,u4,u5,hp,rfl,hb,c0,c1,c2,c3,c4,c5,ht⟩:=HP.out j hlt
       have hbl : b < wr.heap.size:=by omega
       have c0:=(Below.cell (p:=⟨b,_,none⟩) hbel hb).trans c0
       have c1:=(Below.cell (p:=⟨b,_,none⟩) hbel hb).trans c1
       have c2:=(Below.cell (p:=⟨b,_,none⟩) hbel hb).trans c2
       have c3:=(Below.cell (p:=⟨b,_,none⟩) hbel hb).trans c3
       have c4:=(Below.cell (p:=⟨b,_,none⟩) hbel hb).trans c4
       have c5:=(Below.cell (p:=⟨b,_,none⟩) hbel hb).trans c5
       have HT:=Lib.hid (fun W (hW : Up wr W) => IH.out p (by have:=jdj (List.mem_of_getElem? hp);have:=hsum.out;have:=H0.out;omega) [u0,u1,u2,u3,u4,u5] W B A (bs ++ bs1) (ts ++ ts1) tv1 mv1 dv m (ht.low (Below.trans hbel (hW.below hBr))) (hS.are.up hW) (((H0.out.2.1.memo (Memo.of_up jag B hu0.out)).memo hS.lay.memo).memo (Memo.of_up jag B hW)) ((hW.cells _ _ (by have:=H0.out.2.2.2.1;omega)).trans ((Below.cell (p:=⟨0,0,none⟩) hbel H0.out.2.2.2.1).trans H0.out.2.2.1)) H0.out.2.2.2.1 (by
        have h1:=hS.few
        have h2:=jdi hp
        have h3:=jbV ps (j + 1)
        have h4:=hsum.out
        have h5:=H0.out.2.2.2.2.1
        rw [List.length_append]
        omega) (by have:=jdj (List.mem_of_getElem? hp);have:=hsum.out;have:=H0.out.2.2.2.2.2.1;omega))
       have HS:=Lib.hid (And.intro hS hp)
       obtain ⟨i0,hi,hz0,hz1,hz2⟩:=info_parts jgr
       clear hS hp ht hlt hbel
       go_wp2_with (first
        | (go_at_call 31;refine (HT.out _ (show Up wr _ from uq)).mono ?_;intro e w3 hR;obtain ⟨i3,ok,bs2,ts2,tv2,mv2,rfl,hS2,hx⟩:=HS.out.1.called (show Up wr _ from uq) HS.out.2 hR;have HS2:=Lib.hid (And.intro hS2 hx);clear hR hS2 hx;(rcases ok with _ | _))
        | (at_builtin;go_must (refine jae rfl _ _ 43 rfl IntL i0 (.int .i64 0) 1 8 Tryz.underlying43 hi hz0 hz1 hz2 rfl (by decide) (.slice la j lcap) j (zs.map numV) rfl (ja5 HS2.out.1.row uq) _ 1 1 rfl (by first | rfl | (simp;done) | omega) rfl (by intro u hu;have hu2 : u = .int .i64 i3:=(by simpa using hu);rw [hu2];rfl) (by unfold maxLen;omega) (by omega) ?_;intro sa' cap' w7 hown' hgrow hblk;(try simp only [gQw] at hblk);have HY:=Lib.hid (And.intro hown' (And.intro hgrow hblk));clear hown' hgrow hblk)))
       ·refine bodyPost_ret (v := .tuple #[.int .i64 0, .bool false]) (by simp [results,Tryz.results31,go_sem]) rfl ?_
        exact (HS2.out.1.stop (by have:=hsum.out;have:=hN.out;omega) (show Up w3 _ from uq)).from_ hu0.out
       ·obtain ⟨x,hx1,hx2,hx3,hx4⟩:=HS2.out.2 (by first | rfl | trivial)
        exact ⟨⟨j + 1,by omega,by simp,bs2,ts2,tv2,mv2,zs ++ [i3],us ++ [x],HS2.out.1.grown (show Up w3 _ from uq) HS.out.2 hx1 hx2 hx3 hx4 HY.out.1 HY.out.2.1 HY.out.2.2⟩,by simp [intOf];omega⟩
      ·obtain rfl : j = ps.length:=by omega
       have hsz : Hid (sumN us ≤ sumN ps):=by have:=hS.size;rw [List.take_length] at this;exact this
       have hfit:=Lib.hid (jj7 hS.are hS.ids (by have:=hsz.out;have:=hsum.out;have:=H0.out.2.2.2.2.2.1;omega))
       have hbs : Hid ((bs ++ bs1).length ≤ 500000):=by
        unfold Hid
        have h1:=hS.few
        have h3:=jbV ps ps.length
        have h4:=hsum.out
        have h5:=H0.out.2.2.2.2.1
        rw [List.length_append]
        omega
       have hG1:=Lib.hid (fun W (hW : Up wr W) => ((H0.out.2.1.memo (Memo.of_up jag B hu0.out)).memo hS.lay.memo).memo (Memo.of_up jag B hW))
       have hid:=Lib.hid (jgu hS.row hS.len)
       have hvars : Hid (∀ P,T.varsOk P → ∀ u ∈ us,u.varsOk P):=fun P hP => hS.vars P (by rw [List.take_length];rw [← hT.out] at hP;exact (Ty.varsOk_mk.1 hP).2)
       have hnorm : Hid (us.map Ty.canon = ps.map jbm ∧ ∀ p ∈ ps,NOk p):=by have:=hS.norm;rw [List.take_length] at this;exact this
       have HS:=Lib.hid hS
       have HB:=Lib.hid (And.intro hbel hBr)
       clear hS hlt hbel hBr
       by_cases hk : k = 16
       ·have HU : Hid (∀ W,Up wr W → Calls Tryz.prog 24 #[.pointer (some ⟨A,0,none⟩), .slice la ps.length lcap] W (UniR B A (bs ++ bs1) (ts ++ ts1) tv1 mv1 dv W (jal (us.map Ty.canon)))):=fun W hW => by
         have q:=jer B A (bs ++ bs1) (ts ++ ts1) tv1 mv1 dv zs us la lcap W (HS.out.are.up hW) (hid.out.up hW) HS.out.ids hfit.out (hG1.out W hW) hbs.out
         rw [HS.out.len] at q
         exact q
        subst hk
        go_wp2_with (first | (go_at_call 24;refine (HU.out _ (show Up wr _ from uq)).mono ?_;rintro e w5 ⟨u,w4,hv,hcn,hm4,hK⟩;obtain ⟨i5,rfl,hR⟩:=HS.out.done (hsum.out.trans hN.out.symm) (by have:=hN.out;have:=H0.out.2.2.2.2.2.1;omega) (show Up wr _ from uq) hm4 hK hv (by rw [← Ty.nodes_canon,hcn];have h1:=jbb (us.map Ty.canon);rw [List.map_map,show (Ty.nodes ∘ Ty.canon) = Ty.nodes from funext Ty.nodes_canon] at h1;have h2:=hsz.out;have:=hsum.out;have:=hN.out;unfold sumN at *; omega) (fun P hP => by rw [← Ty.varsOk_canon,hcn];exact jhU fun z hz => (by obtain ⟨z',hz',rfl⟩:=List.mem_map.1 hz;rw [Ty.varsOk_canon];exact hvars.out P hP z' hz')) (by have q : u.canon = jbm T:=(by rw [hcn,hnorm.out.1, ← hT.out,jgo,if_pos rfl]);refine ⟨q,?_⟩;have q2 : CV (jbm T):=(by rw [← q];exact CV.of hv);rw [← hT.out] at q2 ⊢; exact .mk hnorm.out.2 q2);have HR:=Lib.hid (hR.from_ hu0.out);clear hv hcn hm4 hK hR))
        refine bodyPost_ret (v := .tuple #[.int .i64 i5, .bool true]) (by simp [results,Tryz.results31,go_sem]) rfl ?_
        exact HR.out
       ·have HF : Hid (∀ W,Up wr W → Calls Tryz.prog 25 #[.pointer (some ⟨A,0,none⟩),typV k n nm (.slice la ps.length lcap) (.slice na nl ncap) (.slice ma ml mcap)] W fun e w' => (e = .returned (.tuple #[.int .i64 0, .int .i64 1]) ∧ Up W w') ∨ ∃ i : Nat,e = .returned (.tuple #[.int .i64 i, .int .i64 0]) ∧ LaidR B A bs ts tv mv dv w T (.returned (.tuple #[.int .i64 i, .bool true])) w'):=fun W hW => by
         have hbw : Below B w W:=Below.trans HB.out.1 (hW.below HB.out.2)
         have q:=jn6 (fun x => x < B) B A (bs ++ bs1) (ts ++ ts1) tv1 mv1 dv zs us la lcap k n nm _ _ ns ms m W ⟨HS.out.are.up hW,hid.out.up hW,HS.out.ids,hfit.out,hG1.out W hW,hbs.out,HNV.out.1.below hbw,HNV.out.2.2.2.1.below hbw,HNV.out.2.1,HNV.out.2.2.2.2.1,HNV.out.2.2.1,HNV.out.2.2.2.2.2.1,(Below.cell (p:=⟨0,0,none⟩) hbw H0.out.2.2.2.1).trans H0.out.2.2.1⟩ HNV.out.2.2.2.2.2.2.1 HNV.out.2.2.2.2.2.2.2
         rw [HS.out.len,hnl.out,hml.out] at q
         refine q.mono ?_
         rintro e w5 (⟨rfl,hu5⟩ | ⟨hv,w4,hm4,hK⟩)
         ·exact .inl ⟨rfl,hu5⟩
         ·obtain ⟨i5,rfl,hR⟩:=HS.out.done (hsum.out.trans hN.out.symm) (by have:=hN.out;have:=H0.out.2.2.2.2.2.1;omega) hW hm4 hK hv (by rw [Ty.nodes_mk];have h2:=hsz.out;have:=hsum.out;have:=hN.out;unfold sumN at *; omega) (fun P hP => Ty.varsOk_mk.2 ⟨by rw [← hT.out] at hP;exact (Ty.varsOk_mk.1 hP).1,hvars.out P hP⟩) (by have q : (Ty.mk k n nm us ns ms).canon = jbm T:=(by rw [Ty.canon_mk,hnorm.out.1, ← hT.out,jgo,if_neg hk]);refine ⟨q,?_⟩;have q2 : CV (jbm T):=(by rw [← q];exact CV.of hv);rw [← hT.out] at q2 ⊢; exact .mk hnorm.out.2 q2)
          exact .inr ⟨i5,rfl,hR.from_ hu0.out⟩
        go_wp2_with (first | (go_at_call 25;refine (HF.out _ (show Up wr _ from uq)).mono ?_;(rintro e w5 (⟨rfl,hu5⟩ | ⟨i5,rfl,hR⟩))))
        ·refine bodyPost_ret (v := .tuple #[.int .i64 0, .bool false]) (by simp [results,Tryz.results31,go_sem]) rfl ?_
         exact (HS.out.stop (by have:=hsum.out;have:=hN.out;omega) (show Up wr _ from uq)).from_ hu0.out
        ·refine bodyPost_ret (v := .tuple #[.int .i64 i5, .bool true]) (by simp [results,Tryz.results31,go_sem]) rfl ?_
         exact hR
theorem TIs.mono {B B' : Nat} {w : World} {us : List Value} {t : Ty} (h : TIs B w us t) (k : B ≤ B') : TIs B' w us t:=by
 have hr : ∀ {v : Value} {us : List Value},RowV (fun x => x < B) w v us → RowV (fun x => x < B') w v us:=fun ⟨T,h⟩ => ⟨T,h.keep fun g cs fz h1 h2 => ⟨Nat.lt_of_lt_of_le h1 k,h2⟩⟩
 induction h with
 | mk us hn1 hn2 hnm hnv hln hsm hmv hlm hl hpl hpc hc hq ih =>
   refine TIs.mk us hn1 hn2 hnm (hr hnv) hln hsm (hr hmv) hlm hl hpl hpc (fun j u hj => ?_) ih
   obtain ⟨b,off,h1,h2,h3,h4⟩:=hc j u hj
   exact ⟨b,off,h1,Nat.lt_of_lt_of_le h2 k,h3,h4⟩
theorem GlobB.mono {B B' : Nat} {w : World} (h : GlobB B w) (k : B ≤ B') : GlobB B' w:=fun w' hk => h w' fun b o hb ho => hk b o (Nat.lt_of_lt_of_le hb k) ho
structure Sta (w0 W : World) (A : Nat) (bs : List Nat) (ts : List Ty) (tv mv : Value) (dv : Value := .map none) : Prop where
 are : Are W w0.heap.size A bs ts tv mv dv
 glob : GlobB w0.heap.size W
 up : Up w0 W
theorem Sta.later {w0 W W' : World} {A : Nat} {bs : List Nat} {ts : List Ty} {tv mv dv : Value} (h : Sta w0 W A bs ts tv mv dv) (k : Up W W') : Sta w0 W' A bs ts tv mv dv:=⟨h.are.up k,h.glob.memo (Memo.of_up jag _ k),h.up.trans k⟩
theorem Sta.step {w0 W W' : World} {A : Nat} {bs bs' : List Nat} {ts ts' : List Ty} {tv mv tv' mv' dv : Value} (h : Sta w0 W A bs ts tv mv dv) (k : Are W' w0.heap.size A bs' ts' tv' mv' dv) (hL : LayM w0.heap.size A tv mv W W' tv' mv') : Sta w0 W' A bs' ts' tv' mv' dv :=
 ⟨k,h.glob.memo hL.memo,Below.trans h.up (hL.memo.below h.are.lt)⟩
theorem more {α : Type} {l r : List α} {i : Nat} {x : α} (h : l[i]? = some x) : (l ++ r)[i]? = some x:=by
 rw [List.getElem?_append_left (List.getElem?_eq_some_iff.1 h).1]
 exact h
theorem jdu {w0 W : World} {A : Nat} {bs : List Nat} {ts : List Ty} {tv mv : Value} (h : Sta w0 W A bs ts tv mv) {us : List Value} {t : Ty} (ht : TIs w0.heap.size w0 us t) {m : Int} (hm : w0.cell? ⟨0,0,none⟩ = some (.int .i64 m)) (h60 : t.nodes ≤ 60) (hb : bs.length ≤ 100000) :
  Calls Tryz.prog 31 #[.pointer (some ⟨A,0,none⟩), .agg us.toArray] W fun e w' => ∃ (i : Nat) (ok : Bool) (bs' : List Nat) (ts' : List Ty) (tv' mv' : Value),e = .returned (.tuple #[.int .i64 i, .bool ok]) ∧ Sta w0 w' A (bs ++ bs') (ts ++ ts') tv' mv' ∧ bs'.length ≤ 6000 ∧ (ok = true → ∃ u,(ts ++ ts')[i]? = some u ∧ u.nodes ≤ 60 ∧ (∀ P,t.varsOk P → u.varsOk P) ∧ u.canon = jbm t ∧ NOk t):=by
 refine (jmz _ t (Nat.le_refl _) us W w0.heap.size A bs ts tv mv (.map none) m (ht.low h.up) h.are h.glob ((h.up.cells _ _ (jaj hm)).trans hm) (jaj hm) (by omega) h60).mono ?_
 rintro e w' ⟨i,ok,bs',ts',tv',mv',rfl,h1,h2,h3,h4⟩
 exact ⟨i,ok,bs',ts',tv',mv',rfl,h.step h1 h2,by omega,fun e => by
  obtain ⟨u,q1,q2,q3⟩:=h4 e
  exact ⟨u,q1,by omega,q3⟩⟩
theorem jll (W : World) (zs : List Nat) (f : Nat × Nat) : IdsAt (W.alloc (.cells (zs.map numV).toArray IntL f)) (some ⟨W.heap.size,0,none⟩) zs:=fun j z hj => by
 have hA : (W.alloc (.cells (zs.map numV).toArray IntL f)).heap[W.heap.size]? = some (.cells (zs.map numV).toArray IntL f):=ja9 _ _
 refine ⟨W.heap.size,0,rfl,ja0 hA,(ja1 hA _).trans ?_⟩
 rw [Nat.zero_add,gQa,List.getElem?_map,hj]
 rfl
def UnionQ (w0 : World) (A : Nat) (bs : List Nat) (ts : List Ty) (c : Ty) (n : Nat) (e : Ending) (w' : World) : Prop :=
 ∃ (i : Nat) (bs' : List Nat) (ts' : List Ty) (tv' mv' : Value) (x : Ty),e = .returned (.tuple #[.int .i64 i, .int .i64 0]) ∧ Sta w0 w' A (bs ++ bs') (ts ++ ts') tv' mv' ∧ bs'.length ≤ 500 ∧ (ts ++ ts')[i]? = some x ∧ x.Valid ∧ x.canon = c ∧ x.nodes ≤ n
theorem jgI {w0 W : World} {A : Nat} {bs : List Nat} {ts : List Ty} {tv mv : Value} (h : Sta w0 W A bs ts tv mv) (zs : List Nat) (us : List Ty) (n k cap : Nat) (hz : zs.map (fun z => ts[z]?) = us.map some) (hn : 1 + sumN us ≤ n) (h500 : n ≤ 500) (hb : bs.length ≤ 100000) (hk : zs.length = k) (f : Nat × Nat) :
  Calls Tryz.prog 24 #[.pointer (some ⟨A,0,none⟩), .slice (some ⟨W.heap.size,0,none⟩) k cap] (W.alloc (.cells (zs.map numV).toArray IntL f)) (UnionQ w0 A bs ts (jal (us.map Ty.canon)) n):=by
 subst hk
 have hu : Up W (W.alloc (.cells (zs.map numV).toArray IntL f)):=uq
 have h':=h.later hu
 refine (jer w0.heap.size A bs ts tv mv (.map none) zs us _ cap _ h'.are (jll W zs f) hz (jj7 h'.are hz (by omega)) h'.glob (by omega)).mono ?_
 rintro e w' ⟨u,w2,hv,hc,hm,hK⟩
 have hun : u.nodes ≤ n:=by
  rw [← Ty.nodes_canon,hc]
  have h1:=jbb (us.map Ty.canon)
  rw [List.map_map,show (Ty.nodes ∘ Ty.canon) = Ty.nodes from funext Ty.nodes_canon] at h1
  unfold sumN at hn
  omega
 obtain ⟨i,bs',ts',tv',mv',x,rfl,k1,k2,k3,k4,k5,k6,k7⟩:=hK.done hv (by omega)
 exact ⟨i,bs',ts',tv',mv',x,rfl,h'.step k1 ((LayM.of_memo hm).trans k2),by omega,k4,k5,k6.trans hc,by omega⟩
theorem Sta.same {w0 W : World} {A : Nat} {bs : List Nat} {ts : List Ty} {tv mv dv : Value} (h : Sta w0 W A bs ts tv mv dv) {i j : Nat} {x y : Ty} (hi : ts[i]? = some x) (hj : ts[j]? = some y) (e : x.canon = y.canon) : i = j:=by
 have hx : (ts.map Ty.text)[i]? = some x.text:=by rw [List.getElem?_map,hi];rfl
 have hy : (ts.map Ty.text)[j]? = some x.text:=by rw [List.getElem?_map,hj, ← Ty.text_canon x,e,Ty.text_canon];rfl
 obtain ⟨h1,h2⟩:=List.getElem?_eq_some_iff.1 hx
 obtain ⟨h3,h4⟩:=List.getElem?_eq_some_iff.1 hy
 rcases Nat.lt_trichotomy i j with hlt | rfl | hlt
 ·exact absurd (h2.trans h4.symm) (List.pairwise_iff_getElem.1 h.are.nodup i j h1 h3 hlt)
 ·rfl
 ·exact absurd (h4.trans h2.symm) (List.pairwise_iff_getElem.1 h.are.nodup j i h3 h1 hlt)
theorem Sta.new {w0 W : World} {A : Nat} {bs : List Nat} {g : Nat} {tv : Value} (h : Few W w0.heap.size A bs g tv 10) (hu : Up w0 W) (hg : GlobB w0.heap.size w0) : Sta w0 W A bs tenT tv (.map (some g)):=⟨h.are,hg.memo (Memo.of_up jag _ hu),hu⟩
end Go.Proofs.YtiaepldmgighbaaGreatDoor
