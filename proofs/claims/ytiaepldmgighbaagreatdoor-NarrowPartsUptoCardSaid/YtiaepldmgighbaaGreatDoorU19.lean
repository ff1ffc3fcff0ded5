import Derived.Test.YtiaepldmgighbaaGreatDoorU18
import Derived.Test.YtiaepldmgighbaaGreatDoorU10
namespace Go.Proofs.YtiaepldmgighbaaGreatDoor
open Go.RowKit
set_option linter.unusedSimpArgs false
attribute [local go_sem] Oper.semAt_some
abbrev BoT : TypeId:=4
abbrev ErT : TypeId:=22
theorem AsksAny.mono {A : Nat} {G : Pr → Que} {V : Pr → Prop} {kept kept' : Nat → Prop} {w : World} (h : AsksAny A G V kept w) (k : ∀ b,kept b → kept' b) : AsksAny A G V kept' w:=⟨h.1,fun p hp W hW => h.2 p hp W (hW.mono k)⟩
def jki (w : World) (L0 : Nat) (lv qv : Value) (b : Nat) : Prop:=b = w.heap.size ∨ b = w.heap.size + 1 ∨ (L0 ≤ b ∧ b ≤ L0 + 3) ∨ lv.ownBlock = some b ∨ qv.ownBlock = some b
structure AsI (G : Pr → Que) (V : Pr → Prop) (w : World) (L0 : Nat) (lv qv : Value) (Y : List (Pr × Nat)) (ys : List Told) (t : Tags) (W : World) : Prop where
 up : Up w W
 base : w.heap.size + 2 ≤ L0
 b0 : W.heap[w.heap.size]? = some (.cells #[.bool false] BoT (0,0))
 b1 : W.heap[w.heap.size + 1]? = some (.cells #[.int .i64 0] ErT (0,0))
 lb : W.heap[L0]? = some (.cells #[lv] LpT (0,0))
 qb : W.heap[L0 + 1]? = some (.cells #[qv] LqT (0,0))
 ym : YMap W (L0 + 2) Y
 yb : W.heap[L0 + 3]? = some (.cells #[.map (some (L0 + 2))] MpT (0,0))
 lrow : W.ownsRow 0 jbA 2 lv ys.length (jcF (ys.map Told.p))
 qrow : W.ownsRow 0 QueT 5 qv ys.length (jk2 G ys)
 lnew : ∀ b,lv.ownBlock = some b ∨ qv.ownBlock = some b → w.heap.size ≤ b
 look : ∀ p,look Y p = if p ∈ ys.map Told.p then 1 else 0
 told : ∀ x ∈ ys,PairsAt (fun g => ¬ t.own g ∧ ¬ jki w L0 lv qv g) W (x.v G) (G x.p).pairs ∧ V x.p
 soft : ∀ x ∈ ys,(G x.p).hard = false
 few : ys.length ≤ 2000
 mine : ∀ b,(b = w.heap.size ∨ b = w.heap.size + 1 ∨ (L0 ≤ b ∧ b ≤ L0 + 3) ∨ lv.ownBlock = some b ∨ qv.ownBlock = some b) → ¬ t.own b ∧ ¬ t.kept b
 onew : ∀ b,t.own b → w.heap.size ≤ b
theorem jky {B : Nat → Prop} {v : Value} {ps : List Pr} {t t' : Tags} {W W' : World} (h : PairsAt (fun g => ¬ t.own g ∧ B g) W v ps) (k : Steps t t' W W') : PairsAt (fun g => ¬ t'.own g ∧ B g) W' v ps :=
 h.keep k.size fun g q1 q2 => ⟨⟨fun e => by rcases k.news g e with q | q;exact q1.1 q;omega,q1.2⟩,fun i u hu => by
  simp only [World.cell?,k.same g q2 q1.1]
  exact hu⟩
theorem AsI.step {G : Pr → Que} {V : Pr → Prop} {w : World} {L0 : Nat} {lv qv : Value} {Y : List (Pr × Nat)} {ys : List Told} {t t' : Tags} {W W' : World} (h : AsI G V w L0 lv qv Y ys t W) (k : Steps t t' W W') : AsI G V w L0 lv qv Y ys t' W':=by
 have g : ∀ b o,(b = w.heap.size ∨ b = w.heap.size + 1 ∨ (L0 ≤ b ∧ b ≤ L0 + 3) ∨ lv.ownBlock = some b ∨ qv.ownBlock = some b) → W.heap[b]? = some o → W'.heap[b]? = some o:=fun b o hb ho => (k.same b (ja0 ho) (h.mine b hb).1).trans ho
 have s1 : L0 + 3 < W.heap.size:=ja0 h.yb
 have s0:=h.base
 exact {
  up:=⟨k.os.trans h.up.os,k.tape.trans h.up.tape,k.output.trans h.up.output,Nat.le_trans h.up.size k.size,fun b hb => (k.same b (Nat.lt_of_lt_of_le hb h.up.size) (fun e => by have:=h.onew b e;omega)).trans (h.up.block b hb)⟩
  base:=h.base
  b0:=g _ _ (.inl rfl) h.b0
  b1:=g _ _ (.inr (.inl rfl)) h.b1
  lb:=g _ _ (.inr (.inr (.inl ⟨Nat.le_refl _,by omega⟩))) h.lb
  qb:=g _ _ (.inr (.inr (.inl ⟨by omega,by omega⟩))) h.qb
  ym:=h.ym.keep (k.same _ (by omega) (h.mine _ (.inr (.inr (.inl ⟨by omega,by omega⟩)))).1)
  yb:=g _ _ (.inr (.inr (.inl ⟨by omega,by omega⟩))) h.yb
  lrow:=ja8 h.lrow fun b hb => k.same b (h.lrow.lt b hb).2 (h.mine b (.inr (.inr (.inr (.inl hb))))).1
  qrow:=ja8 h.qrow fun b hb => k.same b (h.qrow.lt b hb).2 (h.mine b (.inr (.inr (.inr (.inr hb))))).1
  lnew:=h.lnew
  look:=h.look
  told:=fun x hx => ⟨jky (h.told x hx).1 k,(h.told x hx).2⟩
  soft:=h.soft
  few:=h.few
  mine:=fun b hb => by
   have hlt : b < W.heap.size:=by
    rcases hb with rfl | rfl | hb | hb | hb
    ·omega
    ·omega
    ·omega
    ·exact (h.lrow.lt b hb).2
    ·exact (h.qrow.lt b hb).2
   refine ⟨fun e => ?_,fun e => ?_⟩
   ·rcases k.news b e with q | q
    ·exact (h.mine b hb).1 q
    ·omega
   ·rcases k.keeps b e with q | q
    ·exact (h.mine b hb).2 q
    ·omega
  onew:=fun b hb => by
   rcases k.news b hb with q | q
   ·exact h.onew b q
   ·omega }
theorem AsI.push {G : Pr → Que} {V : Pr → Prop} {w : World} {L0 : Nat} {lv qv : Value} {Y : List (Pr × Nat)} {pre : List Told} {t : Tags} {W w5 W6 : World} (h : AsI G V w L0 lv qv Y pre t W) (hrow : ∀ b,lv.ownBlock = some b ∨ qv.ownBlock = some b → b ≠ L0 + 2 ∧ b ≠ L0 + 3 ∧ b ≠ w.heap.size ∧ b ≠ w.heap.size + 1) {x : Told} {r : RV} (hc : Coll L0 pre.length lv qv (jcF (pre.map Told.p)) (jk2 G pre) #[.int .i64 x.p.1, .int .i64 x.p.2] (QC (G x.p) (x.v G)) W r w5) (f3 : r.f3 = true) (f7 : r.f7 = true) (f8 : r.f8 = true) (f9 : r.f9 = true)
  (hym : YMap W6 (L0 + 2) (ySet Y x.p 1)) (hs : W6.heap.size = w5.heap.size) (ho : ∀ b,b ≠ L0 + 2 → W6.heap[b]? = w5.heap[b]?) (hos : W6.os = w5.os ∧ W6.tape = w5.tape ∧ W6.output = w5.output) (hpx : ToldOk G V x t W) (hh : (G x.p).hard = false) (hn : pre.length ≠ 2000) (hk : ∀ b,t.own b ∨ t.kept b → b < W.heap.size) :
  KeepOwn t.kept W W6 ∧ AsI G V w L0 (.slice r.a55 (pre.length + 1) r.k55) (.slice r.a59 (pre.length + 1) r.k59) (ySet Y x.p 1) (pre ++ [x]) t W6:=by
 have still : ∀ b,b < W.heap.size → b ≠ L0 → b ≠ L0 + 1 → b ≠ L0 + 2 → lv.ownBlock ≠ some b → qv.ownBlock ≠ some b → W6.heap[b]? = W.heap[b]? := fun b h1 h2 h3 h4 h5 h6 => (ho b h4).trans (hc.old b h1 h2 h3 h5 h6)
 have hz : W.heap.size ≤ W6.heap.size:=by rw [hs];exact hc.size
 have s1 : L0 + 3 < W.heap.size:=ja0 h.yb
 have s0:=h.base
 have hl:=hc.lr' f3
 have hq:=hc.qr' f7
 have newB : ∀ b,jki w L0 (.slice r.a55 (pre.length + 1) r.k55) (.slice r.a59 (pre.length + 1) r.k59) b → jki w L0 lv qv b ∨ W.heap.size ≤ b:=fun b hb => by
  rcases hb with hb | hb | hb | hb | hb
  ·exact .inl (.inl hb)
  ·exact .inl (.inr (.inl hb))
  ·exact .inl (.inr (.inr (.inl hb)))
  ·rcases hl.2 with q | ⟨g,q,q2⟩
   ·exact .inl (.inr (.inr (.inr (.inl (q.symm.trans hb)))))
   ·rw [q] at hb;cases hb;exact .inr q2
  ·rcases hq.2 with q | ⟨g,q,q2⟩
   ·exact .inl (.inr (.inr (.inr (.inr (q.symm.trans hb)))))
   ·rw [q] at hb;cases hb;exact .inr q2
 have jcD : ∀ b,b < W.heap.size → ¬ jki w L0 lv qv b → W6.heap[b]? = W.heap[b]? := fun b hb hn => still b hb (fun e => hn (.inr (.inr (.inl (by omega))))) (fun e => hn (.inr (.inr (.inl (by omega))))) (fun e => hn (.inr (.inr (.inl (by omega))))) (fun e => hn (.inr (.inr (.inr (.inl e))))) (fun e => hn (.inr (.inr (.inr (.inr e)))))
 have rowne : ∀ b,((Value.slice r.a55 (pre.length + 1) r.k55).ownBlock = some b ∨ (Value.slice r.a59 (pre.length + 1) r.k59).ownBlock = some b) → b ≠ L0 + 2:=fun b hb e => by
  rcases hb with hb | hb
  ·rcases hl.2 with q | ⟨g,q,q2⟩
   ·exact (hrow b (.inl (q.symm.trans hb))).1 e
   ·rw [q] at hb;cases hb;omega
  ·rcases hq.2 with q | ⟨g,q,q2⟩
   ·exact (hrow b (.inr (q.symm.trans hb))).1 e
   ·rw [q] at hb;cases hb;omega
 refine ⟨⟨hos.1.trans hc.os,hos.2.1.trans hc.tape,hos.2.2.trans hc.output,hz,fun b hb => jcD b (hk b (.inr hb)) fun hm => (h.mine b hm).2 hb⟩,?_⟩
 exact {
  up:=⟨(hos.1.trans hc.os).trans h.up.os,(hos.2.1.trans hc.tape).trans h.up.tape,(hos.2.2.trans hc.output).trans h.up.output,Nat.le_trans h.up.size hz,fun b hb => (still b (Nat.lt_of_lt_of_le hb h.up.size) (by omega) (by omega) (by omega) (fun e => by have:=h.lnew b (.inl e);omega) (fun e => by have:=h.lnew b (.inr e);omega)).trans (h.up.block b hb)⟩
  base:=h.base
  b0:=(still _ (ja0 h.b0) (by omega) (by omega) (by omega) (fun e => (hrow _ (.inl e)).2.2.1 rfl) (fun e => (hrow _ (.inr e)).2.2.1 rfl)).trans h.b0
  b1:=(still _ (ja0 h.b1) (by omega) (by omega) (by omega) (fun e => (hrow _ (.inl e)).2.2.2 rfl) (fun e => (hrow _ (.inr e)).2.2.2 rfl)).trans h.b1
  lb:=by
   have q:=hc.lb
   rw [f8] at q
   exact (ho L0 (by omega)).trans q
  qb:=by
   have q:=hc.qb
   rw [f9] at q
   exact (ho (L0 + 1) (by omega)).trans q
  ym:=hym
  yb:=(still _ s1 (by omega) (by omega) (by omega) (fun e => (hrow _ (.inl e)).2.1 rfl) (fun e => (hrow _ (.inr e)).2.1 rfl)).trans h.yb
  lrow:=by
   rw [List.length_append,List.map_append,List.map_cons,List.map_nil,jdX]
   exact ja8 hl.1 fun b hb => ho b (rowne b (.inl hb))
  qrow:=by
   rw [List.length_append,jk1]
   exact ja8 hq.1 fun b hb => ho b (rowne b (.inr hb))
  lnew:=fun b hb => by
   have hws:=h.up.size
   rcases hb with hb | hb
   ·rcases hl.2 with q | ⟨g,q,q2⟩
    ·exact h.lnew b (.inl (q.symm.trans hb))
    ·rw [q] at hb;cases hb;omega
   ·rcases hq.2 with q | ⟨g,q,q2⟩
    ·exact h.lnew b (.inr (q.symm.trans hb))
    ·rw [q] at hb;cases hb;omega
  look:=fun p => by
   rw [jl5 h.ym.1,h.look p,List.map_append,List.map_cons,List.map_nil]
   by_cases hp : p = x.p
   ·subst hp;simp
   ·simp [hp]
  told:=fun y hy => by
   have step : ∀ {v : Value} {ps : List Pr},PairsAt (fun g => ¬ t.own g ∧ ¬ jki w L0 lv qv g) W v ps → PairsAt (fun g => ¬ t.own g ∧ ¬ jki w L0 (.slice r.a55 (pre.length + 1) r.k55) (.slice r.a59 (pre.length + 1) r.k59) g) W6 v ps:=fun hp => hp.keep hz fun g q1 q2 => ⟨⟨q1.1,fun e => by rcases newB g e with q | q;exact q1.2 q;omega⟩,fun i u hu => by
    simp only [World.cell?,jcD g q2 q1.2]
    exact hu⟩
   rcases List.mem_append.1 hy with q | q
   ·exact ⟨step (h.told y q).1,(h.told y q).2⟩
   ·simp at q
    subst q
    exact ⟨step (hpx.1.loose fun g q => ⟨q.1,fun hm => (h.mine g hm).2 q.2⟩),hpx.2⟩
  soft:=fun y hy => by
   rcases List.mem_append.1 hy with q | q
   ·exact h.soft y q
   ·simp at q;subst q;exact hh
  few:=by
   have:=h.few
   rw [List.length_append]
   simp
   omega
  mine:=fun b hb => by
   rcases newB b hb with q | q
   ·exact h.mine b q
   ·exact ⟨fun e => by have:=hk b (.inl e);omega,fun e => by have:=hk b (.inr e);omega⟩
  onew:=h.onew }
structure AsX (G : Pr → Que) (w : World) (ys : List Told) (t : Tags) (W : World) : Prop where
 up : Up w W
 b0 : W.heap[w.heap.size]? = some (.cells #[.bool false] BoT (0,0))
 b1 : W.heap[w.heap.size + 1]? = some (.cells #[.int .i64 9] ErT (0,0))
 why : 2000 < ys.length ∨ ∃ x ∈ ys,(G x.p).hard = true
 mine : ¬ t.own w.heap.size ∧ ¬ t.own (w.heap.size + 1)
 onew : ∀ b,t.own b → w.heap.size ≤ b
theorem AsX.step {G : Pr → Que} {w : World} {ys : List Told} {t t' : Tags} {W W' : World} (h : AsX G w ys t W) (k : Steps t t' W W') : AsX G w ys t' W' where
 up:=⟨k.os.trans h.up.os,k.tape.trans h.up.tape,k.output.trans h.up.output,Nat.le_trans h.up.size k.size,fun b hb => (k.same b (Nat.lt_of_lt_of_le hb h.up.size) (fun e => by have:=h.onew b e;omega)).trans (h.up.block b hb)⟩
 b0:=(k.same _ (ja0 h.b0) h.mine.1).trans h.b0
 b1:=(k.same _ (ja0 h.b1) h.mine.2).trans h.b1
 why:=h.why
 mine:=⟨fun e => by rcases k.news _ e with q | q;exact h.mine.1 q;have:=ja0 h.b0;omega,fun e => by rcases k.news _ e with q | q;exact h.mine.2 q;have:=ja0 h.b1;omega⟩
 onew b hb:=by
  rcases k.news b hb with q | q
  ·exact h.onew b q
  ·exact Nat.le_trans h.up.size q
end Go.Proofs.YtiaepldmgighbaaGreatDoor
namespace Go.Proofs.YtiaepldmgighbaaGreatDoor
open Go.RowKit
set_option linter.unusedSimpArgs false
attribute [local go_sem] Oper.semAt_some
end Go.Proofs.YtiaepldmgighbaaGreatDoor
namespace Go.Proofs.YtiaepldmgighbaaGreatDoor
open Go.RowKit
set_option linter.unusedSimpArgs false
attribute [local go_sem] Oper.semAt_some
structure PaI (w : World) (N0 most c : Nat) (t : Tags) (W : World) : Prop where
 up : Up w W
 lt : w.heap.size < N0
 mb : W.heap[w.heap.size]? = some (.cells #[.int .i64 most] IntT (0,0))
 nb : W.heap[N0]? = some (.cells #[.int .i64 c] IntT (0,0))
 le : c ≤ most
 mine : ∀ b,b = w.heap.size ∨ b = N0 → ¬ t.own b ∧ ¬ t.kept b
 onew : ∀ b,t.own b → w.heap.size ≤ b
theorem PaI.step {w : World} {N0 most c : Nat} {t t' : Tags} {W W' : World} (h : PaI w N0 most c t W) (k : Steps t t' W W') : PaI w N0 most c t' W' where
 up:=⟨k.os.trans h.up.os,k.tape.trans h.up.tape,k.output.trans h.up.output,Nat.le_trans h.up.size k.size,fun b hb => (k.same b (Nat.lt_of_lt_of_le hb h.up.size) (fun e => by have:=h.onew b e;omega)).trans (h.up.block b hb)⟩
 lt:=h.lt
 mb:=(k.same _ (ja0 h.mb) (h.mine _ (.inl rfl)).1).trans h.mb
 nb:=(k.same _ (ja0 h.nb) (h.mine _ (.inr rfl)).1).trans h.nb
 le:=h.le
 mine b hb:=by
  have hlt : b < W.heap.size:=by
   rcases hb with rfl | rfl
   ·exact ja0 h.mb
   ·exact ja0 h.nb
  refine ⟨fun e => ?_,fun e => ?_⟩
  ·rcases k.news b e with q | q
   ·exact (h.mine b hb).1 q
   ·omega
  ·rcases k.keeps b e with q | q
   ·exact (h.mine b hb).2 q
   ·omega
 onew b hb:=by
  rcases k.news b hb with q | q
  ·exact h.onew b q
  ·exact Nat.le_trans h.up.size q
end Go.Proofs.YtiaepldmgighbaaGreatDoor
