import Derived.Test.YtiaepldmgighbaaGreatDoorM39
import Derived.Test.YtiaepldmgighbaaGreatDoorM10
namespace Go.Proofs.YtiaepldmgighbaaGreatDoor
open Go.RowKit
set_option linter.unusedSimpArgs false
attribute [local go_sem] Oper.semAt_some
abbrev BoT : TypeId := 4
abbrev ErT : TypeId := 22
def LenAny (A N : Nat) (kept : Nat → Prop) (w : World) : Prop := N ≤ 1000000 ∧ ∀ W, KeepOwn kept w W → Calls Tryz.prog 45 #[.pointer (some ⟨A, 0, none⟩)] W fun e W' => e = .returned (.int .i64 N) ∧ Up W W'
theorem AsksAny.mono {A : Nat} {G : Pr → Que} {V : Pr → Prop} {kept kept' : Nat → Prop} {w : World} (h : AsksAny A G V kept w) (k : ∀ b, kept b → kept' b) : AsksAny A G V kept' w := ⟨h.1, fun p hp W hW => h.2 p hp W (hW.mono k)⟩
def MineB (w : World) (L0 : Nat) (lv qv : Value) (b : Nat) : Prop := b = w.heap.size ∨ b = w.heap.size + 1 ∨ (L0 ≤ b ∧ b ≤ L0 + 3) ∨ lv.ownBlock = some b ∨ qv.ownBlock = some b
structure AsI (G : Pr → Que) (V : Pr → Prop) (w : World) (L0 : Nat) (lv qv : Value) (Y : List (Pr × Nat)) (ys : List Told) (t : Tags) (W : World) : Prop where
 up : Up w W
 base : w.heap.size + 2 ≤ L0
 b0 : W.heap[w.heap.size]? = some (.cells #[.bool false] BoT (0, 0))
 b1 : W.heap[w.heap.size + 1]? = some (.cells #[.int .i64 0] ErT (0, 0))
 lb : W.heap[L0]? = some (.cells #[lv] LpT (0, 0))
 qb : W.heap[L0 + 1]? = some (.cells #[qv] LqT (0, 0))
 ym : YMap W (L0 + 2) Y
 yb : W.heap[L0 + 3]? = some (.cells #[.map (some (L0 + 2))] MpT (0, 0))
 lrow : W.ownsRow 0 PairT 2 lv ys.length (flatP (ys.map Told.p))
 qrow : W.ownsRow 0 QueT 5 qv ys.length (flatQ G ys)
 lnew : ∀ b, lv.ownBlock = some b ∨ qv.ownBlock = some b → w.heap.size ≤ b
 look : ∀ p, look Y p = if p ∈ ys.map Told.p then 1 else 0
 told : ∀ x ∈ ys, PairsAt (fun g => ¬ t.own g ∧ ¬ MineB w L0 lv qv g) W (x.v G) (G x.p).pairs ∧ V x.p
 soft : ∀ x ∈ ys, (G x.p).hard = false
 few : ys.length ≤ 2000
 mine : ∀ b, (b = w.heap.size ∨ b = w.heap.size + 1 ∨ (L0 ≤ b ∧ b ≤ L0 + 3) ∨ lv.ownBlock = some b ∨ qv.ownBlock = some b) → ¬ t.own b ∧ ¬ t.kept b
 onew : ∀ b, t.own b → w.heap.size ≤ b
theorem told_step {B : Nat → Prop} {v : Value} {ps : List Pr} {t t' : Tags} {W W' : World} (h : PairsAt (fun g => ¬ t.own g ∧ B g) W v ps) (k : Steps t t' W W') : PairsAt (fun g => ¬ t'.own g ∧ B g) W' v ps :=
 h.keep k.size fun g q1 q2 => ⟨⟨fun e => by rcases k.news g e with q | q; exact q1.1 q; omega, q1.2⟩, fun i u hu => by
   simp only [World.cell?, k.same g q2 q1.1]
   exact hu⟩
theorem told_put {G : Pr → Que} {V : Pr → Prop} {x : Told} {t t' : Tags} {W : World} {l : Nat} {o o' : Obj} (hl : W.heap[l]? = some o) (hc : o.isCells = false) (hn : ∀ b, t'.own b → t.own b ∨ ∃ o, W.heap[b]? = some o ∧ o.isCells = false) (hk : ∀ b, t.kept b → t'.kept b) (h : ToldOk G V x t W) : ToldOk G V x t' (W.putObj l o') :=
 ⟨h.1.keepC (by simp) fun g q1 q2 q3 => by
     obtain ⟨i0, u0, hu0⟩ := q3
     have hgl : g ≠ l := fun e => by
       rw [e] at hu0
       cases o <;> first | (simp [World.cell?, hl] at hu0; done) | cases hc
     refine ⟨⟨fun e => ?_, hk g q1.2⟩, fun i u hu => ?_⟩
     · rcases hn g e with q | ⟨o2, q, qc⟩
       · exact q1.1 q
       · cases o2 <;> first | (simp [World.cell?, q] at hu0; done) | cases qc
     · simp only [World.cell?, World.putObj_heap_other hgl]
       exact hu, h.2⟩
theorem AsI.step {G : Pr → Que} {V : Pr → Prop} {w : World} {L0 : Nat} {lv qv : Value} {Y : List (Pr × Nat)} {ys : List Told} {t t' : Tags} {W W' : World} (h : AsI G V w L0 lv qv Y ys t W) (k : Steps t t' W W') : AsI G V w L0 lv qv Y ys t' W' := by
 have g : ∀ b o, (b = w.heap.size ∨ b = w.heap.size + 1 ∨ (L0 ≤ b ∧ b ≤ L0 + 3) ∨ lv.ownBlock = some b ∨ qv.ownBlock = some b) → W.heap[b]? = some o → W'.heap[b]? = some o := fun b o hb ho => (k.same b (lt_of_heap ho) (h.mine b hb).1).trans ho
 have s1 : L0 + 3 < W.heap.size := lt_of_heap h.yb
 have s0 := h.base
 exact {
   up := ⟨k.os.trans h.up.os, k.tape.trans h.up.tape, k.output.trans h.up.output, Nat.le_trans h.up.size k.size, fun b hb => (k.same b (Nat.lt_of_lt_of_le hb h.up.size) (fun e => by have := h.onew b e; omega)).trans (h.up.block b hb)⟩
   base := h.base
   b0 := g _ _ (.inl rfl) h.b0
   b1 := g _ _ (.inr (.inl rfl)) h.b1
   lb := g _ _ (.inr (.inr (.inl ⟨Nat.le_refl _, by omega⟩))) h.lb
   qb := g _ _ (.inr (.inr (.inl ⟨by omega, by omega⟩))) h.qb
   ym := h.ym.keep (k.same _ (by omega) (h.mine _ (.inr (.inr (.inl ⟨by omega, by omega⟩)))).1)
   yb := g _ _ (.inr (.inr (.inl ⟨by omega, by omega⟩))) h.yb
   lrow := ownsRow_keep h.lrow fun b hb => k.same b (h.lrow.lt b hb).2 (h.mine b (.inr (.inr (.inr (.inl hb))))).1
   qrow := ownsRow_keep h.qrow fun b hb => k.same b (h.qrow.lt b hb).2 (h.mine b (.inr (.inr (.inr (.inr hb))))).1
   lnew := h.lnew
   look := h.look
   told := fun x hx => ⟨told_step (h.told x hx).1 k, (h.told x hx).2⟩
   soft := h.soft
   few := h.few
   mine := fun b hb => by
     have hlt : b < W.heap.size := by
       rcases hb with rfl | rfl | hb | hb | hb
       · omega
       · omega
       · omega
       · exact (h.lrow.lt b hb).2
       · exact (h.qrow.lt b hb).2
     refine ⟨fun e => ?_, fun e => ?_⟩
     · rcases k.news b e with q | q
       · exact (h.mine b hb).1 q
       · omega
     · rcases k.keeps b e with q | q
       · exact (h.mine b hb).2 q
       · omega
   onew := fun b hb => by
     rcases k.news b hb with q | q
     · exact h.onew b q
     · omega }
theorem AsI.push {G : Pr → Que} {V : Pr → Prop} {w : World} {L0 : Nat} {lv qv : Value} {Y : List (Pr × Nat)} {pre : List Told} {t : Tags} {W w5 W6 : World} (h : AsI G V w L0 lv qv Y pre t W) (hrow : ∀ b, lv.ownBlock = some b ∨ qv.ownBlock = some b → b ≠ L0 + 2 ∧ b ≠ L0 + 3 ∧ b ≠ w.heap.size ∧ b ≠ w.heap.size + 1) {x : Told} {r : RV} (hc : Coll L0 pre.length lv qv (flatP (pre.map Told.p)) (flatQ G pre) #[.int .i64 x.p.1, .int .i64 x.p.2] (QC (G x.p) (x.v G)) W r w5) (f3 : r.f3 = true) (f7 : r.f7 = true) (f8 : r.f8 = true) (f9 : r.f9 = true)
   (hym : YMap W6 (L0 + 2) (ySet Y x.p 1)) (hs : W6.heap.size = w5.heap.size) (ho : ∀ b, b ≠ L0 + 2 → W6.heap[b]? = w5.heap[b]?) (hos : W6.os = w5.os ∧ W6.tape = w5.tape ∧ W6.output = w5.output) (hpx : ToldOk G V x t W) (hh : (G x.p).hard = false) (hn : pre.length ≠ 2000) (hk : ∀ b, t.own b ∨ t.kept b → b < W.heap.size) :
   KeepOwn t.kept W W6 ∧ AsI G V w L0 (.slice r.a55 (pre.length + 1) r.k55) (.slice r.a59 (pre.length + 1) r.k59) (ySet Y x.p 1) (pre ++ [x]) t W6 := by
 have still : ∀ b, b < W.heap.size → b ≠ L0 → b ≠ L0 + 1 → b ≠ L0 + 2 → lv.ownBlock ≠ some b → qv.ownBlock ≠ some b → W6.heap[b]? = W.heap[b]? := fun b h1 h2 h3 h4 h5 h6 => (ho b h4).trans (hc.old b h1 h2 h3 h5 h6)
 have hz : W.heap.size ≤ W6.heap.size := by rw [hs]; exact hc.size
 have s1 : L0 + 3 < W.heap.size := lt_of_heap h.yb
 have s0 := h.base
 have hl := hc.lr' f3
 have hq := hc.qr' f7
 have newB : ∀ b, MineB w L0 (.slice r.a55 (pre.length + 1) r.k55) (.slice r.a59 (pre.length + 1) r.k59) b → MineB w L0 lv qv b ∨ W.heap.size ≤ b := fun b hb => by
   rcases hb with hb | hb | hb | hb | hb
   · exact .inl (.inl hb)
   · exact .inl (.inr (.inl hb))
   · exact .inl (.inr (.inr (.inl hb)))
   · rcases hl.2 with q | ⟨g, q, q2⟩
     · exact .inl (.inr (.inr (.inr (.inl (q.symm.trans hb)))))
     · rw [q] at hb; cases hb; exact .inr q2
   · rcases hq.2 with q | ⟨g, q, q2⟩
     · exact .inl (.inr (.inr (.inr (.inr (q.symm.trans hb)))))
     · rw [q] at hb; cases hb; exact .inr q2
 have keepB : ∀ b, b < W.heap.size → ¬ MineB w L0 lv qv b → W6.heap[b]? = W.heap[b]? := fun b hb hn => still b hb (fun e => hn (.inr (.inr (.inl (by omega))))) (fun e => hn (.inr (.inr (.inl (by omega))))) (fun e => hn (.inr (.inr (.inl (by omega))))) (fun e => hn (.inr (.inr (.inr (.inl e))))) (fun e => hn (.inr (.inr (.inr (.inr e)))))
 have rowne : ∀ b, ((Value.slice r.a55 (pre.length + 1) r.k55).ownBlock = some b ∨ (Value.slice r.a59 (pre.length + 1) r.k59).ownBlock = some b) → b ≠ L0 + 2 := fun b hb e => by
   rcases hb with hb | hb
   · rcases hl.2 with q | ⟨g, q, q2⟩
     · exact (hrow b (.inl (q.symm.trans hb))).1 e
     · rw [q] at hb; cases hb; omega
   · rcases hq.2 with q | ⟨g, q, q2⟩
     · exact (hrow b (.inr (q.symm.trans hb))).1 e
     · rw [q] at hb; cases hb; omega
 refine ⟨⟨hos.1.trans hc.os, hos.2.1.trans hc.tape, hos.2.2.trans hc.output, hz, fun b hb => keepB b (hk b (.inr hb)) fun hm => (h.mine b hm).2 hb⟩, ?_⟩
 exact {
   up := ⟨(hos.1.trans hc.os).trans h.up.os, (hos.2.1.trans hc.tape).trans h.up.tape, (hos.2.2.trans hc.output).trans h.up.output, Nat.le_trans h.up.size hz, fun b hb => (still b (Nat.lt_of_lt_of_le hb h.up.size) (by omega) (by omega) (by omega) (fun e => by have := h.lnew b (.inl e); omega) (fun e => by have := h.lnew b (.inr e); omega)).trans (h.up.block b hb)⟩
   base := h.base
   b0 := (still _ (lt_of_heap h.b0) (by omega) (by omega) (by omega) (fun e => (hrow _ (.inl e)).2.2.1 rfl) (fun e => (hrow _ (.inr e)).2.2.1 rfl)).trans h.b0
   b1 := (still _ (lt_of_heap h.b1) (by omega) (by omega) (by omega) (fun e => (hrow _ (.inl e)).2.2.2 rfl) (fun e => (hrow _ (.inr e)).2.2.2 rfl)).trans h.b1
   lb := by
     have q := hc.lb
     rw [f8] at q
     exact (ho L0 (by omega)).trans q
   qb := by
     have q := hc.qb
     rw [f9] at q
     exact (ho (L0 + 1) (by omega)).trans q
   ym := hym
   yb := (still _ s1 (by omega) (by omega) (by omega) (fun e => (hrow _ (.inl e)).2.1 rfl) (fun e => (hrow _ (.inr e)).2.1 rfl)).trans h.yb
   lrow := by
     rw [List.length_append, List.map_append, List.map_cons, List.map_nil, flatP_snoc]
     exact ownsRow_keep hl.1 fun b hb => ho b (rowne b (.inl hb))
   qrow := by
     rw [List.length_append, flatQ_snoc]
     exact ownsRow_keep hq.1 fun b hb => ho b (rowne b (.inr hb))
   lnew := fun b hb => by
     have hws := h.up.size
     rcases hb with hb | hb
     · rcases hl.2 with q | ⟨g, q, q2⟩
       · exact h.lnew b (.inl (q.symm.trans hb))
       · rw [q] at hb; cases hb; omega
     · rcases hq.2 with q | ⟨g, q, q2⟩
       · exact h.lnew b (.inr (q.symm.trans hb))
       · rw [q] at hb; cases hb; omega
   look := fun p => by
     rw [look_ySet h.ym.1, h.look p, List.map_append, List.map_cons, List.map_nil]
     by_cases hp : p = x.p
     · subst hp; simp
     · simp [hp]
   told := fun y hy => by
     have step : ∀ {v : Value} {ps : List Pr}, PairsAt (fun g => ¬ t.own g ∧ ¬ MineB w L0 lv qv g) W v ps → PairsAt (fun g => ¬ t.own g ∧ ¬ MineB w L0 (.slice r.a55 (pre.length + 1) r.k55) (.slice r.a59 (pre.length + 1) r.k59) g) W6 v ps := fun hp => hp.keep hz fun g q1 q2 => ⟨⟨q1.1, fun e => by rcases newB g e with q | q; exact q1.2 q; omega⟩, fun i u hu => by
       simp only [World.cell?, keepB g q2 q1.2]
       exact hu⟩
     rcases List.mem_append.1 hy with q | q
     · exact ⟨step (h.told y q).1, (h.told y q).2⟩
     · simp at q
       subst q
       exact ⟨step (hpx.1.loose fun g q => ⟨q.1, fun hm => (h.mine g hm).2 q.2⟩), hpx.2⟩
   soft := fun y hy => by
     rcases List.mem_append.1 hy with q | q
     · exact h.soft y q
     · simp at q; subst q; exact hh
   few := by
     have := h.few
     rw [List.length_append]
     simp
     omega
   mine := fun b hb => by
     rcases newB b hb with q | q
     · exact h.mine b q
     · exact ⟨fun e => by have := hk b (.inl e); omega, fun e => by have := hk b (.inr e); omega⟩
   onew := h.onew }
structure AsX (G : Pr → Que) (w : World) (ys : List Told) (t : Tags) (W : World) : Prop where
 up : Up w W
 b0 : W.heap[w.heap.size]? = some (.cells #[.bool false] BoT (0, 0))
 b1 : W.heap[w.heap.size + 1]? = some (.cells #[.int .i64 9] ErT (0, 0))
 why : 2000 < ys.length ∨ ∃ x ∈ ys, (G x.p).hard = true
 mine : ¬ t.own w.heap.size ∧ ¬ t.own (w.heap.size + 1)
 onew : ∀ b, t.own b → w.heap.size ≤ b
theorem AsX.step {G : Pr → Que} {w : World} {ys : List Told} {t t' : Tags} {W W' : World} (h : AsX G w ys t W) (k : Steps t t' W W') : AsX G w ys t' W' where
 up := ⟨k.os.trans h.up.os, k.tape.trans h.up.tape, k.output.trans h.up.output, Nat.le_trans h.up.size k.size, fun b hb => (k.same b (Nat.lt_of_lt_of_le hb h.up.size) (fun e => by have := h.onew b e; omega)).trans (h.up.block b hb)⟩
 b0 := (k.same _ (lt_of_heap h.b0) h.mine.1).trans h.b0
 b1 := (k.same _ (lt_of_heap h.b1) h.mine.2).trans h.b1
 why := h.why
 mine := ⟨fun e => by rcases k.news _ e with q | q; exact h.mine.1 q; have := lt_of_heap h.b0; omega, fun e => by rcases k.news _ e with q | q; exact h.mine.2 q; have := lt_of_heap h.b1; omega⟩
 onew b hb := by
   rcases k.news b hb with q | q
   · exact h.onew b q
   · exact Nat.le_trans h.up.size q
def AssignedQ (G : Pr → Que) (p : Pr) (b : Bool) (er : Int) : Prop :=
 (er = 0 ∧ (reachL G 2000 p).length ≤ 2000 ∧ (∀ q ∈ reachL G 2000 p, (G q).hard = false) ∧ (b = true ↔ Gfp G p)) ∨ (er = 9 ∧ b = false ∧ (2000 < (reachL G 2000 p).length ∨ ∃ q ∈ reachL G 2000 p, (G q).hard = true))
theorem AsI.leave {G : Pr → Que} {V : Pr → Prop} {w : World} {L0 : Nat} {lv qv : Value} {Y : List (Pr × Nat)} {ys ys' : List Told} {t : Tags} {W : World} (h : AsI G V w L0 lv qv Y ys t W) (why : 2000 < ys'.length ∨ ∃ x ∈ ys', (G x.p).hard = true) :
   KeepOwn t.kept W ((W.setCell ⟨w.heap.size, 0, none⟩ (.bool false)).setCell ⟨w.heap.size + 1, 0, none⟩ (.int .i64 9)) ∧ AsX G w ys' t ((W.setCell ⟨w.heap.size, 0, none⟩ (.bool false)).setCell ⟨w.heap.size + 1, 0, none⟩ (.int .i64 9)) := by
 have m0 := h.mine _ (.inl rfl)
 have m1 := h.mine _ (.inr (.inl rfl))
 refine ⟨⟨rfl, rfl, rfl, by simp only [setCell_size]; exact Nat.le_refl _, fun b hb => ?_⟩, (h.up.setCell (Nat.le_refl _) _).setCell (Nat.le_succ _) _, ?_, ?_, why, ⟨m0.1, m1.1⟩, h.onew⟩
 · rw [setCell_other (fun e => m1.2 (by rw [← e]; exact hb)), setCell_other (fun e => m0.2 (by rw [← e]; exact hb))]
 · rw [setCell_other (by omega)]
   exact setCell_block (i := 0) h.b0 _
 · exact setCell_block (i := 0) ((setCell_other (by omega) _).trans h.b1) _
structure Rn (G : Pr → Que) (w : World) (L0 : Nat) (lv qv : Value) (ys : List Told) (D : Nat) (Y : List (Pr × Nat)) (W : World) : Prop where
 up : Up w W
 base : w.heap.size + 2 ≤ L0
 b0 : W.heap[w.heap.size]? = some (.cells #[.bool false] BoT (0, 0))
 b1 : W.heap[w.heap.size + 1]? = some (.cells #[.int .i64 0] ErT (0, 0))
 lb : W.heap[L0]? = some (.cells #[lv] LpT (0, 0))
 qb : W.heap[L0 + 1]? = some (.cells #[qv] LqT (0, 0))
 ym : YMap W (L0 + 2) Y
 yb : W.heap[L0 + 3]? = some (.cells #[.map (some (L0 + 2))] MpT (0, 0))
 lrow : W.ownsRow 0 PairT 2 lv ys.length (flatP (ys.map Told.p))
 qrow : W.ownsRow 0 QueT 5 qv ys.length (flatQ G ys)
 told : ∀ x ∈ ys, PairsAt (fun g => g ≠ L0 + 2) W (x.v G) (G x.p).pairs
 mark : w.heap.size ≤ D ∧ W.heap[D]? = some (.deferred (some []))
 sub : ∀ p, look Y p = 1 → p ∈ ys.map Told.p
 gfp : ∀ p ∈ ys.map Told.p, Gfp G p → look Y p = 1
 rows : ∀ b, lv.ownBlock = some b ∨ qv.ownBlock = some b → b ≠ L0 + 2
theorem Rn.up' {G : Pr → Que} {w : World} {L0 : Nat} {lv qv : Value} {ys : List Told} {D : Nat} {Y : List (Pr × Nat)} {W W' : World} (h : Rn G w L0 lv qv ys D Y W) (u : Up W W') : Rn G w L0 lv qv ys D Y W' where
 up := h.up.trans u
 base := h.base
 b0 := u.get h.b0
 b1 := u.get h.b1
 lb := u.get h.lb
 qb := u.get h.qb
 ym := h.ym.up u
 yb := u.get h.yb
 lrow := ownsRow_up h.lrow u
 qrow := ownsRow_up h.qrow u
 told x hx := (h.told x hx).up u
 mark := ⟨h.mark.1, u.get h.mark.2⟩
 sub := h.sub
 gfp := h.gfp
 rows := h.rows
theorem Rn.strike {G : Pr → Que} {w : World} {L0 : Nat} {lv qv : Value} {ys : List Told} {D : Nat} {Y : List (Pr × Nat)} {W W' : World} (h : Rn G w L0 lv qv ys D Y W) {p : Pr} (hcl : ∀ p ∈ ys.map Told.p, ∀ q ∈ (G p).pairs, q ∈ ys.map Told.p) (hp : p ∈ ys.map Told.p) (hn : holdsB (G p) (fun q => decide (look Y q = 1)) = false)
   (hym : YMap W' (L0 + 2) (ySet Y p 0)) (hs : W'.heap.size = W.heap.size) (ho : ∀ b, b ≠ L0 + 2 → W'.heap[b]? = W.heap[b]?) (hos : W'.os = W.os ∧ W'.tape = W.tape ∧ W'.output = W.output) : Rn G w L0 lv qv ys D (ySet Y p 0) W' := by
 have hb := h.base
 have nm : ∀ (b : Nat) (o : Obj), W.heap[b]? = some o → (∀ es clk, o ≠ .map es clk) → b ≠ L0 + 2 := fun b o hb hne e => by
   obtain ⟨_, es, clk, q, _⟩ := h.ym
   rw [e, q] at hb
   cases hb
   exact hne _ _ rfl
 exact {
   up := ⟨hos.1.trans h.up.os, hos.2.1.trans h.up.tape, hos.2.2.trans h.up.output, by rw [hs]; exact h.up.size, fun b hb' => (ho b (by omega)).trans (h.up.block b hb')⟩
   base := h.base
   b0 := (ho _ (by omega)).trans h.b0
   b1 := (ho _ (by omega)).trans h.b1
   lb := (ho _ (by omega)).trans h.lb
   qb := (ho _ (by omega)).trans h.qb
   ym := hym
   yb := (ho _ (by omega)).trans h.yb
   lrow := ownsRow_keep h.lrow fun b hb => ho b (h.rows b (.inl hb))
   qrow := ownsRow_keep h.qrow fun b hb => ho b (h.rows b (.inr hb))
   told := fun x hx => (h.told x hx).keep (by rw [hs]; exact Nat.le_refl _) fun g q1 _ => ⟨q1, fun i u hu => by
     simp only [World.cell?, ho g q1]
     exact hu⟩
   mark := ⟨h.mark.1, (ho _ (nm _ _ h.mark.2 (fun _ _ e => by cases e))).trans h.mark.2⟩
   sub := fun q hq => by
     rw [look_ySet h.ym.1] at hq
     by_cases e : q = p
     · rw [if_pos e] at hq; cases hq
     · rw [if_neg e] at hq; exact h.sub q hq
   gfp := fun q hq hg => by
     rw [look_ySet h.ym.1]
     by_cases e : q = p
     · subst e
       have := gfp_holds (f := fun q => decide (look Y q = 1)) hcl (fun z hz hgz => by simpa using h.gfp z hz hgz) hq hg
       rw [hn] at this
       cases this
     · rw [if_neg e]; exact h.gfp q hq hg
   rows := h.rows }
theorem AsI.rounds {G : Pr → Que} {V : Pr → Prop} {w : World} {L0 : Nat} {lv qv : Value} {Y : List (Pr × Nat)} {ys : List Told} {t : Tags} {W : World} {D : Nat} (h : AsI G V w L0 lv qv Y ys t W) (hD : w.heap.size ≤ D ∧ W.heap[D]? = some (.deferred (some []))) : Rn G w L0 lv qv ys D Y W := by
 have nr : ∀ b, lv.ownBlock = some b ∨ qv.ownBlock = some b → b ≠ L0 + 2 := fun b hb e => by
   obtain ⟨_, es, clk, q, _⟩ := h.ym
   rcases hb with hb | hb
   · rcases h.lrow.2 with ⟨hv, _⟩ | ⟨g', cap', cur, hv, _, hc, _⟩
     · rw [hv] at hb; cases hb
     · rw [hv] at hb; cases hb
       have e : g' = L0 + 2 := e
       rw [e, q] at hc; cases hc
   · rcases h.qrow.2 with ⟨hv, _⟩ | ⟨g', cap', cur, hv, _, hc, _⟩
     · rw [hv] at hb; cases hb
     · rw [hv] at hb; cases hb
       have e : g' = L0 + 2 := e
       rw [e, q] at hc; cases hc
 have sb : ∀ p, Go.Proofs.YtiaepldmgighbaaGreatDoor.look Y p = 1 → p ∈ ys.map Told.p := fun p hp => by
   rw [h.look p] at hp
   by_cases e : p ∈ ys.map Told.p
   · exact e
   · rw [if_neg e] at hp
     cases hp
 exact ⟨h.up, h.base, h.b0, h.b1, h.lb, h.qb, h.ym, h.yb, h.lrow, h.qrow, fun x hx => (h.told x hx).1.loose fun g q e => q.2 (.inr (.inr (.inl (by omega)))), hD, sb, (fun p hp _ => by rw [h.look p, if_pos hp]), nr⟩
end Go.Proofs.YtiaepldmgighbaaGreatDoor
namespace Go.Proofs.YtiaepldmgighbaaGreatDoor
open Go.RowKit
set_option linter.unusedSimpArgs false
attribute [local go_sem] Oper.semAt_some
set_option maxRecDepth 100000 in
set_option maxHeartbeats 6400000 in
theorem Assignable_any (A N x y : Nat) (G : Pr → Que) (V : Pr → Prop) (w : World) (hA : AsksAny A G V (fun b => b < w.heap.size) w) (hL : LenAny A N (fun b => b < w.heap.size) w) (hV : V (x, y)) (hx : x < N) (hy : y < N) :
   Calls Tryz.prog 16 #[.pointer (some ⟨A, 0, none⟩), .int .i64 x, .int .i64 y] w fun e w' => ∃ (b : Bool) (er : Int), e = .returned (.tuple #[.bool b, .int .i64 er]) ∧ Up w w' ∧ AssignedQ G (x, y) b er := by
 have HA := Lib.hid (And.intro hA (And.intro hL hV))
 have hxi : (x : Int) < N := by omega
 have hyi : (y : Int) < N := by omega
 clear hA hL hV
 have hmm := @run_makeMap Tryz.prog
 refine callsIn_wide.1 (callsIn_of_wp_marks (n := 2) Tryz.func16 rfl trivial ?_)
 refine wpIn_wide.2 ?_
 simp only [Tryz.ntmps16, List.size_toArray, List.length_cons, List.length_nil, Nat.reduceAdd, Nat.reduceSub, Array.replicate_succ, Array.replicate_zero, List.push_toArray, List.append_toArray, List.nil_append, List.cons_append]
 go_wp2_with fail
 refine wp_scope_straight ?_
 go_wp2_with (first | (go_at_call 45; refine (HA.out.2.1.2 _ (.up uq fun b hb => hb)).mono ?_; rintro e w2 ⟨rfl, hu2⟩) | (go_at_call 46; have hw2 : Hid (Up ((w.alloc (.cells #[.bool false] BoT)).alloc (.cells #[.int .i64 0] ErT)) w2) := (show Up ((w.alloc (.cells #[.bool false] BoT)).alloc (.cells #[.int .i64 0] ErT)) w2 from uq); refine (reached_any A x y 2000 _).mono ?_; rintro e w3 ⟨fb, mb, kb, rfl, hfb, hmb, hkb, hfl, hml, hkl, hu3⟩))
 refine range_named fun A2 W2 hA2 hW2 => ?_
 subst hW2
 have e4 : ((((w2.alloc (.cells #[.slice none 0 0] LpT)).alloc (.cells #[.slice none 0 0] LqT)).alloc (.map #[] 0)).alloc (.cells #[.map (some (w2.heap.size + 1 + 1))] MpT)).heap.size = w2.heap.size + 4 := by simp
 rw [e4] at hfl hml hkl
 have hs2 : w.heap.size + 2 ≤ w2.heap.size := by
   have := hw2.out.size
   simp only [World.size_alloc] at this
   omega
 have l0 : W2.heap[w2.heap.size]? = some (.cells #[.slice none 0 0] LpT (0, 0)) := hu3.get ((alloc_old _ _ _ (by simp <;> omega)).trans ((alloc_old _ _ _ (by simp <;> omega)).trans ((alloc_old _ _ _ (by simp)).trans (alloc_get _ _))))
 have l1 : W2.heap[w2.heap.size + 1]? = some (.cells #[.slice none 0 0] LqT (0, 0)) := hu3.get ((alloc_old _ _ _ (by simp <;> omega)).trans ((alloc_old _ _ _ (by simp <;> omega)).trans (alloc_at _ _ _ (by simp))))
 have l2 : W2.heap[w2.heap.size + 2]? = some (.map #[] 0) := hu3.get ((alloc_old _ _ _ (by simp <;> omega)).trans (alloc_at _ _ _ (by simp)))
 have l3 : W2.heap[w2.heap.size + 3]? = some (.cells #[.map (some (w2.heap.size + 1 + 1))] MpT (0, 0)) := hu3.get (alloc_at _ _ _ (by simp))
 have u0 : Up w2 W2 := Up.trans uq hu3
 have d0 : W2.heap[w.heap.size]? = some (.cells #[.bool false] BoT (0, 0)) := u0.get (hw2.out.get ((alloc_old _ _ _ (by simp)).trans (alloc_get _ _)))
 have d1 : W2.heap[w.heap.size + 1]? = some (.cells #[.int .i64 0] ErT (0, 0)) := u0.get (hw2.out.get (alloc_at _ _ _ (by simp)))
 have hw : Up w W2 := Up.trans (Up.trans uq hw2.out) u0
 obtain ⟨L0, hL0⟩ : ∃ L0, w2.heap.size = L0 := ⟨_, rfl⟩
 rw [show w2.heap.size + 1 + 1 = w2.heap.size + 2 by omega] at l3
 rw [hL0] at hfl hml hkl hs2 l0 l1 l2 l3
 obtain ⟨t0, ht0⟩ : ∃ t0 : Tags, t0 = ⟨fun _ => False, fun b => b < w.heap.size ∨ b = fb ∨ b = mb ∨ b = kb⟩ := ⟨_, rfl⟩
 have h0 : AsI G V w L0 (.slice none 0 0) (.slice none 0 0) [] [] t0 W2 := by
   subst ht0
   exact {
     up := hw
     base := hs2
     b0 := d0
     b1 := d1
     lb := l0
     qb := l1
     ym := ⟨by simp, #[], 0, l2, rfl⟩
     yb := l3
     lrow := ⟨rfl, .inl ⟨rfl, rfl⟩⟩
     qrow := ⟨rfl, .inl ⟨rfl, rfl⟩⟩
     lnew := fun b hb => by rcases hb with hb | hb <;> cases hb
     look := fun p => by simp [look]
     told := fun x hx => by cases hx
     soft := fun x hx => by cases hx
     few := by simp
     mine := fun b hb => ⟨fun e => e, fun e => by
       have a1 : b = w.heap.size ∨ b = w.heap.size + 1 ∨ (L0 ≤ b ∧ b ≤ L0 + 3) := by
         rcases hb with hb | hb | hb | hb | hb
         · exact .inl hb
         · exact .inr (.inl hb)
         · exact .inr (.inr hb)
         · cases hb
         · cases hb
       rcases e with e | e | e | e <;> omega⟩
     onew := fun b hb => hb.elim }
 have H0 := Lib.hid h0
 have hkept : ∀ b, t0.own b ∨ t0.kept b → b < W2.heap.size := fun b hb => by
   subst ht0
   rcases hb with hb | hb
   · exact hb.elim
   · rcases hb with hb | rfl | rfl | rfl
     · exact Nat.lt_of_lt_of_le hb hw.size
     · exact lt_of_heap hfb
     · exact lt_of_heap hmb
     · exact lt_of_heap hkb
 have hA3 : AsksAny A G V t0.kept W2 := by
   subst ht0
   exact (HA.out.1.later (.up hw fun b hb => hb)).mono fun b hb => .inl hb
 have hseq := reached_tells fb mb kb A 2000 (x, y) G V t0 W2 hfb hmb hkb hA3 HA.out.2.2 (fun b hb => hkept b (.inr hb)) (fun b hb => by subst ht0; exact hb) (by subst ht0; exact ⟨.inr (.inl rfl), .inr (.inr (.inl rfl)), .inr (.inr (.inr rfl))⟩) (by omega)
 have HK := Lib.hid hkept
 rw [show w2.heap.size + 1 + 1 + 1 = w2.heap.size + 3 by omega, hL0] at hA2
 clear hfb hmb hkb hfl hml hkl hu3 l0 l1 l2 l3 d0 d1 u0 hw hmm e4 hs2 h0 hkept hA3 ht0
 refine (wpIn_wide (n := 2)).1 ?_
 refine range_tells rfl (by omega) (gf := reachedF) (lb := #[.pointer (some ⟨fb, 0, none⟩), .pointer (some ⟨mb, 0, none⟩), .pointer (some ⟨kb, 0, none⟩)]) (by subst hA2; rfl) trivial (enters_of Tryz.func86 (by kernel_rfl) rfl) hseq HK.out (fun _ => rfl)
   (fun x t W W' hu h => ⟨h.1.up hu, h.2⟩)
   (fun x t t' W l o o' hl hc hn hk h => ⟨h.1.keepC (by simp) fun g q1 q2 q3 => by
     obtain ⟨i0, u0, hu0⟩ := q3
     have hgl : g ≠ l := fun e => by
       rw [e] at hu0
       cases o <;> first | (simp [World.cell?, hl] at hu0; done) | cases hc
     refine ⟨⟨fun e => ?_, hk g q1.2⟩, fun i u hu => ?_⟩
     · rcases hn g e with q | ⟨o2, q, qc⟩
       · exact q1.1 q
       · cases o2 <;> first | (simp [World.cell?, q] at hu0; done) | cases qc
     · simp only [World.cell?, World.putObj_heap_other hgl]
       exact hu, h.2⟩)
   (fun ys t W => ∃ lv qv Y, AsI G V w L0 lv qv Y ys t W) (fun c ys t W => c = .ret ∧ AsX G w ys t W)
   (fun s t t' W W' ⟨lv, qv, Y, h⟩ k => ⟨lv, qv, Y, h.step k⟩) (fun c s t t' W W' ⟨hc, h⟩ k => ⟨hc, h.step k⟩) ⟨_, _, _, H0.out⟩
   (fun x m => { tmps := (((A2.tmps.setIfInBounds 43 (.agg #[.int .i64 x.p.1, .int .i64 x.p.2])).setIfInBounds 44 (.agg #[.bool (G x.p).known, .bool (G x.p).yes, .bool (G x.p).all, .bool (G x.p).hard, .slice x.va (G x.p).pairs.length x.vc])).setIfInBounds 11 (.pointer (some ⟨m, 0, none⟩))).setIfInBounds 12 (.pointer (some ⟨m + 1, 0, none⟩)), defers := [] })
   (fun x m W => W.heap[m]? = some (.cells #[.int .i64 x.p.1, .int .i64 x.p.2] PairT (0, 0)) ∧ W.heap[m + 1]? = some (.cells (QC (G x.p) (x.v G)) QueT (0, 0)))
   (fun x m W l o hl h => ⟨(World.putObj_heap_other (by omega)).trans h.1, (World.putObj_heap_other (by omega)).trans h.2⟩) ?assign ?body ?done ?stop
 case assign =>
   intro l x W K hK
   subst hA2
   simp only [toldV, pairK, QV, Told.v]
   gi_wp2
   simp only [List.setIfInBounds_toArray, List.set_cons_succ, List.set_cons_zero] at hK
   exact hK _ uq ⟨(alloc_old _ _ _ (by simp)).trans (alloc_get _ _), alloc_at _ _ _ (by simp)⟩
 case body =>
   rintro l pre x own W0 W ⟨lv, qv, Y, hI0⟩ hst hpx ⟨hb1, hb2⟩ hkl hpl
   have hI := hI0.step hst
   have hm : W0.heap.size + 1 < W.heap.size := lt_of_heap hb2
   have hsm : (∀ b, lv.ownBlock = some b → b < W0.heap.size) ∧ (∀ b, qv.ownBlock = some b → b < W0.heap.size) ∧ L0 + 3 < W0.heap.size := ⟨fun b hb => (hI0.lrow.lt b hb).2, fun b hb => (hI0.qrow.lt b hb).2, lt_of_heap hI0.yb⟩
   obtain ⟨m, hmz⟩ : ∃ m, W0.heap.size = m := ⟨_, rfl⟩
   rw [hmz] at hb1 hb2 hkl hm hsm ⊢
   clear hI0 hst hmz
   subst hA2
   simp only [List.setIfInBounds_toArray, List.set_cons_succ, List.set_cons_zero]
   obtain ⟨la, lc, rfl⟩ := ownsRow_form hI.lrow
   obtain ⟨qa, qc, rfl⟩ := ownsRow_form hI.qrow
   have HI := Lib.hid hI
   have HB := Lib.hid (And.intro hb1 (And.intro hb2 (And.intro hm (And.intro hkl (And.intro hpx hsm)))))
   have a0 := cell_of hI.lb 0
   have f0 := ice_of hI.lb 0
   have al := lt_of_heap hI.lb
   have a1 := cell_of hI.qb 0
   have f1 := ice_of hI.qb 0
   have al1 := lt_of_heap hI.qb
   have r0 := cell_of hI.b0 0
   have rf0 := ice_of hI.b0 0
   have rl0 := lt_of_heap hI.b0
   have r1 := cell_of hI.b1 0
   have rf1 := ice_of hI.b1 0
   have rl1 := lt_of_heap hI.b1
   have y0 := cell_of hI.yb 0
   have yl := lt_of_heap hI.yb
   have p0 := cell_of hb1 0
   have p1 := cell_of hb1 1
   have pl := lt_of_heap hb1
   have s0 := hb2
   simp only [QC, Told.v] at s0
   have b0 := cell_of s0 0; have g0 := ice_of s0 0; have b1 := cell_of s0 1; have g1 := ice_of s0 1; have b2 := cell_of s0 2; have g2 := ice_of s0 2; have b3 := cell_of s0 3; have g3 := ice_of s0 3; have b4 := cell_of s0 4; have g4 := ice_of s0 4; have b9 := lt_of_heap s0; (try simp only [World.size_alloc, List.getElem?_toArray, List.getElem?_cons_zero, List.getElem?_cons_succ] at b0 b1 b2 b3 b4 g0 g1 g2 g3 g4 b9); clear s0
   simp only [List.getElem?_toArray, List.getElem?_cons_zero, List.getElem?_cons_succ] at a0 a1 r0 r1 y0 p0 p1
   have hpn : (pre.length : Int) ≤ 2000 := by omega
   clear hI hb1 hb2 hm hkl hpx hsm
   by_cases hfull : pre.length = 2000
   · have hfi : (pre.length : Int) = 2000 := by omega
     rw [hfull] at a0
     gi_wp2
     have q := HI.out.leave (ys' := pre ++ [x]) (.inl (by rw [List.length_append, hfull]; simp))
     exact ⟨q.1, rfl, q.2⟩
   · have e1 : ((pre.length : Int) == 2000) = false := by simp; omega
     by_cases hh : (G x.p).hard = true
     · rw [hh] at b3
       gi_wp2
       have q := HI.out.leave (ys' := pre ++ [x]) (.inr ⟨x, by simp, hh⟩)
       exact ⟨q.1, rfl, q.2⟩
     · have hh : (G x.p).hard = false := by simpa using hh
       have HH := Lib.hid hh
       rw [hh] at b3
       gi_wp2
       have hbox : ∀ (r : RV) (w' : World), Coll L0 pre.length (.slice la pre.length lc) (.slice qa pre.length qc) (flatP (pre.map Told.p)) (flatQ G pre) #[.int .i64 x.p.1, .int .i64 x.p.2] (QC (G x.p) (x.v G)) W r w' → w'.heap[m]? = some (.cells #[.int .i64 x.p.1, .int .i64 x.p.2] PairT (0, 0)) ∧ w'.heap[m + 1]? = some (.cells (QC (G x.p) (x.v G)) QueT (0, 0)) := fun r w' h => by
         obtain ⟨hb1, hb2, hm, hkl, hpx, h1, h2, h3⟩ := HB.out
         exact ⟨(h.old m (by omega) (by omega) (by omega) (fun e => by have := h1 _ e; omega) (fun e => by have := h2 _ e; omega)).trans hb1, (h.old (m + 1) (by omega) (by omega) (by omega) (fun e => by have := h1 _ e; omega) (fun e => by have := h2 _ e; omega)).trans hb2⟩
       have HSep : Hid (Sep L0 (.slice la pre.length lc) (.slice qa pre.length qc) W) := by
         obtain ⟨hb1, hb2, hm, hkl, hpx, h1, h2, h3⟩ := HB.out
         have box : ∀ b (cs : Array Value) (T : TypeId), W.heap[b]? = some (.cells cs T (0, 0)) → (T ≠ PairT → (Value.slice la pre.length lc).ownBlock ≠ some b) ∧ (T ≠ QueT → (Value.slice qa pre.length qc).ownBlock ≠ some b) := fun b cs T hb => by
           refine ⟨fun hT e => ?_, fun hT e => ?_⟩
           · rcases HI.out.lrow.2 with ⟨hv, _⟩ | ⟨g', cap', cur, hv, _, hc, _⟩
             · rw [hv] at e; cases e
             · rw [hv] at e; cases e; exact cellsNe hb hc hT rfl
           · rcases HI.out.qrow.2 with ⟨hv, _⟩ | ⟨g', cap', cur, hv, _, hc, _⟩
             · rw [hv] at e; cases e
             · rw [hv] at e; cases e; exact cellsNe hb hc hT rfl
         refine ⟨fun b hb => ⟨by have := h1 b hb; omega, fun e => (box _ _ _ HI.out.lb).1 (by decide) (e ▸ hb), fun e => (box _ _ _ HI.out.qb).1 (by decide) (e ▸ hb), fun e => ?_⟩, fun b hb => ⟨by have := h2 b hb; omega, fun e => (box _ _ _ HI.out.lb).2 (by decide) (e ▸ hb), fun e => (box _ _ _ HI.out.qb).2 (by decide) (e ▸ hb)⟩, by omega⟩
         rcases HI.out.qrow.2 with ⟨hv, _⟩ | ⟨g', cap', cur, hv, _, hc, _⟩
         · rw [hv] at e; cases e
         · rw [hv] at e; cases e; exact (box _ _ _ hc).1 (by decide) hb
       have HRw : Hid (∀ b, (Value.slice la pre.length lc).ownBlock = some b ∨ (Value.slice qa pre.length qc).ownBlock = some b → b ≠ L0 + 2 ∧ b ≠ L0 + 3 ∧ b ≠ w.heap.size ∧ b ≠ w.heap.size + 1) := fun b hb => by
         have hT : ∃ (cur : Array Value) (T : TypeId), W.heap[b]? = some (.cells cur T (0, 0)) ∧ (T = PairT ∨ T = QueT) := by
           rcases hb with hb | hb
           · rcases HI.out.lrow.2 with ⟨hv, _⟩ | ⟨g', cap', cur, hv, _, hc, _⟩
             · rw [hv] at hb; cases hb
             · rw [hv] at hb; cases hb; exact ⟨cur, _, hc, .inl rfl⟩
           · rcases HI.out.qrow.2 with ⟨hv, _⟩ | ⟨g', cap', cur, hv, _, hc, _⟩
             · rw [hv] at hb; cases hb
             · rw [hv] at hb; cases hb; exact ⟨cur, _, hc, .inr rfl⟩
         obtain ⟨cur, T, hc, hT⟩ := hT
         refine ⟨fun e => ?_, cellsNe hc HI.out.yb ?_, cellsNe hc HI.out.b0 ?_, cellsNe hc HI.out.b1 ?_⟩
         · obtain ⟨_, es, clk, q, _⟩ := HI.out.ym
           rw [e, q] at hc
           cases hc
         all_goals (rcases hT with rfl | rfl <;> decide)
       refine regionIn_via (β := RV) (fun l r w' => l = r.flags ∧ Coll L0 pre.length (.slice la pre.length lc) (.slice qa pre.length qc) (flatP (pre.map Told.p)) (flatQ G pre) #[.int .i64 x.p.1, .int .i64 x.p.2] (QC (G x.p) (x.v G)) W r w')
         (fun _ r a => (((((((a.setIfInBounds 52 (sl r.f0 (.slice la pre.length lc))).setIfInBounds 53 (sl r.f1 (.agg #[.int .i64 x.p.1, .int .i64 x.p.2]))).setIfInBounds 54 (sl r.f2 (.slice (some ⟨r.c54, 0, none⟩) 1 1))).setIfInBounds 55 (sl r.f3 (.slice r.a55 (pre.length + 1) r.k55))).setIfInBounds 56 (sl r.f4 (.slice qa pre.length qc))).setIfInBounds 57 (sl r.f5 (.agg #[.bool (G x.p).known, .bool (G x.p).yes, .bool (G x.p).all, .bool false, .slice x.va (G x.p).pairs.length x.vc]))).setIfInBounds 58 (sl r.f6 (.slice (some ⟨r.c58, 0, none⟩) 1 1))).setIfInBounds 59 (sl r.f7 (.slice r.a59 (pre.length + 1) r.k59)))
         (by kernel_rfl) (by kernel_rfl) ?_ ?_ ?_ ?_
       · refine ⟨⟨false, false, false, false, false, false, false, false, false, false, 0, 0, none, 0, none, 0⟩, ⟨rfl, ⟨rfl, rfl, rfl, Nat.le_refl _, fun b _ _ _ _ _ => rfl, (fun h => by cases h), (fun h => by cases h), HI.out.lb, HI.out.qb, fun _ => HI.out.lrow, (fun h => by cases h), fun _ => HI.out.qrow, (fun h => by cases h), ⟨(fun h => by cases h), (fun h => by cases h), (fun h => by cases h), (fun h => by cases h), (fun h => by cases h), (fun h => by cases h)⟩⟩⟩, ?_⟩
         simp only [List.setIfInBounds_toArray, List.set_cons_succ, List.set_cons_zero, sl_false]
       · rintro l r w' ⟨rfl, _⟩
         rfl
       · rintro l r w5 ⟨rfl, hc⟩ hall
         obtain ⟨f0', f1', f2', f3', f4', f5', f6', f7', f8', f9', c54, c58, a55, k55, a59, k59⟩ := r
         obtain rfl : f0' = true := hall 0 (by decide)
         obtain rfl : f1' = true := hall 1 (by decide)
         obtain rfl : f2' = true := hall 2 (by decide)
         obtain rfl : f3' = true := hall 3 (by decide)
         obtain rfl : f4' = true := hall 4 (by decide)
         obtain rfl : f5' = true := hall 5 (by decide)
         obtain rfl : f6' = true := hall 6 (by decide)
         obtain rfl : f7' = true := hall 7 (by decide)
         obtain rfl : f8' = true := hall 8 (by decide)
         obtain rfl : f9' = true := hall 9 (by decide)
         simp only [List.setIfInBounds_toArray, List.set_cons_succ, List.set_cons_zero, sl_true]
         obtain ⟨hq1, hq2⟩ := hbox _ _ hc
         have hy5 : w5.heap[L0 + 3]? = some (.cells #[.map (some (L0 + 2))] MpT (0, 0)) := (hc.old (L0 + 3) (lt_of_heap HI.out.yb) (by omega) (by omega) (fun e => (HRw.out _ (.inl e)).2.1 rfl) (fun e => (HRw.out _ (.inr e)).2.1 rfl)).trans HI.out.yb
         have hym5 : YMap w5 (L0 + 2) Y := HI.out.ym.keep (hc.old (L0 + 2) HI.out.ym.lt (by omega) (by omega) (fun e => (HRw.out _ (.inl e)).1 rfl) (fun e => (HRw.out _ (.inr e)).1 rfl))
         obtain ⟨W6, hst, hym6, hz6, ho6, hos6⟩ := hym5.store x.p 1
         have y0 := cell_of hy5 0
         have yl := lt_of_heap hy5
         have p0 := cell_of hq1 0
         have p1 := cell_of hq1 1
         have pl := lt_of_heap hq1
         simp only [List.getElem?_toArray, List.getElem?_cons_zero, List.getElem?_cons_succ] at y0 p0 p1
         have hfin := Lib.hid (HI.out.push HRw.out hc rfl rfl rfl rfl hym6 hz6 ho6 hos6 HB.out.2.2.2.2.1 HH.out hfull (fun b hb => by have := HB.out.2.2.2.1 b hb; have := HB.out.2.2.1; omega))
         replace hst : (Instr.mapUpdate MpT (.map (some (L0 + 2))) (.agg #[.int .i64 x.p.1, .int .i64 x.p.2]) (.int .i64 1)).run Tryz.prog w5 = .ok () W6 := hst
         clear hc hall hq1 hq2 hy5 hym5 hym6 hz6 ho6 hos6
         gi_wp2
         exact ⟨hfin.out.1, _, _, _, hfin.out.2⟩
       · rintro l r w' ⟨rfl, hc⟩ i o hi ho hl hdep
         obtain ⟨f0', f1', f2', f3', f4', f5', f6', f7', f8', f9', c54, c58, a55, k55, a59, k59⟩ := r
         simp only [RV.flags] at hl hdep ⊢
         have hi10 : i < 10 := hi
         clear hi
         have hcs : i = 0 ∨ i = 1 ∨ i = 2 ∨ i = 3 ∨ i = 4 ∨ i = 5 ∨ i = 6 ∨ i = 7 ∨ i = 8 ∨ i = 9 := by omega
         rcases hcs with rfl | rfl | rfl | rfl | rfl | rfl | rfl | rfl | rfl | rfl
         all_goals simp only [List.getElem?_cons_zero, List.getElem?_cons_succ, Option.some.injEq] at ho
         all_goals subst ho
         all_goals simp [Region.binds] at hl hdep
         all_goals (try subst hl)
         · simp only [List.setIfInBounds_toArray, List.set_cons_succ, List.set_cons_zero, sl_false]
           have a0 := cell_of hc.lb 0
           have al := lt_of_heap hc.lb
           have e3 : f3' = false := Bool.eq_false_iff.2 fun e => by cases (hc.dep.2.2.2.2.1 e).1
           have e8 : f8' = false := Bool.eq_false_iff.2 fun e => by have q : f3' = true := (hc.dep.2.1 e).2; rw [q] at e3; cases e3
           subst e3 e8
           simp only [List.getElem?_toArray, List.getElem?_cons_zero, Bool.false_eq_true, if_false] at a0
           have HC := Lib.hid hc
           clear hc
           unfold wpOpIn
           go_simp
           exact ⟨⟨true, f1', f2', false, f4', f5', f6', f7', false, f9', c54, c58, a55, k55, a59, k59⟩, ⟨⟨rfl, rfl, rfl, rfl, rfl, rfl, rfl, rfl, rfl, rfl⟩, HC.out.same ⟨rfl, rfl, rfl, rfl, rfl, rfl, rfl, rfl, rfl, rfl, rfl, rfl⟩ ⟨fun _ => rfl, id, id, id⟩⟩, rfl, rfl, rfl, rfl, rfl, rfl, rfl, rfl⟩
         · simp only [List.setIfInBounds_toArray, List.set_cons_succ, List.set_cons_zero, sl_false]
           obtain ⟨hq1, hq2⟩ := hbox _ _ hc
           have p0 := cell_of hq1 0
           have p1 := cell_of hq1 1
           have pl := lt_of_heap hq1
           simp only [List.getElem?_toArray, List.getElem?_cons_zero, List.getElem?_cons_succ] at p0 p1
           have HC := Lib.hid hc
           clear hc hq1 hq2
           unfold wpOpIn
           go_simp
           exact ⟨⟨f0', true, f2', f3', f4', f5', f6', f7', f8', f9', c54, c58, a55, k55, a59, k59⟩, ⟨⟨rfl, rfl, rfl, rfl, rfl, rfl, rfl, rfl, rfl, rfl⟩, HC.out.same ⟨rfl, rfl, rfl, rfl, rfl, rfl, rfl, rfl, rfl, rfl, rfl, rfl⟩ ⟨id, fun _ => rfl, id, id⟩⟩, rfl, rfl, rfl, rfl, rfl, rfl, rfl, rfl⟩
         · subst hdep
           simp only [List.setIfInBounds_toArray, List.set_cons_succ, List.set_cons_zero, sl_false, sl_true]
           have HC := Lib.hid hc
           clear hc
           unfold wpOpIn
           go_simp
           exact ⟨⟨f0', true, true, f3', f4', f5', f6', f7', f8', f9', w'.heap.size, c58, a55, k55, a59, k59⟩, ⟨⟨rfl, rfl, rfl, rfl, rfl, rfl, rfl, rfl, rfl, rfl⟩, HC.out.alloc54 rfl⟩, rfl, rfl, rfl, rfl, rfl, rfl, rfl, rfl⟩
         · obtain ⟨rfl, rfl⟩ := hdep
           simp only [List.setIfInBounds_toArray, List.set_cons_succ, List.set_cons_zero, sl_false, sl_true]
           obtain ⟨i0, hi, hz0, hz1, hz2⟩ := info_parts pair_info
           have h54 := hc.h54 rfl
           refine wpOpIn_append_row rfl rfl _ _ LpT rfl PairT i0 (.agg #[.int .i64 0, .int .i64 0]) 2 16 Tryz.underlying86 hi hz0 hz1 hz2 rfl (by decide) (.slice la pre.length lc) pre.length _ rfl (hc.lr rfl) c54 1 1 [.int .i64 x.p.1, .int .i64 x.p.2] rfl rfl (fun j u hu => by
             rw [Addr.add_lit]
             exact (cell_of h54.2 _).trans (by simpa using hu)) (by intro u hu; have hu2 : u = .int .i64 x.p.1 ∨ u = .int .i64 x.p.2 := (by simpa using hu); rcases hu2 with hu2 | hu2 <;> rw [hu2] <;> rfl) (by unfold maxLen; omega) (by omega) ?_
           intro sa cap w7 hr7 hg7 hb7
           exact ⟨⟨true, f1', true, true, f4', f5', f6', f7', f8', f9', c54, c58, sa, cap, a59, k59⟩, ⟨rfl, hc.app55 HSep.out rfl rfl rfl hg7 hr7 hb7⟩, rfl⟩
         · simp only [List.setIfInBounds_toArray, List.set_cons_succ, List.set_cons_zero, sl_false]
           have a0 := cell_of hc.qb 0
           have al := lt_of_heap hc.qb
           have e7 : f7' = false := Bool.eq_false_iff.2 fun e => by cases (hc.dep.2.2.1 e).2.1
           have e9 : f9' = false := Bool.eq_false_iff.2 fun e => by have q : f7' = true := (hc.dep.2.1 (hc.dep.1 e)).1; rw [q] at e7; cases e7
           subst e7 e9
           simp only [List.getElem?_toArray, List.getElem?_cons_zero, Bool.false_eq_true, if_false] at a0
           have HC := Lib.hid hc
           clear hc
           unfold wpOpIn
           go_simp
           exact ⟨⟨f0', f1', f2', f3', true, f5', f6', false, f8', false, c54, c58, a55, k55, a59, k59⟩, ⟨⟨rfl, rfl, rfl, rfl, rfl, rfl, rfl, rfl, rfl, rfl⟩, HC.out.same ⟨rfl, rfl, rfl, rfl, rfl, rfl, rfl, rfl, rfl, rfl, rfl, rfl⟩ ⟨id, id, fun _ => rfl, id⟩⟩, rfl, rfl, rfl, rfl, rfl, rfl, rfl, rfl⟩
         · simp only [List.setIfInBounds_toArray, List.set_cons_succ, List.set_cons_zero, sl_false]
           obtain ⟨hq1, hq2⟩ := hbox _ _ hc
           simp only [QC, Told.v, HH.out] at hq2
           have s0 := hq2
           have b0 := cell_of s0 0; have g0 := ice_of s0 0; have b1 := cell_of s0 1; have g1 := ice_of s0 1; have b2 := cell_of s0 2; have g2 := ice_of s0 2; have b3 := cell_of s0 3; have g3 := ice_of s0 3; have b4 := cell_of s0 4; have g4 := ice_of s0 4; have b9 := lt_of_heap s0; (try simp only [World.size_alloc, List.getElem?_toArray, List.getElem?_cons_zero, List.getElem?_cons_succ] at b0 b1 b2 b3 b4 g0 g1 g2 g3 g4 b9); clear s0
           have HC := Lib.hid hc
           clear hc hq1 hq2
           unfold wpOpIn
           go_simp
           exact ⟨⟨f0', f1', f2', f3', f4', true, f6', f7', f8', f9', c54, c58, a55, k55, a59, k59⟩, ⟨⟨rfl, rfl, rfl, rfl, rfl, rfl, rfl, rfl, rfl, rfl⟩, HC.out.same ⟨rfl, rfl, rfl, rfl, rfl, rfl, rfl, rfl, rfl, rfl, rfl, rfl⟩ ⟨id, id, id, fun _ => rfl⟩⟩, rfl, rfl, rfl, rfl, rfl, rfl, rfl, rfl⟩
         · subst hdep
           simp only [List.setIfInBounds_toArray, List.set_cons_succ, List.set_cons_zero, sl_false, sl_true]
           have HC := Lib.hid hc
           clear hc
           unfold wpOpIn
           go_simp
           have q := HC.out.alloc58 rfl
           simp only [QC, Told.v, HH.out] at q
           exact ⟨⟨f0', f1', f2', f3', f4', true, true, f7', f8', f9', c54, w'.heap.size, a55, k55, a59, k59⟩, ⟨⟨rfl, rfl, rfl, rfl, rfl, rfl, rfl, rfl, rfl, rfl⟩, by simp only [QC, Told.v, HH.out]; exact q⟩, rfl, rfl, rfl, rfl, rfl, rfl, rfl, rfl⟩
         · have e4 : f4' = true := by simp_all
           have e6 : f6' = true := by simp_all
           have e3 : f3' = true := by simp_all
           subst e4 e6 e3
           clear hdep
           simp only [List.setIfInBounds_toArray, List.set_cons_succ, List.set_cons_zero, sl_false, sl_true]
           obtain ⟨i0, hi, hz0, hz1, hz2⟩ := info_parts que_info
           have h58 := hc.h58 rfl
           refine wpOpIn_append_row rfl rfl _ _ LqT rfl QueT i0 (.agg #[.bool false, .bool false, .bool false, .bool false, .slice none 0 0]) 5 32 Tryz.underlying87 hi hz0 hz1 hz2 rfl (by decide) (.slice qa pre.length qc) pre.length _ rfl (hc.qr rfl) c58 1 1 (QC (G x.p) (x.v G)).toList rfl rfl (fun j u hu => by
             rw [Addr.add_lit]
             exact (cell_of h58.2 _).trans (by simpa using hu)) (by intro u hu; simp only [QC, Told.v, List.mem_cons, List.not_mem_nil, or_false] at hu; rcases hu with hu2 | hu2 | hu2 | hu2 | hu2 <;> rw [hu2] <;> rfl) (by unfold maxLen; omega) (by omega) ?_
           intro sa cap w7 hr7 hg7 hb7
           exact ⟨⟨f0', f1', f2', true, true, f5', true, true, f8', f9', c54, c58, a55, k55, sa, cap⟩, ⟨rfl, hc.app59 HSep.out rfl rfl rfl rfl hg7 hr7 hb7⟩, rfl⟩
         · have e7 : f7' = true := by simp_all
           have e3 : f3' = true := by simp_all
           subst e7 e3
           clear hdep
           simp only [List.setIfInBounds_toArray, List.set_cons_succ, List.set_cons_zero, sl_false, sl_true]
           have a0 := cell_of hc.lb 0
           have f0 := ice_of hc.lb 0
           have al := lt_of_heap hc.lb
           simp only [List.getElem?_toArray, List.getElem?_cons_zero, Bool.false_eq_true, if_false] at a0
           have HC := Lib.hid hc
           clear hc
           unfold wpOpIn
           go_simp
           exact ⟨⟨f0', f1', f2', true, f4', f5', f6', true, true, f9', c54, c58, a55, k55, a59, k59⟩, ⟨⟨rfl, rfl, rfl, rfl, rfl, rfl, rfl, rfl, rfl, rfl⟩, HC.out.set8 HSep.out rfl rfl⟩, rfl, rfl, rfl, rfl, rfl, rfl, rfl, rfl⟩
         · have e7 : f7' = true := by simp_all
           have e8 : f8' = true := by simp_all
           have e3 : f3' = true := by simp_all
           subst e7 e8 e3
           clear hdep
           simp only [List.setIfInBounds_toArray, List.set_cons_succ, List.set_cons_zero, sl_false, sl_true]
           have a1 := cell_of hc.qb 0
           have f1 := ice_of hc.qb 0
           have al1 := lt_of_heap hc.qb
           simp only [List.getElem?_toArray, List.getElem?_cons_zero, Bool.false_eq_true, if_false] at a1
           have HC := Lib.hid hc
           clear hc
           unfold wpOpIn
           go_simp
           exact ⟨⟨f0', f1', f2', true, f4', f5', f6', true, true, true, c54, c58, a55, k55, a59, k59⟩, ⟨⟨rfl, rfl, rfl, rfl, rfl, rfl, rfl, rfl, rfl, rfl⟩, HC.out.set9 HSep.out rfl rfl rfl⟩, rfl, rfl, rfl, rfl, rfl, rfl, rfl, rfl⟩
 case stop =>
   rintro D c pre own W hD hSp ⟨rfl, hX⟩ hK
   have hX := Lib.hid hX
   subst hA2
   have hM : Marks w.heap.size [D] W := (Marks.none _ W).cons hK (Nat.le_trans H0.out.up.size hD) (by simp)
   have hq : AssignedQ G (x, y) false 9 := by
     refine .inr ⟨rfl, rfl, ?_⟩
     rcases hX.out.why with q | ⟨z, q1, q2⟩
     · have := hSp.length_le
       rw [List.length_map] at this
       exact .inl (by omega)
     · exact .inr ⟨z.p, hSp.subset (List.mem_map_of_mem q1), q2⟩
   gi_wp2
   refine leaves_marks w.heap.size [D] _ hM fun W' hW' => ?_
   have r0 := cell_of (hW'.cells _ _ _ _ hX.out.b0) 0
   have r1 := cell_of (hW'.cells _ _ _ _ hX.out.b1) 0
   simp only [List.getElem?_toArray, List.getElem?_cons_zero] at r0 r1
   exact ⟨.tuple #[.bool false, .int .i64 9], by simp [results, Tryz.results16, go_sem, r0, r1], false, 9, rfl, Below.trans hX.out.up hW'.low, hq⟩
 case done =>
   rintro D zs own W hD hzs ⟨lv, qv, Y, hI⟩ hK
   subst hA2
   have hM : Marks w.heap.size [D] W := (Marks.none _ W).cons hK (Nat.le_trans H0.out.up.size hD) (by simp)
   have hR0 := hI.rounds ⟨Nat.le_trans H0.out.up.size hD, hK⟩
   have hfew : (reachL G 2000 (x, y)).length ≤ 2000 := by rw [← hzs, List.length_map]; exact hI.few
   have hcl : Hid (∀ p ∈ zs.map Told.p, ∀ q ∈ (G p).pairs, q ∈ zs.map Told.p) := by
     unfold Hid
     rw [hzs]
     exact reachN_closed G 2000 _ _ _ (by omega) (by simp) hfew (fun j p hj => by omega)
   have hsoft : Hid (∀ q ∈ reachL G 2000 (x, y), (G q).hard = false) := fun q hq => by
     rw [← hzs] at hq
     obtain ⟨z, hz, rfl⟩ := List.mem_map.1 hq
     exact hI.soft z hz
   have hfirst : Hid ((x, y) ∈ zs.map Told.p) := by
     unfold Hid
     rw [hzs]
     exact (reachN_prefix G 2000 _ _ _).subset (by simp)
   have hzl : zs.length ≤ 2000 := hI.few
   obtain ⟨la, lc, rfl⟩ := ownsRow_form hR0.lrow
   obtain ⟨qa, qc, rfl⟩ := ownsRow_form hR0.qrow
   have HF := Lib.hid hfew
   clear hI hM hzs hK hfew
   go_wp2_with fail
   refine wp_label ?_
   go_wp2_with fail
   have HR0 := Lib.hid hR0
   clear hR0
   go_loopw [] (fun wr => ∃ Y, Rn G w L0 (.slice la zs.length lc) (.slice qa zs.length qc) zs D Y wr) (fun W => onesW W (L0 + 2))
   case atStart => exact ⟨Y, HR0.out⟩
   case round =>
     obtain ⟨Y1, hR1⟩ := hrel
     have HR1 := Lib.hid hR1
     have HM1 := Lib.hid (ones_eq hR1.ym)
     have a0 := cell_of hR1.lb 0
     have al := lt_of_heap hR1.lb
     simp only [List.getElem?_toArray, List.getElem?_cons_zero] at a0
     clear hR1
     go_wp2_with fail
     go_loopw [13] (fun iv wr' => ∃ k : Nat, iv = .int .i64 ((k : Int) - 1) ∧ k ≤ zs.length ∧ Rn G w L0 (.slice la zs.length lc) (.slice qa zs.length qc) zs D Y1 wr' ∧ Hid (∀ (j : Nat) (z : Told), k ≤ j → zs[j]? = some z → look Y1 z.p = 1 → holdsB (G z.p) (fun q => decide (look Y1 q = 1)) = true)) (fun iv _ => (intOf iv + 1).toNat)
     case atStart => exact ⟨zs.length, rfl, Nat.le_refl _, HR1.out, fun j z hj hz => by have := (List.getElem?_eq_some_iff.1 hz).1; omega⟩
     case round =>
       obtain ⟨k, rfl, hk, hR2, hdone⟩ := hrel
       have a0 := cell_of hR2.lb 0
       have al := lt_of_heap hR2.lb
       simp only [List.getElem?_toArray, List.getElem?_cons_zero] at a0
       rcases k with _ | j
       · clear hk
         have HR2 := Lib.hid hR2
         have y0 := cell_of hR2.yb 0
         have yl := lt_of_heap hR2.yb
         have rf0 := ice_of hR2.b0 0
         have rl0 := lt_of_heap hR2.b0
         have r0 := cell_of hR2.b0 0
         have r1 := cell_of hR2.b1 0
         have rf1 := ice_of hR2.b1 0
         have rl1 := lt_of_heap hR2.b1
         have hlk : (Instr.lookup MpT (.map (some (L0 + 2))) (.agg #[.int .i64 x, .int .i64 y]) false).run Tryz.prog wr = .ok (.int .i64 (look Y1 (x, y))) wr := hR2.ym.look (x, y)
         simp only [List.getElem?_toArray, List.getElem?_cons_zero] at y0 r0 r1
         obtain ⟨nx, hnx⟩ : ∃ nx, Hid (look Y1 (x, y) = nx) := ⟨_, rfl⟩
         rw [hnx.out] at hlk
         clear hR2
         go_wp2_with fail
         rw [Exit.noGoto_ret]
         refine leaves_marks w.heap.size [D] _ ((Marks.none _ _).cons ?_ HR2.out.mark.1 (by simp)) fun W' hW' => ?_
         · refine (setCell_other (fun e => ?_) _).trans ((setCell_other (fun e => ?_) _).trans HR2.out.mark.2)
           · have q := HR2.out.mark.2
             rw [e, HR2.out.b1] at q
             cases q
           · have q := HR2.out.mark.2
             rw [e, HR2.out.b0] at q
             cases q
         have z0 : W'.heap[w.heap.size]? = some (.cells #[.bool ((nx : Int) == 1)] BoT (0, 0)) := hW'.cells _ _ _ _ ((setCell_other (by omega) _).trans (setCell_block (i := 0) HR2.out.b0 _))
         have z1 : W'.heap[w.heap.size + 1]? = some (.cells #[.int .i64 0] ErT (0, 0)) := hW'.cells _ _ _ _ (setCell_block (i := 0) ((setCell_other (by omega) _).trans HR2.out.b1) _)
         have r0 := cell_of z0 0
         have r1 := cell_of z1 0
         simp only [List.getElem?_toArray, List.getElem?_cons_zero] at r0 r1
         refine ⟨.tuple #[.bool ((nx : Int) == 1), .int .i64 0], by simp [results, Tryz.results16, go_sem, r0, r1], (nx : Int) == 1, 0, rfl, Below.trans ((HR2.out.up.setCell (Nat.le_refl _) _).setCell (Nat.le_succ _) _) hW'.low, .inl ⟨rfl, HF.out, hsoft.out, ?_⟩⟩
         have hb : (((nx : Int) == 1) = true) ↔ look Y1 (x, y) = 1 := by
           rw [hnx.out]
           simp
           omega
         rw [hb]
         refine ⟨fun h => holds_gfp (L := zs.map Told.p) (f := fun q => decide (look Y1 q = 1)) (fun p hp => HR2.out.sub p (by simpa using hp)) (fun p hp hf => ?_) (by simpa using h), fun h => HR2.out.gfp _ hfirst.out h⟩
         obtain ⟨j, hj⟩ := List.getElem?_of_mem hp
         rw [List.getElem?_map] at hj
         cases hz : zs[j]? with
         | none => rw [hz] at hj; cases hj
         | some z =>
           rw [hz] at hj
           cases hj
           exact hdone.out j z (Nat.zero_le _) hz (by simpa using hf)
       · obtain ⟨z, hz⟩ : ∃ z, zs[j]? = some z := ⟨_, List.getElem?_eq_getElem (by omega)⟩
         have hji : (j : Int) < zs.length := by omega
         rw [show ((j + 1 : Nat) : Int) - 1 = (j : Int) by omega]
         have hzp : (zs.map Told.p)[j]? = some z.p := by rw [List.getElem?_map, hz]; rfl
         have hlr := hR2.lrow
         rw [show zs.length = (zs.map Told.p).length by simp] at hlr
         obtain ⟨g, rfl, hgl, _, c0, c1⟩ := rowP_at hlr hzp
         have HR2 := Lib.hid hR2
         have HZ := Lib.hid (And.intro hz hzp)
         clear hR2 hz hzp hlr
         go_wp2_with fail
         refine range_named fun A5 W5 hA5 hW5 => ?_
         have u5 : Up wr W5 := by rw [hW5]; exact uq
         have hb5 : W5.heap[wr.heap.size]? = some (.cells #[.int .i64 z.p.1, .int .i64 z.p.2] PairT (0, 0)) := by rw [hW5]; exact alloc_get _ _
         clear hW5
         have HR5 := Lib.hid (HR2.out.up' u5)
         have HB5 := Lib.hid hb5
         have hqr := HR5.out.qrow
         obtain ⟨gq, rfl, hgql, _, d0, d1, d2, d3, d4⟩ := rowQ_at hqr HZ.out.1
         obtain ⟨nz, hnz⟩ : ∃ nz, Hid (look Y1 z.p = nz) := ⟨_, rfl⟩
         have rc : ∀ (i : RUp W5) (b o : Nat) (u : Value), b < W5.heap.size → W5.cell? ⟨b, o, none⟩ = some u → i.W.cell? ⟨b, o, none⟩ = some u := fun i b o u hb hu => (i.up.cells _ _ hb).trans hu
         have q1 : ∀ i : RUp W5, i.W.cell? ⟨L0 + 3, 0, none⟩ = some (.map (some (L0 + 2))) := fun i => rc i _ _ _ (lt_of_heap HR5.out.yb) (cell_of HR5.out.yb 0)
         have q2 : ∀ i : RUp W5, i.W.cell? ⟨wr.heap.size, 0, none⟩ = some (.int .i64 z.p.1) := fun i => rc i _ _ _ (lt_of_heap hb5) (cell_of hb5 0)
         have q3 : ∀ i : RUp W5, i.W.cell? ⟨wr.heap.size, 1, none⟩ = some (.int .i64 z.p.2) := fun i => rc i _ _ _ (lt_of_heap hb5) (cell_of hb5 1)
         have q4 : ∀ i : RUp W5, (Instr.lookup MpT (.map (some (L0 + 2))) (.agg #[.int .i64 z.p.1, .int .i64 z.p.2]) false).run Tryz.prog i.W = .ok (.int .i64 nz) i.W := fun i => by
           have := (HR5.out.ym.up i.up).look z.p
           rw [hnz.out] at this
           exact this
         have q5 : ∀ i : RUp W5, i.W.cell? ⟨L0 + 1, 0, none⟩ = some (.slice (some ⟨gq, 0, none⟩) zs.length qc) := fun i => rc i _ _ _ (lt_of_heap HR5.out.qb) (cell_of HR5.out.qb 0)
         have q6 : ∀ i : RUp W5, i.W.cell? ⟨gq, j * 5, none⟩ = some (.bool (G z.p).known) := fun i => rc i _ _ _ hgql d0
         have q7 : ∀ i : RUp W5, i.W.cell? ⟨gq, j * 5 + 1, none⟩ = some (.bool (G z.p).yes) := fun i => rc i _ _ _ hgql d1
         have q8 : ∀ i : RUp W5, i.W.cell? ⟨gq, j * 5 + 2, none⟩ = some (.bool (G z.p).all) := fun i => rc i _ _ _ hgql d2
         have q9 : ∀ i : RUp W5, i.W.cell? ⟨gq, j * 5 + 3, none⟩ = some (.bool (G z.p).hard) := fun i => rc i _ _ _ hgql d3
         have q10 : ∀ i : RUp W5, i.W.cell? ⟨gq, j * 5 + 4, none⟩ = some (.slice z.va (G z.p).pairs.length z.vc) := fun i => rc i _ _ _ hgql d4
         obtain ⟨hb, hhb⟩ : ∃ hb, Hid (holdsB (G z.p) (fun q => decide (look Y1 q = 1)) = hb) := ⟨_, rfl⟩
         have HCC : Hid (∀ i : RUp W5, Calls Tryz.prog 47 #[.agg #[.bool (G z.p).known, .bool (G z.p).yes, .bool (G z.p).all, .bool (G z.p).hard, .slice z.va (G z.p).pairs.length z.vc], .map (some (L0 + 2))] i.W fun e w' => e = .returned (.bool hb) ∧ Up i.W w') := fun i => by
           rw [← hhb.out]
           exact holds_any (G z.p) (z.v G) (L0 + 2) Y1 _ i.W (HR5.out.ym.up i.up) ((HR5.out.told z (List.mem_of_getElem? HZ.out.1)).up i.up)
         subst hA5
         clear d0 d1 d2 d3 d4 hb5 a0 al c0 c1 hgl hgql hqr rc
         by_cases h1 : nz = 1
         · subst h1
           refine wp_region_rup (by kernel_rfl) (by kernel_rfl) ?_
           repeat (go_big_quiet_step ((go_at_call 47; rename_i i; exact Calls.rup_of i (HCC.out i))))
           refine wpQuiet_nil ?_
           intro w6 hw'
           obtain ⟨i6, hw''⟩ := hw'
           have hu6 : Up W5 w6 := by rw [hw'']; exact i6.up
           clear hw'' i6
           have HR6 := Lib.hid (HR5.out.up' hu6)
           have hb6 := hu6.get HB5.out
           clear q1 q2 q3 q4 q5 q6 q7 q8 q9 q10
           rcases hb with _ | _
           · have y0 := cell_of HR6.out.yb 0
             have yl := lt_of_heap HR6.out.yb
             have p0 := cell_of hb6 0
             have p1 := cell_of hb6 1
             have pl := lt_of_heap hb6
             simp only [List.getElem?_toArray, List.getElem?_cons_zero, List.getElem?_cons_succ] at y0 p0 p1
             obtain ⟨w7, hst, hym7, hz7, ho7, hos7⟩ := HR6.out.ym.store z.p 0
             replace hst : (Instr.mapUpdate MpT (.map (some (L0 + 2))) (.agg #[.int .i64 z.p.1, .int .i64 z.p.2]) (.int .i64 0)).run Tryz.prog w6 = .ok () w7 := hst
             have HR7 := Lib.hid (HR6.out.strike hcl.out (List.mem_of_getElem? HZ.out.2) hhb.out hym7 hz7 ho7 hos7)
             have HO7 : Hid (ones (ySet Y1 z.p 0) < ones Y1) := ones_drop HR6.out.ym.1 hnz.out
             clear hym7 hz7 ho7 hos7 hb6
             go_wp2_with fail
             have hjz : j < zs.length := by omega
             clear hst y0 yl p0 p1 pl
             go_loopw [15] (fun kv wk => ∃ (k : Nat) (Y2 : List (Pr × Nat)), kv = .int .i64 ((k : Int) - 1) ∧ k ≤ zs.length ∧ Rn G w L0 (.slice (some ⟨g, 0, none⟩) zs.length lc) (.slice (some ⟨gq, 0, none⟩) zs.length qc) zs D Y2 wk ∧ Hid (ones Y2 < ones Y1)) (fun kv _ => (intOf kv + 1).toNat)
             case atStart => exact ⟨j + 1, _, by rw [show ((j + 1 : Nat) : Int) - 1 = (j : Int) by omega], hjz, HR7.out, HO7⟩
             case round =>
               obtain ⟨k, Y2, rfl, hk, hRk, hlt2⟩ := hrel
               have HRk := Lib.hid hRk
               clear hRk
               rcases k with _ | i
               · clear hk
                 go_wp2_with fail
                 exact ⟨⟨Y2, HRk.out⟩, by rw [HM1.out, ones_eq HRk.out.ym]; exact hlt2.out⟩
               · obtain ⟨y, hy⟩ : ∃ y, zs[i]? = some y := ⟨_, List.getElem?_eq_getElem (by omega)⟩
                 have hii : (i : Int) < zs.length := by omega
                 rw [show ((i + 1 : Nat) : Int) - 1 = (i : Int) by omega]
                 have hyp : (zs.map Told.p)[i]? = some y.p := by rw [List.getElem?_map, hy]; rfl
                 have HY := Lib.hid (And.intro hy hyp)
                 have hlr := HRk.out.lrow
                 rw [show zs.length = (zs.map Told.p).length by simp] at hlr
                 obtain ⟨gx, hgx, hgl, _, c0, c1⟩ := rowP_at hlr hyp
                 injection hgx with hgx
                 injection hgx with hgx _ _
                 subst hgx
                 obtain ⟨gy, hgy, hgql, _, d0, d1, d2, d3, d4⟩ := rowQ_at HRk.out.qrow hy
                 injection hgy with hgy
                 injection hgy with hgy _ _
                 subst hgy
                 obtain ⟨nz2, hnz2⟩ : ∃ nz2, Hid (look Y2 y.p = nz2) := ⟨_, rfl⟩
                 obtain ⟨hb2, hhb2⟩ : ∃ hb2, Hid (holdsB (G y.p) (fun q => decide (look Y2 q = 1)) = hb2) := ⟨_, rfl⟩
                 have hck : Hid (i + 1 ≤ zs.length) := hk
                 clear hk hy hyp hlr
                 go_wp2_with fail
                 refine range_named fun A9 W9 hA9 hW9 => ?_
                 subst hW9
                 have rc : ∀ (i : RUp W9) (b o : Nat) (u : Value), b < W9.heap.size → W9.cell? ⟨b, o, none⟩ = some u → i.W.cell? ⟨b, o, none⟩ = some u := fun i b o u hb hu => (i.up.cells _ _ hb).trans hu
                 have q1 : ∀ i : RUp W9, i.W.cell? ⟨L0 + 3, 0, none⟩ = some (.map (some (L0 + 2))) := fun i => rc i _ _ _ (lt_of_heap HRk.out.yb) (cell_of HRk.out.yb 0)
                 have q0 : ∀ i : RUp W9, i.W.cell? ⟨L0, 0, none⟩ = some (.slice (some ⟨g, 0, none⟩) zs.length lc) := fun i => rc i _ _ _ (lt_of_heap HRk.out.lb) (cell_of HRk.out.lb 0)
                 have q2 : ∀ j : RUp W9, j.W.cell? ⟨g, i * 2, none⟩ = some (.int .i64 y.p.1) := fun j => rc j _ _ _ hgl c0
                 have q3 : ∀ j : RUp W9, j.W.cell? ⟨g, i * 2 + 1, none⟩ = some (.int .i64 y.p.2) := fun j => rc j _ _ _ hgl c1
                 have q4 : ∀ i : RUp W9, (Instr.lookup MpT (.map (some (L0 + 2))) (.agg #[.int .i64 y.p.1, .int .i64 y.p.2]) false).run Tryz.prog i.W = .ok (.int .i64 nz2) i.W := fun i => by
                   have := (HRk.out.ym.up i.up).look y.p
                   rw [hnz2.out] at this
                   exact this
                 have q5 : ∀ i : RUp W9, i.W.cell? ⟨L0 + 1, 0, none⟩ = some (.slice (some ⟨gq, 0, none⟩) zs.length qc) := fun i => rc i _ _ _ (lt_of_heap HRk.out.qb) (cell_of HRk.out.qb 0)
                 have q6 : ∀ j : RUp W9, j.W.cell? ⟨gq, i * 5, none⟩ = some (.bool (G y.p).known) := fun j => rc j _ _ _ hgql d0
                 have q7 : ∀ j : RUp W9, j.W.cell? ⟨gq, i * 5 + 1, none⟩ = some (.bool (G y.p).yes) := fun j => rc j _ _ _ hgql d1
                 have q8 : ∀ j : RUp W9, j.W.cell? ⟨gq, i * 5 + 2, none⟩ = some (.bool (G y.p).all) := fun j => rc j _ _ _ hgql d2
                 have q9 : ∀ j : RUp W9, j.W.cell? ⟨gq, i * 5 + 3, none⟩ = some (.bool (G y.p).hard) := fun j => rc j _ _ _ hgql d3
                 have q10 : ∀ j : RUp W9, j.W.cell? ⟨gq, i * 5 + 4, none⟩ = some (.slice y.va (G y.p).pairs.length y.vc) := fun j => rc j _ _ _ hgql d4
                 have HCC : Hid (∀ i : RUp W9, Calls Tryz.prog 47 #[.agg #[.bool (G y.p).known, .bool (G y.p).yes, .bool (G y.p).all, .bool (G y.p).hard, .slice y.va (G y.p).pairs.length y.vc], .map (some (L0 + 2))] i.W fun e w' => e = .returned (.bool hb2) ∧ Up i.W w') := fun i => by
                   rw [← hhb2.out]
                   exact holds_any (G y.p) (y.v G) (L0 + 2) Y2 _ i.W (HRk.out.ym.up i.up) ((HRk.out.told y (List.mem_of_getElem? HY.out.1)).up i.up)
                 subst hA9
                 clear d0 d1 d2 d3 d4 c0 c1 hgl hgql rc
                 by_cases h2 : nz2 = 1
                 · subst h2
                   refine wp_region_rup (by kernel_rfl) (by kernel_rfl) ?_
                   repeat (go_big_quiet_step ((go_at_call 47; rename_i i; exact Calls.rup_of i (HCC.out i))))
                   refine wpQuiet_nil ?_
                   intro w8 hw'
                   obtain ⟨i8, hw''⟩ := hw'
                   have hu8 : Up W9 w8 := by rw [hw'']; exact i8.up
                   clear hw'' i8
                   have HR8 := Lib.hid (HRk.out.up' hu8)
                   clear q0 q1 q2 q3 q4 q5 q6 q7 q8 q9 q10
                   rcases hb2 with _ | _
                   · have HR9 := Lib.hid (HR8.out.up' (show Up w8 w8.drew from uq))
                     have y0 := cell_of HR8.out.yb 0
                     have yl := lt_of_heap HR8.out.yb
                     have a0 := cell_of HR8.out.lb 0
                     have al := lt_of_heap HR8.out.lb
                     have hlr8 := HR8.out.lrow
                     rw [show zs.length = (zs.map Told.p).length by simp] at hlr8
                     obtain ⟨gx, hgx, hgl, _, c0, c1⟩ := rowP_at hlr8 HY.out.2
                     injection hgx with hgx
                     injection hgx with hgx _ _
                     subst hgx
                     simp only [List.getElem?_toArray, List.getElem?_cons_zero, List.getElem?_cons_succ] at y0 a0
                     obtain ⟨w10, hst, hym7, hz7, ho7, hos7⟩ := HR9.out.ym.store y.p 0
                     replace hst : (Instr.mapUpdate MpT (.map (some (L0 + 2))) (.agg #[.int .i64 y.p.1, .int .i64 y.p.2]) (.int .i64 0)).run Tryz.prog w8.drew = .ok () w10 := hst
                     have HR10 := Lib.hid (HR9.out.strike hcl.out (List.mem_of_getElem? HY.out.2) hhb2.out hym7 hz7 ho7 hos7)
                     have HO10 : Hid (ones (ySet Y2 y.p 0) < ones Y1) := Nat.lt_trans (ones_drop HR9.out.ym.1 hnz2.out) hlt2.out
                     clear hym7 hz7 ho7 hos7 hlr8
                     go_wp2_with fail
                     go_region
                     all_goals go_wp2_with fail
                     all_goals have hil : i ≤ zs.length := (by have := hck.out; omega)
                     all_goals exact And.intro ⟨_, _, _, _, _, _, _, _, _, _, _, _, _, _, _, _, _, _, _, _, _, _, _, _, _, _, ⟨i, _, rfl, hil, HR10.out, HO10⟩, rfl⟩ (by simp [intOf] <;> omega)
                   · go_wp2_with fail
                     have hil : i ≤ zs.length := by have := hck.out; omega
                     exact And.intro ⟨_, _, _, _, _, _, _, _, _, _, _, _, _, _, _, _, _, _, _, _, _, _, _, _, _, _, ⟨i, Y2, rfl, hil, HR8.out, hlt2⟩, rfl⟩ (by simp [intOf] <;> omega)
                 · have e2 : ((nz2 : Int) == 1) = false := by simp; omega
                   refine wp_region_rup (by kernel_rfl) (by kernel_rfl) ?_
                   repeat (go_big_quiet_step ((go_at_call 47; rename_i i; exact Calls.rup_of i (HCC.out i))))
                   refine wpQuiet_nil ?_
                   intro w8 hw'
                   obtain ⟨i8, hw''⟩ := hw'
                   have hu8 : Up W9 w8 := by rw [hw'']; exact i8.up
                   clear hw'' i8
                   have HR8 := Lib.hid (HRk.out.up' hu8)
                   clear q0 q1 q2 q3 q4 q5 q6 q7 q8 q9 q10
                   go_wp2_with fail
                   have hil : i ≤ zs.length := by have := hck.out; omega
                   exact And.intro ⟨_, _, _, _, _, _, _, _, _, _, _, _, _, _, _, _, _, _, _, _, _, _, _, _, _, _, ⟨i, Y2, rfl, hil, HR8.out, hlt2⟩, rfl⟩ (by simp [intOf] <;> omega)
           · have HD : Hid (∀ (i : Nat) (y : Told), j ≤ i → zs[i]? = some y → look Y1 y.p = 1 → holdsB (G y.p) (fun q => decide (look Y1 q = 1)) = true) := fun i y hi hy hl => by
               rcases Nat.lt_or_ge j i with h | h
               · exact hdone.out i y h hy hl
               · have e : i = j := by omega
                 subst e
                 rw [HZ.out.1] at hy
                 cases hy
                 exact hhb.out
             clear hb6 hdone
             go_wp2_with fail
             exact ⟨⟨j, rfl, by omega, HR6.out, HD⟩, by simp [intOf] <;> omega⟩
         · have e1 : ((nz : Int) == 1) = false := by simp; omega
           refine wp_region_rup (by kernel_rfl) (by kernel_rfl) ?_
           repeat (go_big_quiet_step ((go_at_call 47; rename_i i; exact Calls.rup_of i (HCC.out i))))
           refine wpQuiet_nil ?_
           intro w6 hw'
           obtain ⟨i6, hw''⟩ := hw'
           have hu6 : Up W5 w6 := by rw [hw'']; exact i6.up
           clear hw'' i6
           have HR6 := Lib.hid (HR5.out.up' hu6)
           have hb6 := hu6.get HB5.out
           clear q1 q2 q3 q4 q5 q6 q7 q8 q9 q10
           have HD : Hid (∀ (i : Nat) (y : Told), j ≤ i → zs[i]? = some y → look Y1 y.p = 1 → holdsB (G y.p) (fun q => decide (look Y1 q = 1)) = true) := fun i y hi hy hl => by
             rcases Nat.lt_or_ge j i with h | h
             · exact hdone.out i y h hy hl
             · have e : i = j := by omega
               subst e
               rw [HZ.out.1] at hy
               cases hy
               rw [hnz.out] at hl
               exact absurd hl h1
           clear hb6 hdone
           go_wp2_with fail
           exact ⟨⟨j, rfl, by omega, HR6.out, HD⟩, by simp [intOf] <;> omega⟩
end Go.Proofs.YtiaepldmgighbaaGreatDoor
