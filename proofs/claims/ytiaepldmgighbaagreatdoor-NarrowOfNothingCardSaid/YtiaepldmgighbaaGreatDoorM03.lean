import Derived.RangeFuncNested
import Derived.Test.YtiaepldmgighbaaGreatDoorM02
namespace Go.Proofs.YtiaepldmgighbaaGreatDoor
open Go.RowKit
structure Tags where
 own : Nat → Prop
 kept : Nat → Prop
structure Steps (own own' : Tags) (W W' : World) : Prop where
 os : W'.os = W.os
 tape : W'.tape = W.tape
 output : W'.output = W.output
 size : W.heap.size ≤ W'.heap.size
 same : ∀ b, b < W.heap.size → ¬ own.own b → W'.heap[b]? = W.heap[b]?
 news : ∀ b, own'.own b → own.own b ∨ W.heap.size ≤ b
 keeps : ∀ b, own'.kept b → own.kept b ∨ W.heap.size ≤ b
structure KeepOwn (own : Nat → Prop) (W W' : World) : Prop where
 os : W'.os = W.os
 tape : W'.tape = W.tape
 output : W'.output = W.output
 size : W.heap.size ≤ W'.heap.size
 same : ∀ b, own b → W'.heap[b]? = W.heap[b]?
theorem Steps.refl (own : Tags) (W : World) : Steps own own W W := ⟨rfl, rfl, rfl, Nat.le_refl _, fun _ _ _ => rfl, fun _ h => .inl h, fun _ h => .inl h⟩
theorem Steps.trans {o1 o2 o3 : Tags} {A B C : World} (h : Steps o1 o2 A B) (k : Steps o2 o3 B C) : Steps o1 o3 A C where
 os := k.os.trans h.os
 tape := k.tape.trans h.tape
 output := k.output.trans h.output
 size := Nat.le_trans h.size k.size
 same b hb hn := (k.same b (Nat.lt_of_lt_of_le hb h.size) (fun e => by rcases h.news b e with q | q; exact hn q; omega)).trans (h.same b hb hn)
 news b hb := by
   rcases k.news b hb with q | q
   · exact h.news b q
   · exact .inr (Nat.le_trans h.size q)
 keeps b hb := by
   rcases k.keeps b hb with q | q
   · exact h.keeps b q
   · exact .inr (Nat.le_trans h.size q)
theorem Steps.up {own own' : Tags} {W W' : World} (h : Up W W') (hn : ∀ b, own'.own b → own.own b ∨ W.heap.size ≤ b) (hk : ∀ b, own'.kept b → own.kept b ∨ W.heap.size ≤ b) : Steps own own' W W' := ⟨h.os, h.tape, h.output, h.size, fun b hb _ => h.block b hb, hn, hk⟩
theorem KeepOwn.refl (own : Nat → Prop) (W : World) : KeepOwn own W W := ⟨rfl, rfl, rfl, Nat.le_refl _, fun _ _ => rfl⟩
theorem KeepOwn.trans {own : Nat → Prop} {A B C : World} (h : KeepOwn own A B) (k : KeepOwn own B C) : KeepOwn own A C := ⟨k.os.trans h.os, k.tape.trans h.tape, k.output.trans h.output, Nat.le_trans h.size k.size, fun b hb => (k.same b hb).trans (h.same b hb)⟩
theorem KeepOwn.up {own : Nat → Prop} {W W' : World} (h : Up W W') (ho : ∀ b, own b → b < W.heap.size) : KeepOwn own W W' := ⟨h.os, h.tape, h.output, h.size, fun b hb => h.block b (ho b hb)⟩
theorem KeepOwn.get {own : Nat → Prop} {W W' : World} (h : KeepOwn own W W') {b : Nat} {o : Obj} (hb : own b) (ho : W.heap[b]? = some o) : W'.heap[b]? = some o := (h.same b hb).trans ho
theorem KeepOwn.mono {own own' : Nat → Prop} {W W' : World} (h : KeepOwn own W W') (k : ∀ b, own' b → own b) : KeepOwn own' W W' := ⟨h.os, h.tape, h.output, h.size, fun b hb => h.same b (k b hb)⟩
theorem KeepOwn.grown {own : Nat → Prop} {W W' : World} {row : Option Nat} (hg : W.grownBy W' row) (ho : ∀ b, own b → b < W.heap.size) (hr : ∀ r, row = some r → ¬ own r) : KeepOwn own W W' :=
 ⟨hg.os, hg.tape, hg.output, hg.size, fun b hb => hg.block b (ho b hb) (fun e => hr b e.symm hb)⟩
theorem Steps.grown {own : Tags} {W W' : World} {row : Option Nat} (hg : W.grownBy W' row) (hr : ∀ r, row = some r → own.own r) : Steps own own W W' :=
 ⟨hg.os, hg.tape, hg.output, hg.size, fun b hb hn => hg.block b hb (fun e => hn (hr b e.symm)), fun _ h => .inl h, fun _ h => .inl h⟩
theorem Steps.more {o1 o2 o3 : Tags} {W W' : World} (h : Steps o1 o2 W W') (hn : ∀ b, o3.own b → o2.own b ∨ W.heap.size ≤ b) (hk : ∀ b, o3.kept b → o2.kept b ∨ W.heap.size ≤ b) : Steps o1 o3 W W' :=
 { h with news := fun b hb => by rcases hn b hb with q | q; exact h.news b q; exact .inr q
          keeps := fun b hb => by rcases hk b hb with q | q; exact h.keeps b q; exact .inr q }
abbrev InvA (α : Type) := List α → Tags → World → Prop
def Abides {α : Type} (J : InvA α) : Prop := ∀ (s : List α) (own own' : Tags) (W W' : World), J s own W → Steps own own' W W' → J s own' W'
def SeqTells {α : Type} (F : Fence) (n : Nat) (P : Program) (g : Nat) (lb : Array Value) (encs : α → Array Value) (Px : α → Tags → World → Prop) (S Sp : List α → Prop) (N : Nat) (own0 : Tags) (w : World) : Prop :=
 ∀ (l : Nat) (J Jx : InvA α) (W : World), Up w W → Abides J → Abides Jx →
   (∀ pre x own W1, J pre own W1 → Px x own W1 → (∀ b, own.own b ∨ own.kept b → b < W1.heap.size) → pre.length < N → YieldAt F (n - 1) P l (encs x) W1 fun e W' =>
     (e = .returned (.bool true) ∧ J (pre ++ [x]) own W' ∧ KeepOwn own.kept W1 W') ∨ (e = .returned (.bool false) ∧ Jx (pre ++ [x]) own W')) →
   J [] own0 W →
   CallsIn F n P g (#[.func (.yield l) #[] #[]] ++ lb) W fun e W' => (∃ v, e = .returned v) ∧ ((∃ xs own, S xs ∧ J xs own W') ∨ (∃ pre own, Sp pre ∧ Jx pre own W'))
def tellPost {α : Type} (I : InvA α) (Ix : Code → InvA α) (own : Tags) (xs : List α) (W : World) : Exit → Act → World → Prop
 | .normal, _, W' => KeepOwn own.kept W W' ∧ I xs own W'
 | .ret, _, W' => KeepOwn own.kept W W' ∧ Ix .ret xs own W'
 | .exit id, _, W' => KeepOwn own.kept W W' ∧ Ix (.exit id) xs own W'
 | .goto t, _, W' => KeepOwn own.kept W W' ∧ Ix (.goto t) xs own W'
 | .panic _, _, _ => False
 | .outgrown, _, _ => False
variable {F : Fence} {n : Nat} {P : Program}
theorem range_tells {α : Type} {g : Operand} {ps : Array Tmp} {assign body : Code} {Q : Exit → Act → World → Prop} {a : Act} {w : World}
   (hro : F.round = none) (h1 : 1 ≤ n) {gf : Nat} {lb : Array Value} (hg : a.eval g = .func (.func gf) #[] lb) (hFg : F.fn gf) (eg : ∀ args w, (callFunc gf args).run P w = .ok (.enter gf args) w)
   {encs : α → Array Value} {Px : α → Tags → World → Prop} {S Sp : List α → Prop} {N : Nat} {own0 : Tags} (hseq : SeqTells F (n - 1) P gf lb encs Px S Sp N own0 w) (how : ∀ b, own0.own b ∨ own0.kept b → b < w.heap.size) (hps : ∀ x, (encs x).size = ps.size)
   (hPu : ∀ (x : α) (t : Tags) (W W' : World), Up W W' → Px x t W → Px x t W') (hPx : ∀ (x : α) (t t' : Tags) (W : World) (l : Nat) (o o' : Obj), W.heap[l]? = some o → o.isCells = false → (∀ b, t'.own b → t.own b ∨ ∃ o, W.heap[b]? = some o ∧ o.isCells = false) → (∀ b, t.kept b → t'.kept b) → Px x t W → Px x t' (W.putObj l o'))
   (I : InvA α) (Ix : Code → InvA α) (hI : Abides I) (hIx : ∀ c, Abides (Ix c)) (h0 : I [] own0 w) (a₁ : α → Nat → Act) (Bx : α → Nat → World → Prop) (hBx : ∀ (x : α) (m : Nat) (W : World) (l : Nat) (o : Obj), l < m → Bx x m W → Bx x m (W.putObj l o))
   (hassign : ∀ (l : Nat) (x : α) (W : World) (K : Act → World → Prop), (∀ W', Up W W' → Bx x W.heap.size W' → K (a₁ x W.heap.size) W') →
     assign.wpIn (F.inRound l) (n - 1 - 1) P (Exit.then K (fun _ _ _ => False)) { tmps := (ps.zip (encs x)).foldl (fun t (p, v) => t.setIfInBounds p v) a.tmps, defers := [] } W)
   (hbody : ∀ (l : Nat) (pre : List α) (x : α) (own : Tags) (W0 W : World), I pre own W0 → Steps own own W0 W → Px x own W → Bx x W0.heap.size W → (∀ b, own.own b ∨ own.kept b → b < W0.heap.size) → pre.length < N → body.wpIn (F.inRound l) (n - 1 - 1) P (tellPost I Ix own (pre ++ [x]) W) (a₁ x W0.heap.size) W)
   (hdone : ∀ (D : Nat) (xs : List α) (own : Tags) (W : World), w.heap.size ≤ D → S xs → I xs own W → W.heap[D]? = some (.deferred (some [])) → Q .normal { a with defers := { target := .collected D, args := #[] } :: a.defers } W)
   (hstop : ∀ (D : Nat) (c : Code) (pre : List α) (own : Tags) (W : World), w.heap.size ≤ D → Sp pre → Ix c pre own W → W.heap[D]? = some (.deferred (some [])) → c.wpIn F n P Q { a with defers := { target := .collected D, args := #[] } :: a.defers } W) :
   (Code.rangeFunc g ps assign body).wpIn F n P Q a w := by
 refine wpIn_rangeFunc fun fn hfn => ?_
 rw [hro]
 obtain ⟨R, hR⟩ : ∃ R : LoopState → Option Code → Loop, R = fun s c => { state := s, pending := c, fn, tmps := a.tmps, params := ps, assign, body, defers := w.heap.size } := ⟨_, rfl⟩
 obtain ⟨V, hV⟩ : ∃ V, V = (w.alloc (.deferred (some []))).alloc (.loop (R .ready none)) := ⟨_, rfl⟩
 have hlist : V.heap[w.heap.size]? = some (.deferred (some [])) := by rw [hV]; exact (alloc_old _ _ _ (by simp)).trans (alloc_get _ _)
 have hloop : V.heap[w.heap.size + 1]? = some (.loop (R .ready none)) := by
   have := alloc_get (w.alloc (.deferred (some []))) (.loop (R .ready none))
   rw [World.size_alloc] at this
   rw [hV]; exact this
 have hVu : Up w V := by rw [hV]; exact uq
 let Rec : Nat → Prop := fun b => b = w.heap.size ∨ b = w.heap.size + 1
 let More : Tags → Tags := fun own => ⟨fun b => own.own b ∨ Rec b, fun b => own.kept b ∨ Rec b⟩
 let Two : Loop → Tags → World → Prop := fun r own W => W.heap[w.heap.size + 1]? = some (.loop r) ∧ W.heap[w.heap.size]? = some (.deferred (some [])) ∧ (∀ b, Rec b → ¬ own.own b ∧ ¬ own.kept b)
 have two : ∀ (r : Loop) (own own' : Tags) (A B : World), Two r own A → Steps own own' A B → Two r own' B := fun r own own' A B h k => by
   have q1 := lt_of_heap h.1
   have q2 := lt_of_heap h.2.1
   refine ⟨(k.same _ q1 (h.2.2 _ (.inr rfl)).1).trans h.1, (k.same _ q2 (h.2.2 _ (.inl rfl)).1).trans h.2.1, fun b hb => ⟨fun e => ?_, fun e => ?_⟩⟩
   · rcases k.news _ e with q | q
     · exact (h.2.2 b hb).1 q
     · rcases hb with hb | hb <;> omega
   · rcases k.keeps _ e with q | q
     · exact (h.2.2 b hb).2 q
     · rcases hb with hb | hb <;> omega
 have more : ∀ (own own' : Tags) (A B : World), Steps own own' A B → Steps (More own) (More own') A B := fun own own' A B k =>
   { k with same := fun b hb hn => k.same b hb (fun e => hn (.inl e)), news := fun b hb => by (rcases hb with hb | hb; exact (k.news b hb).imp .inl id; exact .inl (.inr hb)), keeps := fun b hb => by (rcases hb with hb | hb; exact (k.keeps b hb).imp .inl id; exact .inl (.inr hb)) }
 have put : ∀ (own : Tags) (A : World) (o : Obj), Steps (More own) (More own) A (A.putObj (w.heap.size + 1) o) := fun own A o =>
   ⟨rfl, rfl, rfl, by simp, fun b _ hn => World.putObj_heap_other (fun e => hn (.inr (.inr e))), fun _ h => .inl h, fun _ h => .inl h⟩
 refine ⟨w.heap.size + 1, [{ target := .collected w.heap.size, args := #[] }], V, { target := .fn (.func gf) lb, args := #[.func (.yield (w.heap.size + 1)) #[] #[]] }, V, gf,
   #[.func (.yield (w.heap.size + 1)) #[] #[]] ++ lb, V, ?_, ?_, ?_, ?_, fun _ => h1, ?_⟩
 · rw [hV, hR]; exact run_enterLoop_outer _ _ _ _ _
 · simp only [resolve, hg]
   simp [go_sem]
 · intro f' hf'
   simp [Target.leads] at hf'
   subst hf'
   exact hFg
 · simp [invoke, go_sem, eg]
 refine (hseq (w.heap.size + 1) (fun pre own W => I pre (More own) W ∧ Two (R .ready none) own W) (fun pre own W => ∃ c, Ix c pre (More own) W ∧ Two (R .done (some c)) own W) V hVu
   (fun s own own' A B h k => ⟨hI s _ _ A B h.1 (more _ _ _ _ k), two _ _ _ _ _ h.2 k⟩)
   (fun s own own' A B ⟨c, hc, h⟩ k => ⟨c, hIx c s _ _ A B hc (more _ _ _ _ k), two _ _ _ _ _ h k⟩) ?_
   ⟨hI _ _ _ _ _ h0 (.up hVu (fun b hb => hb.imp id fun q => by rcases q with q | q <;> omega) (fun b hb => hb.imp id fun q => by rcases q with q | q <;> omega)), hloop, hlist, fun b hb => ⟨fun e => by have := how b (.inl e); rcases hb with hb | hb <;> omega, fun e => by have := how b (.inr e); rcases hb with hb | hb <;> omega⟩⟩).mono ?_
 · -- a round
   rintro pre x own W0 ⟨hi, hl, hd, hn⟩ hpx hown hlen
   have hn2 := (hn _ (.inr rfl)).2
   have hlt0 : w.heap.size + 1 < W0.heap.size := lt_of_heap hl
   have hy := run_yield (P := P) (args := encs x) hl (by rw [hR]; exact hps x)
   rw [hR] at hy
   refine ⟨fn, _, assign, body, hy, roundIn_of_wpIn hfn (hassign _ x W0 _ fun W hu0 hbx => ?_)⟩
   have k00 : Steps (More own) (More own) W0 W := .up hu0 (fun _ h => .inl h) (fun _ h => .inl h)
   have hl := hu0.get hl
   have hd := hu0.get hd
   have hpx := hPu _ _ _ _ hu0 hpx
   have k0 : KeepOwn own.kept W0 W := .up hu0 (fun b hb => hown b (.inr hb))
   refine ⟨_, run_beginRound hl (by rw [hR]), ?_⟩
   obtain ⟨W2, hW2⟩ : ∃ W2, W2 = W.putObj (w.heap.size + 1) (.loop { R .ready none with state := .busy }) := ⟨_, rfl⟩
   have hlt : w.heap.size + 1 < W.heap.size := lt_of_heap hl
   have s2 : Steps (More own) (More own) W W2 := by rw [hW2]; exact put _ _ _
   have l2 : W2.heap[w.heap.size + 1]? = some (.loop { R .ready none with state := .busy }) := by rw [hW2]; exact World.putObj_heap_same hlt
   have d2 : W2.heap[w.heap.size]? = some (.deferred (some [])) := by rw [hW2]; exact (World.putObj_heap_other (by omega)).trans hd
   have k2 : KeepOwn own.kept W W2 := by rw [hW2]; exact ⟨rfl, rfl, rfl, by simp, fun b hb => World.putObj_heap_other (fun e => hn2 (by rw [← e]; exact hb))⟩
   have b2 := hbody (w.heap.size + 1) pre x (More own) W0 W2 hi (k00.trans s2) (by rw [hW2]; exact hPx _ own _ _ _ _ _ hl rfl (fun b hb => hb.imp id fun q => by (rcases q with q | q; exact ⟨_, by rw [q]; exact hd, rfl⟩; exact ⟨_, by rw [q]; exact hl, rfl⟩)) (fun b hb => .inl hb) hpx) (by rw [hW2]; exact hBx _ _ _ _ _ hlt0 hbx) (fun b hb => by
     rcases hb with (hb | hb) | hb | hb
     · exact hown b (.inl hb)
     · rcases hb with hb | hb <;> omega
     · exact hown b (.inr hb)
     · rcases hb with hb | hb <;> omega) hlen
   rw [hW2] at b2
   refine wpIn_mono b2 ?_
   rw [← hW2]
   have ends : ∀ (jump : Option Code) (W3 : World), KeepOwn (More own).kept W2 W3 →
       (Instr.endRound (w.heap.size + 1) jump).run P W3 = .ok (.bool jump.isNone) (W3.putObj (w.heap.size + 1) (.loop (R (if jump.isNone then .ready else .done) jump))) ∧ Two (R (if jump.isNone then .ready else .done) jump) own (W3.putObj (w.heap.size + 1) (.loop (R (if jump.isNone then .ready else .done) jump))) := by
     intro jump W3 k3
     have l3 := k3.get (.inr (.inr rfl)) l2
     have d3 := k3.get (.inr (.inl rfl)) d2
     have hr := run_endRound (P := P) jump l3
     rw [hR] at hr l3 ⊢
     exact ⟨hr, World.putObj_heap_same (lt_of_heap l3), (World.putObj_heap_other (by omega)).trans d3, hn⟩
   have stop : ∀ (c : Code) (W3 : World), KeepOwn (More own).kept W2 W3 → Ix c (pre ++ [x]) (More own) W3 → ∃ v W4, (Instr.endRound (w.heap.size + 1) (some c)).run P W3 = .ok v W4 ∧
       ((Ending.returned v = .returned (.bool true) ∧ (I (pre ++ [x]) (More own) W4 ∧ Two (R .ready none) own W4) ∧ KeepOwn own.kept W0 W4) ∨ (Ending.returned v = .returned (.bool false) ∧ ∃ c, Ix c (pre ++ [x]) (More own) W4 ∧ Two (R .done (some c)) own W4)) := fun c W3 k3 i3 => by
     obtain ⟨hr, t3⟩ := ends (some c) W3 k3
     exact ⟨_, _, hr, .inr ⟨rfl, c, hIx c _ _ _ _ _ i3 (put _ _ _), t3⟩⟩
   rintro e a3 W3 hp
   cases e with
   | normal =>
     obtain ⟨k3, i3⟩ := hp
     obtain ⟨hr, t3⟩ := ends none W3 k3
     exact ⟨_, _, hr, .inl ⟨rfl, ⟨hI _ _ _ _ _ i3 (put _ _ _), t3⟩, ((k0.trans k2).trans (k3.mono fun b hb => .inl hb)).trans ⟨rfl, rfl, rfl, by simp, fun b hb => World.putObj_heap_other (fun e => hn2 (by rw [← e]; exact hb))⟩⟩⟩
   | ret => exact stop _ W3 hp.1 hp.2
   | exit id => exact stop _ W3 hp.1 hp.2
   | goto t => exact stop _ W3 hp.1 hp.2
   | panic ch => exact hp.elim
   | outgrown => exact hp.elim
 · -- behind the iterator
   rintro e W2 ⟨⟨v, rfl⟩, ⟨xs, own, hS, hi, hl, hd, _⟩ | ⟨pre, own, hSp, c, hi, hl, hd, _⟩⟩
   · have hr := run_endLoop (P := P) hl (by rw [hR]; simp)
     rw [hR] at hr
     exact ⟨none, _, hr, hdone _ xs _ _ (Nat.le_refl _) hS (hI _ _ _ _ _ hi (put _ _ _)) ((World.putObj_heap_other (by omega)).trans hd)⟩
   · have hr := run_endLoop (P := P) hl (by rw [hR]; simp)
     rw [hR] at hr
     exact ⟨some c, _, hr, hstop _ c pre _ _ (Nat.le_refl _) hSp (hIx c _ _ _ _ _ hi (put _ _ _)) ((World.putObj_heap_other (by omega)).trans hd)⟩
end Go.Proofs.YtiaepldmgighbaaGreatDoor
