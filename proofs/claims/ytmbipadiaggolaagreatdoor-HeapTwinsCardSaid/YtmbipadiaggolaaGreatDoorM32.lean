import Derived.Deep.CutRange
import Derived.Deep.DeepCutAuto
import Derived.Test.YtmbipadiaggolaaGreatDoorM31
/- YtmbipadiaggolaaGreatDoorM32: lemmas of the proof, in order: ShowG. -/
/- Show: the round of a thing whose parts are shown: what it keeps, how it ends. -/
namespace Go.Proofs.YtmbipadiaggolaaGreatDoor
open Go.RowKit
set_option linter.unusedSimpArgs false

theorem cell_set_ne {w : World} {b c i j : Nat} {v : Value} (h : c ≠ b) : (w.setCell ⟨b, i, none⟩ v).cell? ⟨c, j, none⟩ = w.cell? ⟨c, j, none⟩ := by
  simp [World.cell?, setCell_other h]
theorem sign_arr0 : (({ data := #[91, 93] } : ByteArray).extract 0 1) = ⟨#[91]⟩ := by decide
theorem sign_arr1 : (({ data := #[91, 93] } : ByteArray).extract 1 2) = ⟨#[93]⟩ := by decide
theorem sign_obj0 : (({ data := #[123, 125] } : ByteArray).extract 0 1) = ⟨#[123]⟩ := by decide
theorem sign_obj1 : (({ data := #[123, 125] } : ByteArray).extract 1 2) = ⟨#[125]⟩ := by decide

/-- a block of the function's own, no part of the text that is laid -/
structure Boxd (sb : Nat) (W : World) (x : Nat) (o : Obj) : Prop where
  at_ : W.heap[x]? = some o
  ne : x ≠ sb
  buf : bufOf W sb ≠ some x

theorem Boxd.on {sb x : Nat} {W W' : World} {o : Obj} (h : Boxd sb W x o) (k : Showed sb W W') : Boxd sb W' x o :=
  ⟨k.get h.at_ h.ne h.buf, h.ne, fun e => by
    rcases k.buf x e with e | e
    · exact h.buf e
    · have := lt_of_heap h.at_; omega⟩
theorem Boxd.up {sb x : Nat} {W W' : World} {o : Obj} (h : Boxd sb W x o) (k : Up W W') (hsb : sb < W.heap.size) : Boxd sb W' x o := h.on (Showed.of_up k hsb)
theorem ShowAt.fresh {B sb : Nat} {hv : Value} {bs : List UInt8} {w : World} (h : ShowAt B sb hv bs w) (o : Obj) : Boxd sb (w.alloc o) w.heap.size o :=
  ⟨alloc_get w o, by have := h.lt; omega, by
    rw [bufOf_up (alloc_old w o sb h.lt)]
    intro e
    have := (h.buf _ e).2; omega⟩

theorem ShowAt.setOther {B sb : Nat} {hv : Value} {bs : List UInt8} {w : World} (h : ShowAt B sb hv bs w) {k i : Nat} {v : Value} (h1 : k ≠ sb) (h2 : bufOf w sb ≠ some k) : ShowAt B sb hv bs (w.setCell ⟨k, i, none⟩ v) := by
  obtain ⟨p, u, e1, e2, e3, e4⟩ := h.there
  refine ⟨h.base, by rw [setCell_size]; exact h.room, p, u, by rw [setCell_other h1.symm]; exact e1, e2, ownsRow_keep e3 fun g hg => setCell_other (fun e => ?_) _, e4⟩
  subst e
  exact h2 (by rw [bufOf_eq e1]; exact hg)
theorem bufOf_set {w : World} {sb k i : Nat} {v : Value} (h : k ≠ sb) : bufOf (w.setCell ⟨k, i, none⟩ v) sb = bufOf w sb := bufOf_up (setCell_other h.symm _)
theorem Showed.setOther {sb : Nat} {a w : World} (hw : Showed sb a w) {k i : Nat} {v : Value} (hk : a.heap.size ≤ k) (h1 : k ≠ sb) : Showed sb a (w.setCell ⟨k, i, none⟩ v) where
  kept := hw.kept.setCell (.inr hk) v
  buf := fun b hb => hw.buf b (by rw [← hb, bufOf_set h1])

/-- behind the opening sign: the box of 'fits' -/
def OpenAt (B sb : Nat) (hv : Value) (w1 : World) (bs : List UInt8) (b : Bool) (v : Value) (W : World) : Prop :=
  ∃ k, v = .pointer (some ⟨k, 0, none⟩) ∧ w1.heap.size ≤ k ∧ Boxd sb W k (.cells #[.bool b] 4 (0, 0)) ∧ ShowAt B sb hv bs W ∧ Showed sb w1 W

theorem OpenAt.late {B sb : Nat} {hv : Value} {w1 w3 : World} {bs0 bs : List UInt8} {b : Bool} (h : ShowAt B sb hv bs0 w1) (hS : ShowAt B sb hv bs w3) (hK : Showed sb w1.drew w3) :
    OpenAt B sb hv w1 bs b (.pointer (some ⟨w3.heap.size, 0, none⟩)) (w3.alloc (.cells #[.bool b] 4)) :=
  ⟨_, rfl, hK.kept.size, hS.fresh _, hS.up ((Up.refl w3).alloc _), ((Showed.of_up (Up.refl w1).drew h.lt).trans hK).up ((Up.refl w3).alloc _) hS.lt⟩

theorem OpenAt.early {B sb : Nat} {hv : Value} {w1 w3 : World} {bs0 bs : List UInt8} {b : Bool} (h : ShowAt B sb hv bs0 w1) (hS : ShowAt B sb hv bs w3) (hK : Showed sb (w1.alloc (.cells #[.bool false] 4)).drew w3) :
    OpenAt B sb hv w1 bs b (.pointer (some ⟨w1.heap.size, 0, none⟩)) (w3.setCell ⟨w1.heap.size, 0, none⟩ (.bool b)) := by
  have hb : Boxd sb (w1.alloc (.cells #[.bool false] 4)).drew w1.heap.size (.cells #[.bool false] 4 (0, 0)) := (h.fresh _).up ((Up.refl _).drew) (by have := h.lt; simp; omega)
  have hb3 := hb.on hK
  refine ⟨_, rfl, Nat.le_refl _, ⟨?_, hb.ne, ?_⟩, hS.setOther hb.ne hb3.buf, ((Showed.of_up (uq) h.lt).trans hK).setOther (Nat.le_refl _) hb.ne⟩
  · have := setCell_block (i := 0) hb3.at_ (.bool b)
    simpa using this
  · rw [bufOf_set hb.ne]; exact hb3.buf

/-- what a call that lays text answers and leaves -/
def SaidIn (B sb : Nat) (hv : Value) (H : HM) (tvs : List Value) (own : Own) (r : Bool × List UInt8) (w : World) (e : Ending) (w' : World) : Prop :=
  e = .returned (.bool r.1) ∧ ShowIn B sb hv H tvs own r.2 w' ∧ Showed sb w w'

theorem says_in {B sb : Nat} {hv : Value} {H : HM} {tvs : List Value} {own : Own} {bs : List UInt8} {w : World} (s : ByteArray) (h : ShowIn B sb hv H tvs own bs w) :
    Calls Tryz.prog 56 #[.pointer (some ⟨sb, 0, none⟩), .string s] w (SaidIn B sb hv H tvs own (say bs s) w) :=
  (says_any B sb hv bs s w h.at_ h.len).mono fun _ _ ⟨h1, h2, h3⟩ => ⟨h1, h.on h3 h2 (laid_len h.len), h3⟩

theorem say_len {bs : List UInt8} {s : ByteArray} (h : bs.length ≤ 65536) : (say bs s).2.length ≤ 65536 := laid_len h
theorem stepPart_len {rec : Val → List UInt8 → Bool × List UInt8} (hr : ∀ v bs, bs.length ≤ 65536 → (rec v bs).2.length ≤ 65536) (x : Part) {bs : List UInt8} (h : bs.length ≤ 65536) : (stepPart rec x bs).2.length ≤ 65536 := by
  unfold stepPart
  dsimp only
  have h1 : (if 0 < x.i then say bs commaS else (true, bs)).2.length ≤ 65536 := by split; exact say_len h; exact h
  generalize (if 0 < x.i then say bs commaS else (true, bs)) = a at h1 ⊢
  split
  · exact h1
  · have h2 : (if x.keyed = true then say a.2 (x.key ++ colonS) else (true, a.2)).2.length ≤ 65536 := by split; exact say_len h1; exact h1
    generalize (if x.keyed = true then say a.2 (x.key ++ colonS) else (true, a.2)) = b at h2 ⊢
    split
    · exact h2
    · exact hr _ _ h2
theorem showParts_len {rec : Val → List UInt8 → Bool × List UInt8} (hr : ∀ v bs, bs.length ≤ 65536 → (rec v bs).2.length ≤ 65536) : ∀ (l : List Part) {bs : List UInt8}, bs.length ≤ 65536 → (showParts rec l bs).2.length ≤ 65536
  | [], _, h => h
  | x :: l, bs, h => by
    unfold showParts
    split
    · exact stepPart_len hr x h
    · exact showParts_len hr l (stepPart_len hr x h)
theorem HM.showV_len (H : HM) (q : ByteArray → ByteArray) : ∀ (f : Nat) (v : Val) {bs : List UInt8}, bs.length ≤ 65536 → (H.showV q f v bs).2.length ≤ 65536
  | 0, v, bs, h => by
    unfold HM.showV
    split
    · exact say_len h
    · split
      · exact say_len h
      · split
        · exact say_len h
        · split
          · exact say_len h
          · exact say_len h
  | f + 1, v, bs, h => by
    unfold HM.showV
    split
    · exact say_len h
    · split
      · exact say_len h
      · split
        · exact say_len h
        · split
          · exact say_len h
          · dsimp only
            have h1 := showParts_len (fun v bs hb => HM.showV_len H q f v hb) (partsOf ‹Thing›) (laid_len (s := opens ‹Thing›) h)
            split
            · exact say_len h1
            · exact h1

theorem showParts_off (rec : Val → List UInt8 → Bool × List UInt8) : ∀ (l m : List Part) (bs : List UInt8), l <+: m → (showParts rec l bs).1 = false → showParts rec m bs = (false, (showParts rec l bs).2)
  | [], m, bs, _, h => by simp [showParts] at h
  | x :: l, [], bs, hp, _ => by simp at hp
  | x :: l, y :: m, bs, hp, h => by
    obtain ⟨rfl, hq⟩ := List.cons_prefix_cons.1 hp
    simp only [showParts] at h ⊢
    split
    · rfl
    · rename_i h1
      rw [if_neg h1] at h
      exact showParts_off rec l m _ hq h

theorem ShowAt.keeps {B sb : Nat} {hv : Value} {bs : List UInt8} {w W' : World} (h : ShowAt B sb hv bs w) (k : Showed sb w W') (n : Nat) : KeepsFrom n w W' where
  size := k.kept.size
  same := fun x o _ hx hc => by
    obtain ⟨p, v, h1, _, h3, _⟩ := h.there
    refine k.get hx (fun e => ?_) (fun e => ?_)
    · subst e; rw [hx] at h1; cases h1; cases hc
    · rw [bufOf_eq h1] at e
      rcases h3.2 with ⟨rfl, _⟩ | ⟨g, cap, cur, rfl, _, hg, _⟩
      · cases e
      · cases e; rw [hx] at hg; cases hg; cases hc

theorem Showed.belowB {B sb : Nat} {hv : Value} {bs : List UInt8} {w w' : World} (k : Showed sb w w') (h : ShowAt B sb hv bs w) : Below B w w' := ⟨k.kept.os, k.kept.tape, k.kept.output, k.kept.size, fun b hb => k.below h b hb⟩

theorem ShowIn.grown {B sb : Nat} {hv : Value} {H : HM} {tvs : List Value} {own : Own} {bs : List UInt8} {w w' : World} {row : Option Nat} (h : ShowIn B sb hv H tvs own bs w) (hg : w.grownBy w' row)
    (hr : ∀ r, row = some r → B ≤ r ∧ ∃ o : Obj, w.heap[r]? = some o ∧ o.isCells = false) : ShowIn B sb hv H tvs own bs w' := by
  have hk : ∀ (b : Nat) (o : Obj), w.heap[b]? = some o → o.isCells = true → w'.heap[b]? = some o := fun b o hb ho => by
    rw [hg.block b (lt_of_heap hb) (fun e => by
      obtain ⟨_, o', h1, h2⟩ := hr b e.symm
      rw [hb] at h1; cases h1; rw [ho] at h2; cases h2)]
    exact hb
  refine ⟨hrep_show h.heap h.low hg.size (fun b hb => hg.block b (Nat.lt_of_lt_of_le hb h.at_.room) (fun e => by have := (hr b e.symm).1; omega)), h.low, ?_, h.len⟩
  obtain ⟨p, v, h1, h2, h3, h4⟩ := h.at_.there
  refine ⟨h.at_.base, Nat.le_trans h.at_.room hg.size, p, v, hk _ _ h1 rfl, h2, ⟨h3.1, ?_⟩, h4⟩
  rcases h3.2 with h5 | ⟨g, cap, cur, hv', hg', hc, r⟩
  · exact .inl h5
  · exact .inr ⟨g, cap, cur, hv', hg', hk _ _ hc rfl, r⟩

theorem Showed.grown {sb : Nat} {a w w' : World} {row : Option Nat} (h : Showed sb a w) (hsb : sb < a.heap.size) (hg : w.grownBy w' row) (hr : ∀ r, row = some r → a.heap.size ≤ r) : Showed sb a w' where
  kept := h.kept.grow hg fun k hk => .inr (hr k hk)
  buf := fun x e => h.buf x (by rw [← e]; exact (bufOf_up (hg.block sb (Nat.lt_of_lt_of_le hsb h.kept.size) (fun e => by have := hr sb e.symm; omega))).symm)

/-- Showed, but that one box more may have turned -/
structure ShowedX (k sb : Nat) (w w' : World) : Prop where
  kept : Kept (fun b => b = k ∨ b = sb ∨ bufOf w sb = some b) w w'
  buf : ∀ b, bufOf w' sb = some b → bufOf w sb = some b ∨ w.heap.size ≤ b
theorem ShowedX.of {k sb : Nat} {a w : World} (h : Showed sb a w) (v : Value) (i : Nat) (hk : k ≠ sb) : ShowedX k sb a (w.setCell ⟨k, i, none⟩ v) where
  kept := Kept.setCell ⟨h.kept.os, h.kept.tape, h.kept.output, h.kept.size, fun b hb hn => h.kept.block b hb (fun e => hn (.inr e))⟩ (.inl (.inl rfl)) v
  buf := fun b hb => h.buf b (by rw [← hb, bufOf_set hk])
theorem ShowedX.grown {k sb : Nat} {a w w' : World} {row : Option Nat} (h : ShowedX k sb a w) (hsb : sb < a.heap.size) (hg : w.grownBy w' row) (hr : ∀ r, row = some r → a.heap.size ≤ r) : ShowedX k sb a w' where
  kept := h.kept.grow hg fun k hk => .inr (hr k hk)
  buf := fun x e => h.buf x (by rw [← e]; exact (bufOf_up (hg.block sb (Nat.lt_of_lt_of_le hsb h.kept.size) (fun e => by have := hr sb e.symm; omega))).symm)
/-- the box lies beyond where the call began -/
theorem ShowedX.after {k sb : Nat} {w a w' : World} (h0 : Showed sb w a) (h : ShowedX k sb a w') (hk : w.heap.size ≤ k) : Showed sb w w' where
  kept := ⟨h.kept.os.trans h0.kept.os, h.kept.tape.trans h0.kept.tape, h.kept.output.trans h0.kept.output, Nat.le_trans h0.kept.size h.kept.size, fun x hx hn =>
    (h.kept.block x (Nat.lt_of_lt_of_le hx h0.kept.size) (fun e => by
      rcases e with e | e | e
      · omega
      · exact hn (.inl e)
      · rcases h0.buf x e with e | e
        · exact hn (.inr e)
        · omega)).trans (h0.kept.block x hx hn)⟩
  buf := fun x e => by
    rcases h.buf x e with e | e
    · exact h0.buf x e
    · exact .inr (Nat.le_trans h0.kept.size e)

section
variable {B sb : Nat} {hv : Value} {H : HM} {tvs : List Value} {own : Own} (rec : Val → List UInt8 → Bool × List UInt8) {okP : Part → Prop} (bs1 : List UInt8) (W4 : World) (kF : Nat)

def curOf (pre : List { x : Part // okP x }) : Bool × List UInt8 := showParts rec (pre.map (·.1)) bs1

/-- between two rounds -/
def LoopI (B sb : Nat) (hv : Value) (H : HM) (tvs : List Value) (own : Own) (pre : List { x : Part // okP x }) (W : World) : Prop :=
  (curOf rec bs1 pre).1 = true ∧ ShowIn B sb hv H tvs own (curOf rec bs1 pre).2 W ∧ Showed sb W4 W
/-- the loop was left -/
def LoopX (B sb : Nat) (hv : Value) (H : HM) (tvs : List Value) (own : Own) (c : Code) (pre : List { x : Part // okP x }) (W : World) : Prop :=
  c = .exit 1 ∧ (curOf rec bs1 pre).1 = false ∧ ShowIn B sb hv H tvs own (curOf rec bs1 pre).2 W ∧ ShowedX kF sb W4 W ∧ Boxd sb W kF (.cells #[.bool false] 4 (0, 0))

theorem LoopI.abides (h4 : B ≤ W4.heap.size) (hsb : sb < W4.heap.size) : OwnFrom W4.heap.size (LoopI (okP := okP) rec bs1 W4 B sb hv H tvs own) := fun _ _ _ _ hs hg hr =>
  ⟨hs.1, hs.2.1.grown hg (fun r e => ⟨Nat.le_trans h4 (hr r e).1, (hr r e).2⟩), hs.2.2.grown hsb hg (fun r e => (hr r e).1)⟩
theorem LoopX.abides (h4 : B ≤ W4.heap.size) (hsb : sb < W4.heap.size) (c : Code) : OwnFrom W4.heap.size (LoopX (okP := okP) rec bs1 W4 kF B sb hv H tvs own c) := fun _ W W' _ hs hg hr => by
  obtain ⟨h1, h2, h3, h5, h6⟩ := hs
  refine ⟨h1, h2, h3.grown hg (fun r e => ⟨Nat.le_trans h4 (hr r e).1, (hr r e).2⟩), h5.grown hsb hg (fun r e => (hr r e).1), ?_⟩
  have hlt := Nat.lt_of_lt_of_le hsb h5.kept.size
  refine ⟨?_, h6.ne, ?_⟩
  · rw [hg.block kF (lt_of_heap h6.at_) (fun e => by
      obtain ⟨_, o, h7, h8⟩ := hr kF e.symm
      rw [h6.at_] at h7; cases h7; cases h8)]
    exact h6.at_
  · rw [bufOf_up (hg.block sb hlt (fun e => by have := (hr sb e.symm).1; omega))]
    exact h6.buf

theorem curOf_snoc {pre : List { x : Part // okP x }} (h : (curOf rec bs1 pre).1 = true) (x : { x : Part // okP x }) : curOf rec bs1 (pre ++ [x]) = stepPart rec x.1 (curOf rec bs1 pre).2 := by
  simp only [curOf, List.map_append, List.map_cons, List.map_nil]
  exact showParts_snoc rec _ _ _ h

/-- a round that goes on -/
theorem loop_on {pre : List { x : Part // okP x }} {x : { x : Part // okP x }} {W W' : World} {bs' : List UInt8} (h : LoopI rec bs1 W4 B sb hv H tvs own pre W) (hs : stepPart rec x.1 (curOf rec bs1 pre).2 = (true, bs'))
    (h' : ShowIn B sb hv H tvs own bs' W') (k : Showed sb W W') : KeepsFrom W4.heap.size W W' ∧ SKeep sb W W' ∧ LoopI rec bs1 W4 B sb hv H tvs own (pre ++ [x]) W' := by
  obtain ⟨h1, h2, h3⟩ := h
  have e := (curOf_snoc rec bs1 h1 x).trans hs
  exact ⟨h2.at_.keeps k _, k.skeep, by rw [e], by rw [e]; exact h', h3.trans k⟩

/-- a round that leaves -/
theorem loop_off {pre : List { x : Part // okP x }} {x : { x : Part // okP x }} {W W' : World} {bs' : List UInt8} {b : Bool} (h : LoopI rec bs1 W4 B sb hv H tvs own pre W) (hs : stepPart rec x.1 (curOf rec bs1 pre).2 = (false, bs'))
    (h' : ShowIn B sb hv H tvs own bs' W') (k : Showed sb W W') (hF : Boxd sb W' kF (.cells #[.bool b] 4 (0, 0))) (hkF : B ≤ kF) : KeepsFrom W4.heap.size W (W'.setCell ⟨kF, 0, none⟩ (.bool false)) ∧ LoopX rec bs1 W4 kF B sb hv H tvs own (.exit 1) (pre ++ [x]) (W'.setCell ⟨kF, 0, none⟩ (.bool false)) := by
  obtain ⟨h1, h2, h3⟩ := h
  have e := (curOf_snoc rec bs1 h1 x).trans hs
  refine ⟨?_, rfl, by rw [e], ?_, ShowedX.of (h3.trans k) _ _ hF.ne, ?_, hF.ne, by rw [bufOf_set hF.ne]; exact hF.buf⟩
  · have hk := h2.at_.keeps k W4.heap.size
    refine ⟨by rw [setCell_size]; exact hk.size, fun j o hj ho hc => ?_⟩
    have := hk.same j o hj ho hc
    rw [setCell_other (fun e => by subst e; rw [hF.at_] at this; cases this; cases hc)]
    exact this
  · rw [e]
    exact ⟨hrep_show h'.heap h'.low (by rw [setCell_size]; exact Nat.le_refl _) (fun b hb => setCell_other (fun e => by omega) _), h'.low, h'.at_.setOther hF.ne hF.buf, h'.len⟩
  · have := setCell_block (i := 0) hF.at_ (.bool false)
    simpa using this
end

end Go.Proofs.YtmbipadiaggolaaGreatDoor
