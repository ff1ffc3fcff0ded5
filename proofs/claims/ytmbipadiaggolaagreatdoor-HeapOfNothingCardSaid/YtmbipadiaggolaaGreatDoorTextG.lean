import Derived.Test.YtmbipadiaggolaaGreatDoorTextI
import Derived.Test.YtmbipadiaggolaaGreatDoorHeapWC
import Derived.RangeFuncNested
/- Walks: Get of a text's length, At of a text's rune: loops over Runes. -/
namespace Go.Proofs.YtmbipadiaggolaaGreatDoor
open Go.RowKit
set_option linter.unusedSimpArgs false
attribute [local go_sem] Oper.semAt_some ta_aa ta_ao ta_an ta_oa ta_oo ta_on m_kind_a m_kind_o m_behind_a m_behind_o m_own_a m_own_o valV conv_sb

theorem keep_own {W W' : World} {row : Option Nat} {B b : Nat} {cs : Array Value} {t : TypeId} {f : Nat × Nat} (h : W.heap[b]? = some (.cells cs t f)) (hg : W.grownBy W' row) (hr : ∀ r, row = some r → B ≤ r ∧ ∃ o : Obj, W.heap[r]? = some o ∧ o.isCells = false) : W'.heap[b]? = some (.cells cs t f) := by
  rw [hg.block b (lt_of_heap h) (fun e => by
    obtain ⟨_, o, h1, h2⟩ := hr b e.symm
    rw [h] at h1; cases h1; cases h2)]
  exact h
theorem Up.grown {a W W' : World} {row : Option Nat} (h : Up a W) (hg : W.grownBy W' row) (hr : ∀ r, row = some r → a.heap.size ≤ r) : Up a W' :=
  ⟨hg.os.trans h.os, hg.tape.trans h.tape, hg.output.trans h.output, Nat.le_trans h.size hg.size, fun b hb => (hg.block b (Nat.lt_of_lt_of_le hb h.size) (fun e => by have := hr b e.symm; omega)).trans (h.block b hb)⟩

/-- Runes over a text that was turned to bytes -/
theorem p_runes_at (s : ByteArray) (w0 W : World) (q cap : Nat) (hW : W = bytesLaid w0 s) (hq : q = w0.heap.size) (hs : s.size ≤ 1000000000) : Calls Tryz.prog 46 #[.slice (some ⟨q, 0, none⟩) s.size cap] W fun e w' => ∃ tb, e = .returned (.func (.func 63) #[] #[.pointer (some ⟨tb, 0, none⟩)]) ∧ w'.heap[tb]? = some (.cells #[.string s] 9 (0, 0)) ∧ W.heap.size ≤ tb ∧ Up W w' := by
  subst hW hq
  have := p_runes w0.heap.size cap s.data.toList (bytesLaid w0 s) (bytesLaid_at w0 s hs)
  rw [show s.data.toList.length = s.size by simp] at this
  refine this.mono ?_
  rintro e w' ⟨rfl, rfl⟩
  exact ⟨_, rfl, alloc_get _ _, Nat.le_refl _, (Up.refl _).alloc _⟩

theorem range_named {P : Program} {c : Code} {Q : Exit → Act → World → Prop} {a : Act} {w : World} (h : ∀ (A : Act) (W : World), A = a → W = w → c.wp P Q A W) : c.wp P Q a w := h a w rfl rfl

theorem runesS_le : ∀ (f a : Nat) (l : List UInt8), (runesS f a l).length ≤ f
  | 0, _, _ => Nat.le_refl _
  | _ + 1, _, [] => Nat.zero_le _
  | f + 1, a, x :: r => by simp only [runesS, List.length_cons]; have := runesS_le f (a + (decS (x :: r)).2) ((x :: r).drop (decS (x :: r)).2); omega
theorem runesOf_le (l : List UInt8) : (runesOf l).length ≤ l.length := runesS_le _ _ _

/-- between two rounds of a count of runes -/
def CountI (w : World) (nb : Nat) (o0 o1 : Array Value) (pre : List (Nat × Nat)) (W : World) : Prop :=
  Up w W ∧ W.heap[w.heap.size]? = some (.cells o0 34 (0, 0)) ∧ W.heap[w.heap.size + 1]? = some (.cells o1 34 (0, 0)) ∧ W.heap[nb]? = some (.cells #[.int .i64 pre.length] 3 (0, 0))
theorem CountI.own (w : World) (nb : Nat) (o0 o1 : Array Value) (B : Nat) (hB : w.heap.size ≤ B) : OwnFrom B (CountI w nb o0 o1) := fun _ _ _ _ hs hg hr =>
  ⟨hs.1.grown hg (fun r e => Nat.le_trans hB (hr r e).1), keep_own hs.2.1 hg hr, keep_own hs.2.2.1 hg hr, keep_own hs.2.2.2 hg hr⟩

set_option maxRecDepth 100000 in
set_option maxHeartbeats 1600000 in
/-- of a text its length, in runes -/
theorem Get_len (hv : Value) (H : HM) (tvs : List Value) (own : Own) (k n : Int) (s key : ByteArray) (w : World) (h : HRep w hv H tvs own) (pn : Int) (ps : ByteArray) (hp : plainS H ⟨k, n, s⟩ = ⟨4, pn, ps⟩) (hkey : (key.toList == [108, 101, 110, 103, 116, 104]) = true) (hs : ps.size ≤ 1000000000) :
    Calls Tryz.prog 22 #[hv, .agg #[.int .i64 k, .int .i64 n, .string s], .string key] w fun e w' => e = .returned (.tuple #[.agg #[.int .i64 3, .int .i64 (runesOf ps.data.toList).length, .string ⟨#[]⟩], .string ⟨#[]⟩, .int .i64 0]) ∧ Up w w' := by
  have hh := Lib.hid h
  have HP := Lib.hid hp
  have HS := Lib.hid hs
  clear h hp hs
  refine callsIn_wide.1 (callsIn_of_wp_marks (n := 2) Tryz.func22 rfl trivial ?_)
  refine wpIn_wide.2 ?_
  simp only [Tryz.ntmps22, List.size_toArray, List.length_cons, List.length_nil, Nat.reduceAdd, Nat.reduceSub, Array.replicate_succ, Array.replicate_zero, List.push_toArray, List.append_toArray, List.nil_append, List.cons_append]
  go_wp2_with (first | (go_at_call 35; refine (plain_any hv H tvs own _ _ _ _ (hh.out.up (by repeat (first | with_reducible exact Up.refl _ | with_reducible assumption | with_reducible refine Up.drewN ?_ _ | with_reducible refine Up.drew ?_ | with_reducible refine Up.alloc ?_ _ | with_reducible refine Up.setCell ?_ (by first | omega | (simp; done) | (simp; omega)) _ | with_reducible refine Up.trans ?_ (by assumption))))).mono ?_; rintro e w' ⟨rfl, hu⟩; simp only [HP.out]; have hd := hu.get (Up.get (by repeat (first | with_reducible exact Up.refl _ | with_reducible assumption | with_reducible refine Up.drewN ?_ _ | with_reducible refine Up.drew ?_ | with_reducible refine Up.alloc ?_ _ | with_reducible refine Up.setCell ?_ (by first | omega | (simp; done) | (simp; omega)) _ | with_reducible refine Up.trans ?_ (by assumption))) (alloc_get w _)); have B0 := Lib.hid hd; have a0 := cell_of hd 0; have a1 := cell_of hd 1; have a2 := cell_of hd 2; have f0 := ice_of hd 0; have f1 := ice_of hd 1; have f2 := ice_of hd 2; have a4 := lt_of_heap hd; (try simp only [World.size_alloc, List.getElem?_toArray, List.getElem?_cons_zero, List.getElem?_cons_succ] at a0 a1 a2 f0 f1 f2 a4); clear hd; have hd := hu.get (Up.get (by repeat (first | with_reducible exact Up.refl _ | with_reducible assumption | with_reducible refine Up.drewN ?_ _ | with_reducible refine Up.drew ?_ | with_reducible refine Up.alloc ?_ _ | with_reducible refine Up.setCell ?_ (by first | omega | (simp; done) | (simp; omega)) _ | with_reducible refine Up.trans ?_ (by assumption))) (alloc_get (w.alloc _) _)); (try simp only [World.size_alloc] at hd); have B1 := Lib.hid hd; have a0 := cell_of hd 0; have a1 := cell_of hd 1; have a2 := cell_of hd 2; have f0 := ice_of hd 0; have f1 := ice_of hd 1; have f2 := ice_of hd 2; have a4 := lt_of_heap hd; (try simp only [World.size_alloc, List.getElem?_toArray, List.getElem?_cons_zero, List.getElem?_cons_succ] at a0 a1 a2 f0 f1 f2 a4); clear hd) | (go_at_call 46; refine (p_runes_at ps _ _ _ _ rfl (by simp) HS.out).mono ?_; rintro e w2 ⟨tb, rfl, htb, htl, hu2⟩))
  have h0 : w2.heap[w.heap.size]? = some (.cells #[.int .i64 4, .int .i64 pn, .string ps] 34 (0, 0)) := hu2.get ((bytesLaid_up _ _).get (alloc_keep (at_set3 B0.out)))
  have h1 : w2.heap[w.heap.size + 1]? = some (.cells #[.int .i64 0, .int .i64 0, .string ⟨#[]⟩] 34 (0, 0)) := hu2.get ((bytesLaid_up _ _).get (alloc_keep (at_skip3 B1.out (by omega))))
  have hn : w2.heap[w'.heap.size]? = some (.cells #[.int .i64 ([] : List (Nat × Nat)).length] 3 (0, 0)) := hu2.get ((bytesLaid_up _ _).get (alloc_at _ _ _ (by simp)))
  have hup : Up w w2 := by
    refine Up.trans ?_ hu2
    refine Up.trans ?_ (bytesLaid_up _ _)
    have hu' : Up w w' := (by repeat (first | with_reducible exact Up.refl _ | with_reducible assumption | with_reducible refine Up.drewN ?_ _ | with_reducible refine Up.drew ?_ | with_reducible refine Up.alloc ?_ _ | with_reducible refine Up.setCell ?_ (by first | omega | (simp; done) | (simp; omega)) _ | with_reducible refine Up.trans ?_ (by assumption)))
    exact (by repeat (first | with_reducible exact Up.refl _ | with_reducible assumption | with_reducible refine Up.drewN ?_ _ | with_reducible refine Up.drew ?_ | with_reducible refine Up.alloc ?_ _ | with_reducible refine Up.setCell ?_ (by first | omega | (simp; done) | (simp; omega)) _ | with_reducible refine Up.trans ?_ (by assumption)))
  have htn : tb ≠ w'.heap.size := by rw [bytesLaid_size] at htl; simp at htl; omega
  have hw2 := lt_of_heap hn
  clear hu2 htl B0 B1 hu
  refine range_named fun A W4 hA hW => ?_
  subst hW
  refine (wpIn_wide (n := 2)).1 ?_
  refine wpIn_rangeFunc_ownF rfl (by omega) (gf := 63) (lb := #[.pointer (some ⟨tb, 0, none⟩)]) (by subst hA; rfl) trivial (enters_of Tryz.func63 (by kernel_rfl) rfl)
    (runes_stops tb ps HS.out (OneKeep w'.heap.size) (OneKeep.refl _) (fun _ _ _ => OneKeep.trans) (fun _ _ _ => OneKeep.up) W4 (fun X Y hX hY => ⟨by have := cell_of (hY.same tb _ htn (hX.get htb) rfl) 0; simpa using this, hY.size⟩))
    OneKeep.trans (fun W l o o' _ h1 h2 _ => OneKeep.putObj _ W l o o' h1 h2) (Below.refl _ _) (fun _ => rfl)
    (CountI w w'.heap.size #[.int .i64 4, .int .i64 pn, .string ps] #[.int .i64 0, .int .i64 0, .string ⟨#[]⟩]) (fun _ _ _ => False) (CountI.own _ _ _ _ _ hup.size) (fun _ _ _ _ _ h => h.elim) ⟨hup, h0, h1, hn⟩
    (fun x => { tmps := (A.tmps.setIfInBounds 30 (.int .i64 x.1)).setIfInBounds 31 (.int .i32 x.2), defers := [] }) ?assign ?body ?done ?stop
  case assign => intro l x W K hK; gi_wp2; simpa [encR] using hK
  case body =>
    rintro l pre x W ⟨i1, i2, i3, i4⟩ hlen
    have hb := cell_of i4 0
    have hf := ice_of i4 0
    simp only [List.getElem?_toArray, List.getElem?_cons_zero] at hb
    subst hA
    simp only [List.setIfInBounds_toArray, List.set_cons_succ, List.set_cons_zero]
    have hle := runesOf_le ps.data.toList
    have hps : ps.data.toList.length = ps.size := by simp
    have hq := HS.out
    have hle2 : (pre.length : Int) < 1000000000 := by omega
    clear hle hps hq
    gi_wp2
    exact ⟨KeepsOthers.setCell _ _ _, OneKeep.setCell _ _ _ _, i1.setCell (by show w.heap.size ≤ w'.heap.size; omega) _, by rw [setCell_other (by omega)]; exact i2, by rw [setCell_other (by omega)]; exact i3, by have := setCell_block (i := 0) i4 (.int .i64 ((pre.length : Int) + 1)); simpa using this⟩
  case done =>
    rintro D xs W hD rfl ⟨i1, i2, i3, i4⟩ hK
    have s0 := i2
    have a0 := cell_of s0 0; have a1 := cell_of s0 1; have a2 := cell_of s0 2; have f0 := ice_of s0 0; have f1 := ice_of s0 1; have f2 := ice_of s0 2; have a4 := lt_of_heap s0; (try simp only [World.size_alloc, List.getElem?_toArray, List.getElem?_cons_zero, List.getElem?_cons_succ] at a0 a1 a2 f0 f1 f2 a4); clear s0
    have s0 := i3
    have a0 := cell_of s0 0; have a1 := cell_of s0 1; have a2 := cell_of s0 2; have f0 := ice_of s0 0; have f1 := ice_of s0 1; have f2 := ice_of s0 2; have a4 := lt_of_heap s0; (try simp only [World.size_alloc, List.getElem?_toArray, List.getElem?_cons_zero, List.getElem?_cons_succ] at a0 a1 a2 f0 f1 f2 a4); clear s0
    have hb := cell_of i4 0
    have hbl := lt_of_heap i4
    simp only [List.getElem?_toArray, List.getElem?_cons_zero] at hb
    have HK := Lib.hid hK
    clear hK
    subst hA
    go_wp2_with (first | (go_at_call 47; refine (number_any _ _).mono ?_; rintro e w5 ⟨rfl, hu5⟩; have s0 := hu5.get i3; have a0 := cell_of s0 0; have a1 := cell_of s0 1; have a2 := cell_of s0 2; have f0 := ice_of s0 0; have f1 := ice_of s0 1; have f2 := ice_of s0 2; have a4 := lt_of_heap s0; (try simp only [World.size_alloc, List.getElem?_toArray, List.getElem?_cons_zero, List.getElem?_cons_succ] at a0 a1 a2 f0 f1 f2 a4); clear s0))
    have hKX := at_skip3 (b := w.heap.size + 1) (x' := .int .i64 3) (y' := .int .i64 (runesOf ps.data.toList).length) (z' := .string ⟨#[]⟩) (hu5.get HK.out) (by omega)
    have hX := at_set3 (x' := .int .i64 3) (y' := .int .i64 (runesOf ps.data.toList).length) (z' := .string ⟨#[]⟩) (hu5.get i3)
    refine ⟨by simp, .inl ⟨_, _, rfl, run_takeDeferred hKX, ?_⟩⟩
    have hY := fun o => (World.putObj_heap_other (o := o) (show w.heap.size + 1 ≠ D by omega)).trans hX
    have hup5 : Up w w5 := i1.trans hu5
    clear a0 a1 a2
    refine ⟨.tuple #[.agg #[.int .i64 3, .int .i64 (runesOf ps.data.toList).length, .string ⟨#[]⟩], .string ⟨#[]⟩, .int .i64 0], ?_, rfl, ?_⟩
    · have s0 := hY (.deferred none)
      have a0 := cell_of s0 0; have a1 := cell_of s0 1; have a2 := cell_of s0 2; have f0 := ice_of s0 0; have f1 := ice_of s0 1; have f2 := ice_of s0 2; have a4 := lt_of_heap s0; (try simp only [World.size_alloc, List.getElem?_toArray, List.getElem?_cons_zero, List.getElem?_cons_succ] at a0 a1 a2 f0 f1 f2 a4); clear s0
      simp [results, Tryz.results22, go_sem, *]
    · refine Up.grown (W := _) ?_ (grownBy_putObj' _ D _) (fun r e => by cases e; omega)
      exact ((hup5.setCell (by show w.heap.size ≤ w.heap.size + 1; omega) _).setCell (by show w.heap.size ≤ w.heap.size + 1; omega) _).setCell (by show w.heap.size ≤ w.heap.size + 1; omega) _
  case stop => rintro D c pre W hD hSp h hK; exact h.elim

end Go.Proofs.YtmbipadiaggolaaGreatDoor
