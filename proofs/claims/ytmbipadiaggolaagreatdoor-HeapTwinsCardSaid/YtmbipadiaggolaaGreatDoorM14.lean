import Derived.Deep.Light
import Derived.Deep.RegionLaw
import Derived.Deep.RegionHeld3
import Derived.Test.YtmbipadiaggolaaGreatDoorM13
import Derived.Test.YtmbipadiaggolaaGreatDoorM02
import Derived.Test.YtmbipadiaggolaaGreatDoorM11
/- YtmbipadiaggolaaGreatDoorM14: lemmas of the proof, in order: TextJ, RefA. -/
/- Walks: At of a text's rune. -/
namespace Go.Proofs.YtmbipadiaggolaaGreatDoor
open Go.RowKit
set_option linter.unusedSimpArgs false
attribute [local go_sem] Oper.semAt_some ta_aa ta_ao ta_an ta_oa ta_oo ta_on m_kind_a m_kind_o m_behind_a m_behind_o m_own_a m_own_o valV conv_sb

def runeV (x : Nat × Nat) : Val := ⟨4, 0, Utf8.encode x.2⟩
def runeAt (s : ByteArray) (m : Int) : Val := if 0 ≤ m then ((runesOf s.data.toList)[m.toNat]?.map runeV).getD ⟨0, 0, ⟨#[]⟩⟩ else ⟨0, 0, ⟨#[]⟩⟩

theorem AtBoxes.grown {w W W' : World} {v i : Val} {row : Option Nat} {B : Nat} (hB : w.heap.size ≤ B) (h : AtBoxes w v i W) (hg : W.grownBy W' row) (hr : ∀ r, row = some r → B ≤ r ∧ ∃ o : Obj, W.heap[r]? = some o ∧ o.isCells = false) : AtBoxes w v i W' :=
  ⟨h.up.grown hg (fun r e => Nat.le_trans hB (hr r e).1), keep_own h.v hg hr, keep_own h.i hg hr, keep_own h.r0 hg hr, keep_own h.r1 hg hr, keep_own h.r2 hg hr⟩
theorem AtBoxes.set {w W : World} {v i : Val} (h : AtBoxes w v i W) {b j : Nat} (hb : w.heap.size + 4 < b) (u : Value) : AtBoxes w v i (W.setCell ⟨b, j, none⟩ u) :=
  ⟨h.up.setCell (by show w.heap.size ≤ b; omega) _, by rw [setCell_other (by omega)]; exact h.v, by rw [setCell_other (by omega)]; exact h.i, by rw [setCell_other (by omega)]; exact h.r0, by rw [setCell_other (by omega)]; exact h.r1, by rw [setCell_other (by omega)]; exact h.r2⟩

/-- an answer is laid -/
theorem AtBoxes.answer {w W : World} {v i : Val} (h : AtBoxes w v i W) (x y z a b : Value) :
    Up w (((((W.setCell ⟨w.heap.size + 1 + 1, 0, none⟩ x).setCell ⟨w.heap.size + 1 + 1, 1, none⟩ y).setCell ⟨w.heap.size + 1 + 1, 2, none⟩ z).setCell ⟨w.heap.size + 1 + 1 + 1, 0, none⟩ a).setCell ⟨w.heap.size + 1 + 1 + 1 + 1, 0, none⟩ b) ∧
    (((((W.setCell ⟨w.heap.size + 1 + 1, 0, none⟩ x).setCell ⟨w.heap.size + 1 + 1, 1, none⟩ y).setCell ⟨w.heap.size + 1 + 1, 2, none⟩ z).setCell ⟨w.heap.size + 1 + 1 + 1, 0, none⟩ a).setCell ⟨w.heap.size + 1 + 1 + 1 + 1, 0, none⟩ b).heap[w.heap.size + 1 + 1]? = some (.cells #[x, y, z] 34 (0, 0)) ∧
    (((((W.setCell ⟨w.heap.size + 1 + 1, 0, none⟩ x).setCell ⟨w.heap.size + 1 + 1, 1, none⟩ y).setCell ⟨w.heap.size + 1 + 1, 2, none⟩ z).setCell ⟨w.heap.size + 1 + 1 + 1, 0, none⟩ a).setCell ⟨w.heap.size + 1 + 1 + 1 + 1, 0, none⟩ b).heap[w.heap.size + 1 + 1 + 1]? = some (.cells #[a] 9 (0, 0)) ∧
    (((((W.setCell ⟨w.heap.size + 1 + 1, 0, none⟩ x).setCell ⟨w.heap.size + 1 + 1, 1, none⟩ y).setCell ⟨w.heap.size + 1 + 1, 2, none⟩ z).setCell ⟨w.heap.size + 1 + 1 + 1, 0, none⟩ a).setCell ⟨w.heap.size + 1 + 1 + 1 + 1, 0, none⟩ b).heap[w.heap.size + 1 + 1 + 1 + 1]? = some (.cells #[b] 3 (0, 0)) := by
  have hup := h.up
  refine ⟨uq, ?_, ?_, ?_⟩
  · rw [setCell_other (by omega), setCell_other (by omega)]; exact at_set3 h.r0
  · rw [setCell_other (by omega)]
    have := setCell_block (i := 0) (at_skip3 (b := w.heap.size + 1 + 1) (x' := x) (y' := y) (z' := z) h.r1 (by omega)) a
    simpa using this
  · have h1 : ((((W.setCell ⟨w.heap.size + 1 + 1, 0, none⟩ x).setCell ⟨w.heap.size + 1 + 1, 1, none⟩ y).setCell ⟨w.heap.size + 1 + 1, 2, none⟩ z).setCell ⟨w.heap.size + 1 + 1 + 1, 0, none⟩ a).heap[w.heap.size + 1 + 1 + 1 + 1]? = some (.cells #[.int .i64 0] 3 (0, 0)) := by
      rw [setCell_other (by omega)]
      exact at_skip3 h.r2 (by omega)
    have := setCell_block (i := 0) h1 b
    simpa using this
theorem five_other {W : World} {b0 b1 b2 D : Nat} {o : Obj} {x y z a b : Value} (h : W.heap[D]? = some o) (h0 : D ≠ b0) (h1 : D ≠ b1) (h2 : D ≠ b2) : (((((W.setCell ⟨b0, 0, none⟩ x).setCell ⟨b0, 1, none⟩ y).setCell ⟨b0, 2, none⟩ z).setCell ⟨b1, 0, none⟩ a).setCell ⟨b2, 0, none⟩ b).heap[D]? = some o := by
  rw [setCell_other h2, setCell_other h1]; exact at_skip3 h h0

/-- between two rounds -/
def RuneI (w : World) (nb : Nat) (v i : Val) (pre : List (Nat × Nat)) (W : World) : Prop :=
  AtBoxes w v i W ∧ W.heap[nb]? = some (.cells #[.int .i64 pre.length] 3 (0, 0)) ∧ ¬ (0 ≤ i.n ∧ i.n < pre.length)
/-- the rune was found -/
def RuneX (w : World) (i : Val) (c : Code) (pre : List (Nat × Nat)) (W : World) : Prop :=
  c = .ret ∧ Up w W ∧ ∃ q x, pre = q ++ [x] ∧ i.n = (q.length : Int) ∧ W.heap[w.heap.size + 1 + 1]? = some (.cells #[.int .i64 4, .int .i64 0, .string (Utf8.encode x.2)] 34 (0, 0)) ∧ W.heap[w.heap.size + 1 + 1 + 1]? = some (.cells #[.string ⟨#[]⟩] 9 (0, 0)) ∧ W.heap[w.heap.size + 1 + 1 + 1 + 1]? = some (.cells #[.int .i64 0] 3 (0, 0))
theorem RuneI.own (w : World) (nb : Nat) (v i : Val) (B : Nat) (hB : w.heap.size ≤ B) : OwnFrom B (RuneI w nb v i) := fun _ _ _ _ hs hg hr =>
  ⟨hs.1.grown hB hg hr, keep_own hs.2.1 hg hr, hs.2.2⟩
theorem RuneX.own (w : World) (i : Val) (c : Code) (B : Nat) (hB : w.heap.size ≤ B) : OwnFrom B (RuneX w i c) := fun _ _ _ _ hs hg hr => by
  obtain ⟨h1, h2, q, x, h3, h4, h5, h6, h7⟩ := hs
  exact ⟨h1, h2.grown hg (fun r e => Nat.le_trans hB (hr r e).1), q, x, h3, h4, keep_own h5 hg hr, keep_own h6 hg hr, keep_own h7 hg hr⟩

set_option maxRecDepth 100000 in
set_option maxHeartbeats 1600000 in
theorem At_rune (hv : Value) (H : HM) (tvs : List Value) (own : Own) (k n k2 n2 : Int) (s s2 : ByteArray) (w : World) (h : HRep w hv H tvs own) (pn : Int) (ps : ByteArray) (m : Int) (qs : ByteArray) (hs : ps.size ≤ 1000000000) (ha : arrOf H tvs 4 pn = .pointer none) (hpv : plainS H ⟨k, n, s⟩ = ⟨4, pn, ps⟩) (hpi : plainS H ⟨k2, n2, s2⟩ = ⟨3, m, qs⟩) :
    Calls Tryz.prog 28 #[hv, .agg #[.int .i64 k, .int .i64 n, .string s], .agg #[.int .i64 k2, .int .i64 n2, .string s2]] w fun e w' => e = .returned (.tuple #[.agg #[.int .i64 (runeAt ps m).k, .int .i64 (runeAt ps m).n, .string (runeAt ps m).s], .string ⟨#[]⟩, .int .i64 0]) ∧ Up w w' := by
  have HA := Lib.hid ha
  have HS := Lib.hid hs
  clear ha hs
  have hh := Lib.hid h
  have HP := Lib.hid (And.intro hpv hpi)
  clear h hpv hpi
  refine callsIn_wide.1 (callsIn_of_wp_marks (n := 2) Tryz.func28 rfl trivial ?_)
  refine wpIn_wide.2 ?_
  simp only [Tryz.ntmps28, List.size_toArray, List.length_cons, List.length_nil, Nat.reduceAdd, Nat.reduceSub, Array.replicate_succ, Array.replicate_zero, List.push_toArray, List.append_toArray, List.nil_append, List.cons_append]
  go_wp2_with fail
  have hx : AtBoxes w ⟨k, n, s⟩ ⟨k2, n2, s2⟩ (((((w.alloc (.cells #[.int .i64 k, .int .i64 n, .string s] 34)).alloc (.cells #[.int .i64 k2, .int .i64 n2, .string s2] 34)).alloc (.cells #[.int .i64 0, .int .i64 0, .string ⟨#[]⟩] 34)).alloc (.cells #[.string ⟨#[]⟩] 9)).alloc (.cells #[.int .i64 0] 3)) :=
    at_start w _ _
  go_cut [4] from 13 to 18 (fun v4 wx => v4 = .pointer (some ⟨w.heap.size, 0, none⟩) ∧ AtBoxes w ⟨4, pn, ps⟩ ⟨3, m, qs⟩ wx)
  case first =>
    refine wp_region_noPanic ?_
    go_region_law (first | (go_simp; go_at_call 35; refine (plain_any hv H tvs own _ _ _ _ (hh.out.up (hx.up.trans uq))).mono ?_; rintro e w' ⟨rfl, hu⟩; simp only [HP.out.1, HP.out.2]; have hx := hx.to (show Up _ w' from Up.trans uq hu); have s0 := hx.v; have a0 := cell_of s0 0; have a1 := cell_of s0 1; have a2 := cell_of s0 2; have f0 := ice_of s0 0; have f1 := ice_of s0 1; have f2 := ice_of s0 2; have a4 := lt_of_heap s0; (try simp only [World.size_alloc, List.getElem?_toArray, List.getElem?_cons_zero, List.getElem?_cons_succ] at a0 a1 a2 f0 f1 f2 a4); clear s0; have s0 := hx.i; have a0 := cell_of s0 0; have a1 := cell_of s0 1; have a2 := cell_of s0 2; have f0 := ice_of s0 0; have f1 := ice_of s0 1; have f2 := ice_of s0 2; have a4 := lt_of_heap s0; (try simp only [World.size_alloc, List.getElem?_toArray, List.getElem?_cons_zero, List.getElem?_cons_succ] at a0 a1 a2 f0 f1 f2 a4); clear s0; have s0 := hx.r0; have a0 := cell_of s0 0; have a1 := cell_of s0 1; have a2 := cell_of s0 2; have f0 := ice_of s0 0; have f1 := ice_of s0 1; have f2 := ice_of s0 2; have a4 := lt_of_heap s0; (try simp only [World.size_alloc, List.getElem?_toArray, List.getElem?_cons_zero, List.getElem?_cons_succ] at a0 a1 a2 f0 f1 f2 a4); clear s0; have s0 := hx.r1; have a0 := cell_of s0 0; have a1 := cell_of s0 1; have a2 := cell_of s0 2; have f0 := ice_of s0 0; have f1 := ice_of s0 1; have f2 := ice_of s0 2; have a4 := lt_of_heap s0; (try simp only [World.size_alloc, List.getElem?_toArray, List.getElem?_cons_zero, List.getElem?_cons_succ] at a0 a1 a2 f0 f1 f2 a4); clear s0; have s0 := hx.r2; have a0 := cell_of s0 0; have a1 := cell_of s0 1; have a2 := cell_of s0 2; have f0 := ice_of s0 0; have f1 := ice_of s0 1; have f2 := ice_of s0 2; have a4 := lt_of_heap s0; (try simp only [World.size_alloc, List.getElem?_toArray, List.getElem?_cons_zero, List.getElem?_cons_succ] at a0 a1 a2 f0 f1 f2 a4); clear s0))
    all_goals refine NoPanic.normal ?_
    all_goals (go_wp2_with fail; go_meet)
    all_goals exact ⟨rfl, hx.stored _ _⟩
  case rest =>
    obtain ⟨rfl, hx⟩ := hcut
    have s0 := hx.v; have a0 := cell_of s0 0; have a1 := cell_of s0 1; have a2 := cell_of s0 2; have f0 := ice_of s0 0; have f1 := ice_of s0 1; have f2 := ice_of s0 2; have a4 := lt_of_heap s0; (try simp only [World.size_alloc, List.getElem?_toArray, List.getElem?_cons_zero, List.getElem?_cons_succ] at a0 a1 a2 f0 f1 f2 a4); clear s0; have s0 := hx.i; have a0 := cell_of s0 0; have a1 := cell_of s0 1; have a2 := cell_of s0 2; have f0 := ice_of s0 0; have f1 := ice_of s0 1; have f2 := ice_of s0 2; have a4 := lt_of_heap s0; (try simp only [World.size_alloc, List.getElem?_toArray, List.getElem?_cons_zero, List.getElem?_cons_succ] at a0 a1 a2 f0 f1 f2 a4); clear s0; have s0 := hx.r0; have a0 := cell_of s0 0; have a1 := cell_of s0 1; have a2 := cell_of s0 2; have f0 := ice_of s0 0; have f1 := ice_of s0 1; have f2 := ice_of s0 2; have a4 := lt_of_heap s0; (try simp only [World.size_alloc, List.getElem?_toArray, List.getElem?_cons_zero, List.getElem?_cons_succ] at a0 a1 a2 f0 f1 f2 a4); clear s0; have s0 := hx.r1; have a0 := cell_of s0 0; have a1 := cell_of s0 1; have a2 := cell_of s0 2; have f0 := ice_of s0 0; have f1 := ice_of s0 1; have f2 := ice_of s0 2; have a4 := lt_of_heap s0; (try simp only [World.size_alloc, List.getElem?_toArray, List.getElem?_cons_zero, List.getElem?_cons_succ] at a0 a1 a2 f0 f1 f2 a4); clear s0; have s0 := hx.r2; have a0 := cell_of s0 0; have a1 := cell_of s0 1; have a2 := cell_of s0 2; have f0 := ice_of s0 0; have f1 := ice_of s0 1; have f2 := ice_of s0 2; have a4 := lt_of_heap s0; (try simp only [World.size_alloc, List.getElem?_toArray, List.getElem?_cons_zero, List.getElem?_cons_succ] at a0 a1 a2 f0 f1 f2 a4); clear s0
    have hup := hx.up
    clear hup
    go_wp2_with (first | (go_at_call 46; refine (p_runes_at ps _ _ _ _ rfl (by simp) HS.out).mono ?_; rintro e w2 ⟨tb, rfl, htb, htl, hu2⟩))
    have hn : w2.heap[wc.heap.size]? = some (.cells #[.int .i64 ([] : List (Nat × Nat)).length] 3 (0, 0)) := hu2.get ((bytesLaid_up _ _).get (alloc_at _ _ _ (by simp)))
    have hx2 := hx.to (show Up wc w2 from Up.trans (Up.trans ((Up.refl wc).alloc _) (bytesLaid_up _ _)) hu2)
    have htn : tb ≠ wc.heap.size := by rw [bytesLaid_size] at htl; simp at htl; omega
    have hnb : w.heap.size + 4 < wc.heap.size := lt_of_heap hx.r2
    have hw2 := lt_of_heap hn
    clear hu2 htl hx
    refine range_named fun A W4 hA hW => ?_
    subst hW
    refine (wpIn_wide (n := 2)).1 ?_
    refine wpIn_rangeFunc_ownF rfl (by omega) (gf := 63) (lb := #[.pointer (some ⟨tb, 0, none⟩)]) (by subst hA; rfl) trivial (enters_of Tryz.func63 (by kernel_rfl) rfl)
      (runes_stops tb ps HS.out (OneKeep wc.heap.size) (OneKeep.refl _) (fun _ _ _ => OneKeep.trans) (fun _ _ _ => OneKeep.up) W4 (fun X Y hX hY => ⟨by have := cell_of (hY.same tb _ htn (hX.get htb) rfl) 0; simpa using this, hY.size⟩))
      OneKeep.trans (fun W l o o' _ h1 h2 _ => OneKeep.putObj _ W l o o' h1 h2) (Below.refl _ _) (fun _ => rfl)
      (RuneI w wc.heap.size ⟨4, pn, ps⟩ ⟨3, m, qs⟩) (RuneX w ⟨3, m, qs⟩) (RuneI.own _ _ _ _ _ hx2.up.size) (fun c => RuneX.own _ _ c _ hx2.up.size) ⟨hx2, hn, by simp⟩
      (fun x => { tmps := ((A.tmps.setIfInBounds 53 (.int .i64 x.1)).setIfInBounds 54 (.int .i32 x.2)).setIfInBounds 11 (.int .i32 x.2), defers := [] }) ?assign ?body ?done ?stop
    case assign => intro l x W K hK; subst hA; gi_wp2; simpa [encR] using hK
    case body =>
      rintro l pre x W ⟨hx, i4, hne⟩ hlen
      have hb := cell_of i4 0
      have hf := ice_of i4 0
      have hbl := lt_of_heap i4
      simp only [List.getElem?_toArray, List.getElem?_cons_zero] at hb
      have hle := runesOf_le ps.data.toList
      have hps : ps.data.toList.length = ps.size := by simp
      have hq := HS.out
      have hle2 : (pre.length : Int) < 1000000000 := by omega
      have s0 := hx.v; have a0 := cell_of s0 0; have a1 := cell_of s0 1; have a2 := cell_of s0 2; have f0 := ice_of s0 0; have f1 := ice_of s0 1; have f2 := ice_of s0 2; have a4 := lt_of_heap s0; (try simp only [World.size_alloc, List.getElem?_toArray, List.getElem?_cons_zero, List.getElem?_cons_succ] at a0 a1 a2 f0 f1 f2 a4); clear s0; have s0 := hx.i; have a0 := cell_of s0 0; have a1 := cell_of s0 1; have a2 := cell_of s0 2; have f0 := ice_of s0 0; have f1 := ice_of s0 1; have f2 := ice_of s0 2; have a4 := lt_of_heap s0; (try simp only [World.size_alloc, List.getElem?_toArray, List.getElem?_cons_zero, List.getElem?_cons_succ] at a0 a1 a2 f0 f1 f2 a4); clear s0; have s0 := hx.r0; have a0 := cell_of s0 0; have a1 := cell_of s0 1; have a2 := cell_of s0 2; have f0 := ice_of s0 0; have f1 := ice_of s0 1; have f2 := ice_of s0 2; have a4 := lt_of_heap s0; (try simp only [World.size_alloc, List.getElem?_toArray, List.getElem?_cons_zero, List.getElem?_cons_succ] at a0 a1 a2 f0 f1 f2 a4); clear s0; have s0 := hx.r1; have a0 := cell_of s0 0; have a1 := cell_of s0 1; have a2 := cell_of s0 2; have f0 := ice_of s0 0; have f1 := ice_of s0 1; have f2 := ice_of s0 2; have a4 := lt_of_heap s0; (try simp only [World.size_alloc, List.getElem?_toArray, List.getElem?_cons_zero, List.getElem?_cons_succ] at a0 a1 a2 f0 f1 f2 a4); clear s0; have s0 := hx.r2; have a0 := cell_of s0 0; have a1 := cell_of s0 1; have a2 := cell_of s0 2; have f0 := ice_of s0 0; have f1 := ice_of s0 1; have f2 := ice_of s0 2; have a4 := lt_of_heap s0; (try simp only [World.size_alloc, List.getElem?_toArray, List.getElem?_cons_zero, List.getElem?_cons_succ] at a0 a1 a2 f0 f1 f2 a4); clear s0
      clear hle hps hq
      subst hA
      simp only [List.setIfInBounds_toArray, List.set_cons_succ, List.set_cons_zero]
      by_cases hm : (pre.length : Int) = m
      · have hm2 : ((pre.length : Int) == m) = true := by simpa using hm
        have HM := Lib.hid hm
        clear hm
        gi_wp2
        refine ⟨((((KeepsOthers.setCell _ _ _).trans (KeepsOthers.setCell _ _ _)).trans (KeepsOthers.setCell _ _ _)).trans (KeepsOthers.setCell _ _ _)).trans (KeepsOthers.setCell _ _ _), rfl, (hx.answer _ _ _ _ _).1, pre, x, rfl, HM.out.symm, (hx.answer _ _ _ _ _).2.1, (hx.answer _ _ _ _ _).2.2.1, (hx.answer _ _ _ _ _).2.2.2⟩
      · have hm2 : ((pre.length : Int) == m) = false := by simpa using hm
        have HM := Lib.hid hm
        clear hm
        gi_wp2
        refine ⟨KeepsOthers.setCell _ _ _, OneKeep.setCell _ _ _ _, hx.set hnb _, by have := setCell_block (i := 0) i4 (.int .i64 ((pre.length : Int) + 1)); simpa using this, ?_⟩
        have := HM.out
        simp only [List.length_append, List.length_cons, List.length_nil] at hne ⊢
        omega
    case done =>
      rintro D xs W hD rfl ⟨hx, i4, hne⟩ hK
      have h0 : Hid (runeAt ps m = ⟨0, 0, ⟨#[]⟩⟩) := by
        unfold runeAt Hid
        split
        · rw [List.getElem?_eq_none (by simp only at hne; omega)]; rfl
        · rfl
      have s0 := hx.v; have a0 := cell_of s0 0; have a1 := cell_of s0 1; have a2 := cell_of s0 2; have f0 := ice_of s0 0; have f1 := ice_of s0 1; have f2 := ice_of s0 2; have a4 := lt_of_heap s0; (try simp only [World.size_alloc, List.getElem?_toArray, List.getElem?_cons_zero, List.getElem?_cons_succ] at a0 a1 a2 f0 f1 f2 a4); clear s0; have s0 := hx.i; have a0 := cell_of s0 0; have a1 := cell_of s0 1; have a2 := cell_of s0 2; have f0 := ice_of s0 0; have f1 := ice_of s0 1; have f2 := ice_of s0 2; have a4 := lt_of_heap s0; (try simp only [World.size_alloc, List.getElem?_toArray, List.getElem?_cons_zero, List.getElem?_cons_succ] at a0 a1 a2 f0 f1 f2 a4); clear s0; have s0 := hx.r0; have a0 := cell_of s0 0; have a1 := cell_of s0 1; have a2 := cell_of s0 2; have f0 := ice_of s0 0; have f1 := ice_of s0 1; have f2 := ice_of s0 2; have a4 := lt_of_heap s0; (try simp only [World.size_alloc, List.getElem?_toArray, List.getElem?_cons_zero, List.getElem?_cons_succ] at a0 a1 a2 f0 f1 f2 a4); clear s0; have s0 := hx.r1; have a0 := cell_of s0 0; have a1 := cell_of s0 1; have a2 := cell_of s0 2; have f0 := ice_of s0 0; have f1 := ice_of s0 1; have f2 := ice_of s0 2; have a4 := lt_of_heap s0; (try simp only [World.size_alloc, List.getElem?_toArray, List.getElem?_cons_zero, List.getElem?_cons_succ] at a0 a1 a2 f0 f1 f2 a4); clear s0; have s0 := hx.r2; have a0 := cell_of s0 0; have a1 := cell_of s0 1; have a2 := cell_of s0 2; have f0 := ice_of s0 0; have f1 := ice_of s0 1; have f2 := ice_of s0 2; have a4 := lt_of_heap s0; (try simp only [World.size_alloc, List.getElem?_toArray, List.getElem?_cons_zero, List.getElem?_cons_succ] at a0 a1 a2 f0 f1 f2 a4); clear s0
      have HK := Lib.hid hK
      clear hK
      subst hA
      go_wp2_with (first | (go_at_call 42; refine (array_any hv H tvs own _ _ _ _ (hh.out.up (hx.up.trans uq))).mono ?_; rintro e w2 ⟨rfl, hu⟩; rw [HA.out]; have hx := hx.to (show Up _ w2 from Up.trans uq hu); have hup := hx.up; have s0 := hx.v; have a0 := cell_of s0 0; have a1 := cell_of s0 1; have a2 := cell_of s0 2; have f0 := ice_of s0 0; have f1 := ice_of s0 1; have f2 := ice_of s0 2; have a4 := lt_of_heap s0; (try simp only [World.size_alloc, List.getElem?_toArray, List.getElem?_cons_zero, List.getElem?_cons_succ] at a0 a1 a2 f0 f1 f2 a4); clear s0; have s0 := hx.i; have a0 := cell_of s0 0; have a1 := cell_of s0 1; have a2 := cell_of s0 2; have f0 := ice_of s0 0; have f1 := ice_of s0 1; have f2 := ice_of s0 2; have a4 := lt_of_heap s0; (try simp only [World.size_alloc, List.getElem?_toArray, List.getElem?_cons_zero, List.getElem?_cons_succ] at a0 a1 a2 f0 f1 f2 a4); clear s0; have s0 := hx.r0; have a0 := cell_of s0 0; have a1 := cell_of s0 1; have a2 := cell_of s0 2; have f0 := ice_of s0 0; have f1 := ice_of s0 1; have f2 := ice_of s0 2; have a4 := lt_of_heap s0; (try simp only [World.size_alloc, List.getElem?_toArray, List.getElem?_cons_zero, List.getElem?_cons_succ] at a0 a1 a2 f0 f1 f2 a4); clear s0; have s0 := hx.r1; have a0 := cell_of s0 0; have a1 := cell_of s0 1; have a2 := cell_of s0 2; have f0 := ice_of s0 0; have f1 := ice_of s0 1; have f2 := ice_of s0 2; have a4 := lt_of_heap s0; (try simp only [World.size_alloc, List.getElem?_toArray, List.getElem?_cons_zero, List.getElem?_cons_succ] at a0 a1 a2 f0 f1 f2 a4); clear s0; have s0 := hx.r2; have a0 := cell_of s0 0; have a1 := cell_of s0 1; have a2 := cell_of s0 2; have f0 := ice_of s0 0; have f1 := ice_of s0 1; have f2 := ice_of s0 2; have a4 := lt_of_heap s0; (try simp only [World.size_alloc, List.getElem?_toArray, List.getElem?_cons_zero, List.getElem?_cons_succ] at a0 a1 a2 f0 f1 f2 a4); clear s0))
      go_quiet (fail)
      go_wp2_with fail
      have hz1 := lt_of_heap hx2.r2
      have hx := hx.to (show Up w2 (w2.drewN nq) from (Up.refl _).drewN nq)
      have hKX := five_other (b0 := w.heap.size + 1 + 1) (b1 := w.heap.size + 1 + 1 + 1) (b2 := w.heap.size + 1 + 1 + 1 + 1) (x := .int .i64 0) (y := .int .i64 0) (z := .string ⟨#[]⟩) (a := .string ⟨#[]⟩) (b := .int .i64 0) ((hu.drewN nq).get HK.out) (by omega) (by omega) (by omega)
      refine ⟨by simp, .inl ⟨_, _, rfl, run_takeDeferred hKX, ?_⟩⟩
      obtain ⟨q0, q1, q2, q3⟩ := hx.answer (.int .i64 0) (.int .i64 0) (.string ⟨#[]⟩) (.string ⟨#[]⟩) (.int .i64 0)
      have q1 := (World.putObj_heap_other (o := .deferred none) (show w.heap.size + 1 + 1 ≠ D by omega)).trans q1
      have q2 := (World.putObj_heap_other (o := .deferred none) (show w.heap.size + 1 + 1 + 1 ≠ D by omega)).trans q2
      have q3 := (World.putObj_heap_other (o := .deferred none) (show w.heap.size + 1 + 1 + 1 + 1 ≠ D by omega)).trans q3
      clear a0 a1 a2
      refine ⟨.tuple #[.agg #[.int .i64 (runeAt ps m).k, .int .i64 (runeAt ps m).n, .string (runeAt ps m).s], .string ⟨#[]⟩, .int .i64 0], ?_, rfl, ?_⟩
      · have s0 := q1; have a0 := cell_of s0 0; have a1 := cell_of s0 1; have a2 := cell_of s0 2; have f0 := ice_of s0 0; have f1 := ice_of s0 1; have f2 := ice_of s0 2; have a4 := lt_of_heap s0; (try simp only [World.size_alloc, List.getElem?_toArray, List.getElem?_cons_zero, List.getElem?_cons_succ] at a0 a1 a2 f0 f1 f2 a4); clear s0; have s0 := q2; have a0 := cell_of s0 0; have a1 := cell_of s0 1; have a2 := cell_of s0 2; have f0 := ice_of s0 0; have f1 := ice_of s0 1; have f2 := ice_of s0 2; have a4 := lt_of_heap s0; (try simp only [World.size_alloc, List.getElem?_toArray, List.getElem?_cons_zero, List.getElem?_cons_succ] at a0 a1 a2 f0 f1 f2 a4); clear s0; have s0 := q3; have a0 := cell_of s0 0; have a1 := cell_of s0 1; have a2 := cell_of s0 2; have f0 := ice_of s0 0; have f1 := ice_of s0 1; have f2 := ice_of s0 2; have a4 := lt_of_heap s0; (try simp only [World.size_alloc, List.getElem?_toArray, List.getElem?_cons_zero, List.getElem?_cons_succ] at a0 a1 a2 f0 f1 f2 a4); clear s0
        rw [h0.out]
        simp [results, Tryz.results28, go_sem, *]
      · exact Up.grown (W := _) q0 (grownBy_putObj' _ D _) (fun r e => by cases e; omega)
    case stop =>
      rintro D c pre W hD hSp ⟨rfl, hup, q, x, rfl, hmq, j0, j1, j2⟩ hK
      have h0 : Hid (runeAt ps m = runeV x) := by
        unfold runeAt Hid
        dsimp only at hmq
        obtain ⟨r, hr⟩ := hSp
        rw [if_pos (by omega), hmq, ← hr]
        simp
      have hz1 := lt_of_heap hx2.r2
      refine wpIn_wide.2 ?_
      have hK2 := hK
      clear hmq
      subst hA
      go_wp2_with fail
      refine ⟨by simp, .inl ⟨_, _, rfl, run_takeDeferred hK2, ?_⟩⟩
      have q1 := (World.putObj_heap_other (o := .deferred none) (show w.heap.size + 1 + 1 ≠ D by omega)).trans j0
      have q2 := (World.putObj_heap_other (o := .deferred none) (show w.heap.size + 1 + 1 + 1 ≠ D by omega)).trans j1
      have q3 := (World.putObj_heap_other (o := .deferred none) (show w.heap.size + 1 + 1 + 1 + 1 ≠ D by omega)).trans j2
      refine ⟨.tuple #[.agg #[.int .i64 (runeAt ps m).k, .int .i64 (runeAt ps m).n, .string (runeAt ps m).s], .string ⟨#[]⟩, .int .i64 0], ?_, rfl, ?_⟩
      · have s0 := q1; have a0 := cell_of s0 0; have a1 := cell_of s0 1; have a2 := cell_of s0 2; have f0 := ice_of s0 0; have f1 := ice_of s0 1; have f2 := ice_of s0 2; have a4 := lt_of_heap s0; (try simp only [World.size_alloc, List.getElem?_toArray, List.getElem?_cons_zero, List.getElem?_cons_succ] at a0 a1 a2 f0 f1 f2 a4); clear s0; have s0 := q2; have a0 := cell_of s0 0; have a1 := cell_of s0 1; have a2 := cell_of s0 2; have f0 := ice_of s0 0; have f1 := ice_of s0 1; have f2 := ice_of s0 2; have a4 := lt_of_heap s0; (try simp only [World.size_alloc, List.getElem?_toArray, List.getElem?_cons_zero, List.getElem?_cons_succ] at a0 a1 a2 f0 f1 f2 a4); clear s0; have s0 := q3; have a0 := cell_of s0 0; have a1 := cell_of s0 1; have a2 := cell_of s0 2; have f0 := ice_of s0 0; have f1 := ice_of s0 1; have f2 := ice_of s0 2; have a4 := lt_of_heap s0; (try simp only [World.size_alloc, List.getElem?_toArray, List.getElem?_cons_zero, List.getElem?_cons_succ] at a0 a1 a2 f0 f1 f2 a4); clear s0
        rw [h0.out]
        simp [results, Tryz.results28, go_sem, runeV, *]
      · exact Up.grown (W := _) hup (grownBy_putObj' _ D _) (fun r e => by cases e; omega)

end Go.Proofs.YtmbipadiaggolaaGreatDoor

/- Walks: the document's values (shuckref14): Sane and its like; its heap of nothing (shuckref15). -/
namespace Go.Proofs.YtmbipadiaggolaaGreatDoor
open Go.RowKit
set_option linter.unusedSimpArgs false

def saneS (x : Val) : Val :=
  if x.k = 1 then ⟨1, 0, ⟨#[]⟩⟩
  else if x.k = 2 then ⟨2, if x.n = 0 then 0 else 1, ⟨#[]⟩⟩
  else if x.k = 3 then ⟨3, clampN x.n, ⟨#[]⟩⟩
  else if x.k = 4 then ⟨4, 0, x.s⟩
  else if x.k = 5 then ⟨5, x.n, ⟨#[]⟩⟩
  else ⟨0, 0, ⟨#[]⟩⟩

abbrev zeroV : Value := .agg #[.int .i64 0, .int .i64 0, .string ⟨#[]⟩]
abbrev outV (x : Val) (s : ByteArray) (f : Int) : Value := .agg #[.int .i64 x.k, .int .i64 x.n, .string x.s, .string s, .int .i64 f]

theorem rNumber_any (n : Int) (w : World) : Calls Tryz.prog 50 #[.int .i64 n] w fun e w' => e = .returned (.agg #[.int .i64 3, .int .i64 n, .string ⟨#[]⟩]) ∧ Up w w' := by
  go_enter Tryz.func50, Tryz.ntmps50
  go_wp2
  exact bodyPost_ret (v := .agg #[.int .i64 3, .int .i64 n, .string ⟨#[]⟩]) (by simp [results, Tryz.results50, go_sem]) rfl ⟨rfl, uq⟩

theorem rString_any (s : ByteArray) (w : World) : Calls Tryz.prog 54 #[.string s] w fun e w' => e = .returned (.agg #[.int .i64 4, .int .i64 0, .string s]) ∧ Up w w' := by
  go_enter Tryz.func54, Tryz.ntmps54
  go_wp2
  exact bodyPost_ret (v := .agg #[.int .i64 4, .int .i64 0, .string s]) (by simp [results, Tryz.results54, go_sem]) rfl ⟨rfl, uq⟩

theorem rBool_any (b : Bool) (w : World) : Calls Tryz.prog 75 #[.bool b] w fun e w' => e = .returned (.agg #[.int .i64 2, .int .i64 (if b = true then 1 else 0), .string ⟨#[]⟩]) ∧ Up w w' := by
  cases b
  all_goals
    go_enter Tryz.func75, Tryz.ntmps75
    go_wp2
    refine bodyPost_eq (by (simp [results, Tryz.results75, go_sem, *]) <;> rfl) rfl ?_ ⟨rfl, uq⟩
    rfl

theorem rThrow_any (s : ByteArray) (w : World) : Calls Tryz.prog 49 #[.string s] w fun e w' => e = .returned (outV ⟨0, 0, ⟨#[]⟩⟩ s 1) ∧ Up w w' := by
  go_enter Tryz.func49, Tryz.ntmps49
  go_wp2
  exact bodyPost_ret (v := outV ⟨0, 0, ⟨#[]⟩⟩ s 1) (by simp [results, Tryz.results49, go_sem]) rfl ⟨rfl, uq⟩

set_option maxHeartbeats 800000 in
theorem rSane_any (k n : Int) (s : ByteArray) (w : World) :
    Calls Tryz.prog 60 #[.agg #[.int .i64 k, .int .i64 n, .string s]] w fun e w' => e = .returned (.agg #[.int .i64 (saneS ⟨k, n, s⟩).k, .int .i64 (saneS ⟨k, n, s⟩).n, .string (saneS ⟨k, n, s⟩).s]) ∧ Up w w' := by
  go_enter Tryz.func60, Tryz.ntmps60
  go_wp2_with (first | (go_at_call 75; refine (rBool_any _ _).mono ?_; rintro e w' ⟨rfl, hu⟩; obtain ⟨hc, hf⟩ := And.intro hu.cells hu.ice; have hz := hu.size; (try simp only [World.size_alloc] at hz); (try (have hz0 : w.heap.size < w'.heap.size := by omega))) | (go_at_call 50; refine (rNumber_any _ _).mono ?_; rintro e w' ⟨rfl, hu⟩; obtain ⟨hc, hf⟩ := And.intro hu.cells hu.ice; have hz := hu.size; (try simp only [World.size_alloc] at hz); (try (have hz0 : w.heap.size < w'.heap.size := by omega))) | (go_at_call 54; refine (rString_any _ _).mono ?_; rintro e w' ⟨rfl, hu⟩; obtain ⟨hc, hf⟩ := And.intro hu.cells hu.ice; have hz := hu.size; (try simp only [World.size_alloc] at hz); (try (have hz0 : w.heap.size < w'.heap.size := by omega))))
  all_goals (refine bodyPost_eq (by (simp [results, Tryz.results60, go_sem, *]) <;> rfl) rfl ?_ ⟨rfl, uq⟩)
  all_goals (go_light; simp_all [saneS, clampN, Hid]; try (repeat' split))
  all_goals omega

/-! the document's heap of nothing -/
def RNil (w : World) (rb : Nat) : Prop := w.heap[rb]? = some (.cells #[.int .i64 0, .int .i64 0, .slice none 0 0] 40 (0, 0))
theorem RNil.up {w w' : World} {rb : Nat} (h : RNil w rb) (k : Up w w') : RNil w' rb := k.get h
def typeofS (k : Int) : ByteArray := if k = 0 then ⟨#[117, 110, 100, 101, 102, 105, 110, 101, 100]⟩ else if k = 2 then ⟨#[98, 111, 111, 108, 101, 97, 110]⟩ else if k = 3 then ⟨#[110, 117, 109, 98, 101, 114]⟩ else if k = 4 then ⟨#[115, 116, 114, 105, 110, 103]⟩ else ⟨#[111, 98, 106, 101, 99, 116]⟩
abbrev H0 : HM := ⟨0, 0, []⟩

theorem r_there (rb : Nat) (n : Int) (w : World) (h : RNil w rb) : Calls Tryz.prog 41 #[.pointer (some ⟨rb, 0, none⟩), .int .i64 n] w fun e w' => e = .returned (.bool false) ∧ w = w' := by
  have s0 := h
  unfold RNil at s0
  have a0 := cell_of s0 0; have a1 := cell_of s0 1; have a2 := cell_of s0 2; have f0 := ice_of s0 0; have f1 := ice_of s0 1; have f2 := ice_of s0 2; have a4 := lt_of_heap s0; (try simp only [World.size_alloc, List.getElem?_toArray, List.getElem?_cons_zero, List.getElem?_cons_succ] at a0 a1 a2 f0 f1 f2 a4); clear s0
  by_cases hn : 0 ≤ n
  · have hn2 : ¬ n < 0 := by omega
    go_enter Tryz.func41, Tryz.ntmps41
    go_wp2_with fail
    go_ret
    exact ⟨rfl, rfl⟩
  · go_enter Tryz.func41, Tryz.ntmps41
    go_wp2_with fail
    go_ret
    exact ⟨rfl, rfl⟩

set_option maxHeartbeats 800000 in
theorem r_sane (rb : Nat) (k n : Int) (s : ByteArray) (w : World) (h : RNil w rb) :
    Calls Tryz.prog 38 #[.pointer (some ⟨rb, 0, none⟩), .agg #[.int .i64 k, .int .i64 n, .string s]] w fun e w' => e = .returned (.agg #[.int .i64 (plainS H0 ⟨k, n, s⟩).k, .int .i64 (plainS H0 ⟨k, n, s⟩).n, .string (plainS H0 ⟨k, n, s⟩).s]) ∧ Up w w' := by
  have HR := Lib.hid h
  clear h
  obtain ⟨x, hx⟩ : ∃ x, Hid (x = saneS ⟨k, n, s⟩) := ⟨_, rfl⟩
  by_cases hk : x.k = 5
  · have hp : Hid (plainS H0 ⟨k, n, s⟩ = ⟨0, 0, ⟨#[]⟩⟩) := by
      have hx := hx.out
      subst hx
      unfold saneS at hk
      unfold plainS Hid
      dsimp only at hk ⊢
      repeat' split at hk
      all_goals simp_all [HM.there]
    rw [hp.out]
    go_enter Tryz.func38, Tryz.ntmps38
    go_wp2_with (first | (go_at_call 60; refine (rSane_any _ _ _ _).mono ?_; rintro e w' ⟨rfl, hu⟩; rw [← hx.out]; have s0 : w'.heap[w.heap.size + 1]? = some (.cells #[.int .i64 0, .int .i64 0, .string ⟨#[]⟩] 34 (0, 0)) := hu.get (alloc_at _ _ _ (by simp)); have a0 := cell_of s0 0; have a1 := cell_of s0 1; have a2 := cell_of s0 2; have f0 := ice_of s0 0; have f1 := ice_of s0 1; have f2 := ice_of s0 2; have a4 := lt_of_heap s0; (try simp only [World.size_alloc, List.getElem?_toArray, List.getElem?_cons_zero, List.getElem?_cons_succ] at a0 a1 a2 f0 f1 f2 a4); clear s0) | (go_at_call 41; refine (r_there rb _ _ (HR.out.up uq)).mono ?_; rintro e w2 ⟨rfl, rfl⟩))
    all_goals (refine bodyPost_eq (by (simp [results, Tryz.results38, go_sem, *]) <;> rfl) rfl ?_ ⟨rfl, uq⟩)
    all_goals rfl
  · have hp : Hid (plainS H0 ⟨k, n, s⟩ = x) := by
      have hx := hx.out
      subst hx
      unfold saneS at hk ⊢
      unfold plainS Hid
      dsimp only at hk ⊢
      repeat' split at hk
      all_goals simp_all [HM.there]
    rw [hp.out]
    go_enter Tryz.func38, Tryz.ntmps38
    go_wp2_with (first | (go_at_call 60; refine (rSane_any _ _ _ _).mono ?_; rintro e w' ⟨rfl, hu⟩; rw [← hx.out]; have s0 : w'.heap[w.heap.size + 1]? = some (.cells #[.int .i64 0, .int .i64 0, .string ⟨#[]⟩] 34 (0, 0)) := hu.get (alloc_at _ _ _ (by simp)); have a0 := cell_of s0 0; have a1 := cell_of s0 1; have a2 := cell_of s0 2; have f0 := ice_of s0 0; have f1 := ice_of s0 1; have f2 := ice_of s0 2; have a4 := lt_of_heap s0; (try simp only [World.size_alloc, List.getElem?_toArray, List.getElem?_cons_zero, List.getElem?_cons_succ] at a0 a1 a2 f0 f1 f2 a4); clear s0))
    all_goals (refine bodyPost_eq (by (simp [results, Tryz.results38, go_sem, *]) <;> rfl) rfl ?_ ⟨rfl, uq⟩)
    all_goals rfl

theorem r_kind (rb : Nat) (n : Int) (w : World) (h : RNil w rb) : Calls Tryz.prog 15 #[.pointer (some ⟨rb, 0, none⟩), .int .i64 n] w fun e w' => e = .returned (.int .i64 0) ∧ w = w' := by
  go_enter Tryz.func15, Tryz.ntmps15
  go_wp2_with (first | (go_at_call 41; refine (r_there rb _ _ h).mono ?_; rintro e w2 ⟨rfl, rfl⟩))
  go_ret
  exact ⟨rfl, rfl⟩

theorem r_array (rb : Nat) (k n : Int) (s : ByteArray) (w : World) (h : RNil w rb) : Calls Tryz.prog 52 #[.pointer (some ⟨rb, 0, none⟩), .agg #[.int .i64 k, .int .i64 n, .string s]] w fun e w' => e = .returned (.bool false) ∧ Up w w' := by
  have HR := Lib.hid h
  clear h
  by_cases hk : k = 5
  · subst hk
    go_enter Tryz.func52, Tryz.ntmps52
    go_wp2_with (first | (go_at_call 15; refine (r_kind rb _ _ (HR.out.up uq)).mono ?_; rintro e w2 ⟨rfl, rfl⟩))
    go_ret
    exact ⟨rfl, uq⟩
  · go_enter Tryz.func52, Tryz.ntmps52
    go_wp2_with (first | (go_at_call 15; refine (r_kind rb _ _ (HR.out.up uq)).mono ?_; rintro e w2 ⟨rfl, rfl⟩))
    all_goals go_ret
    all_goals exact ⟨rfl, uq⟩

theorem r_len (rb : Nat) (n : Int) (w : World) (h : RNil w rb) : Calls Tryz.prog 17 #[.pointer (some ⟨rb, 0, none⟩), .int .i64 n] w fun e w' => e = .returned (.int .i64 0) ∧ w = w' := by
  go_enter Tryz.func17, Tryz.ntmps17
  go_wp2_with (first | (go_at_call 15; refine (r_kind rb _ _ h).mono ?_; rintro e w2 ⟨rfl, rfl⟩))
  go_ret
  exact ⟨rfl, rfl⟩

theorem r_make (rb : Nat) (k p : Int) (w : World) (h : RNil w rb) : Calls Tryz.prog 21 #[.pointer (some ⟨rb, 0, none⟩), .int .i64 k, .int .i64 p] w fun e w' => e = .returned (.tuple #[.int .i64 (-1), .int .i64 3]) ∧ Up w w' := by
  have s0 := h
  unfold RNil at s0
  have a0 := cell_of s0 0; have a1 := cell_of s0 1; have a2 := cell_of s0 2; have f0 := ice_of s0 0; have f1 := ice_of s0 1; have f2 := ice_of s0 2; have a4 := lt_of_heap s0; (try simp only [World.size_alloc, List.getElem?_toArray, List.getElem?_cons_zero, List.getElem?_cons_succ] at a0 a1 a2 f0 f1 f2 a4); clear s0
  go_enter Tryz.func21, Tryz.ntmps21
  go_wp2_with fail
  go_region_held3 (fun W => W.cell? ⟨rb, 0, none⟩ = some (.int .i64 0) ∧ W.cell? ⟨rb, 1, none⟩ = some (.int .i64 0)) (go_keep) (first | fail)
  go_wp2_with fail
  exact bodyPost_ret (v := .tuple #[.int .i64 (-1), .int .i64 3]) (by simp [results, Tryz.results21, go_sem]) rfl ⟨rfl, uq⟩

theorem r_push (rb : Nat) (n : Int) (x : Val) (w : World) (h : RNil w rb) : Calls Tryz.prog 33 #[.pointer (some ⟨rb, 0, none⟩), .int .i64 n, .agg #[.int .i64 (x).k, .int .i64 (x).n, .string (x).s]] w fun e w' => e = .returned (.tuple #[.int .i64 (-1), .int .i64 1]) ∧ Up w w' := by
  have HR := Lib.hid h
  clear h
  go_enter Tryz.func33, Tryz.ntmps33
  go_wp2_with (first | (go_at_call 15; refine (r_kind rb _ _ (HR.out.up uq)).mono ?_; rintro e w2 ⟨rfl, rfl⟩))
  exact bodyPost_ret (v := .tuple #[.int .i64 (-1), .int .i64 1]) (by simp [results, Tryz.results33, go_sem]) rfl ⟨rfl, uq⟩

set_option maxHeartbeats 800000 in
theorem r_typeof (rb : Nat) (k n : Int) (s : ByteArray) (w : World) (h : RNil w rb) : Calls Tryz.prog 34 #[.pointer (some ⟨rb, 0, none⟩), .agg #[.int .i64 k, .int .i64 n, .string s]] w fun e w' => e = .returned (.string (typeofS (plainS H0 ⟨k, n, s⟩).k)) ∧ Up w w' := by
  have HR := Lib.hid h
  clear h
  obtain ⟨x, hx⟩ : ∃ x, Hid (x = plainS H0 ⟨k, n, s⟩) := ⟨_, rfl⟩
  rw [← hx.out]
  have h5 : x.k ≠ 5 := by
    have hx := hx.out
    subst hx
    unfold plainS
    dsimp only
    repeat' split
    all_goals first | (simp_all [HM.there]; done) | (exfalso; simp_all [HM.there]; omega)
  go_enter Tryz.func34, Tryz.ntmps34
  go_wp2_with (first | (go_at_call 38; refine (r_sane rb _ _ _ _ (HR.out.up uq)).mono ?_; rintro e w' ⟨rfl, hu⟩; rw [← hx.out]; obtain ⟨hc, hf⟩ := And.intro hu.cells hu.ice; have hz := hu.size; (try simp only [World.size_alloc] at hz); (try (have hz0 : w.heap.size < w'.heap.size := by omega))))
  all_goals (refine bodyPost_eq (by (simp [results, Tryz.results34, go_sem, *]) <;> rfl) rfl ?_ ⟨rfl, uq⟩)
  all_goals (go_light; simp_all [typeofS])

end Go.Proofs.YtmbipadiaggolaaGreatDoor
