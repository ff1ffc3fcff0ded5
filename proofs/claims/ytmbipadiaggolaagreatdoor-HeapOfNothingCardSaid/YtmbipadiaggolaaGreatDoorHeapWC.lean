import Derived.Test.YtmbipadiaggolaaGreatDoorHeapWB
import Derived.Test.YtmbipadiaggolaaGreatDoorShowD
import Derived.RangeFuncNested
import Derived.RangeFuncBound
import Derived.RangeFuncCalls
import Derived.RangeFuncLeaves
import Derived.OwnWalkIn
import Derived.TacticsInMore
import Derived.LoopNIn
import Derived.LoopIn
import Derived.Deep.RegionLaw
import Derived.Deep.RegionHeld3
import Derived.Deep.CutRange
import Derived.Deep.DeepCutAuto
/- Walks: At, of an array. -/
namespace Go.Proofs.YtmbipadiaggolaaGreatDoor
open Go.RowKit
set_option linter.unusedSimpArgs false
attribute [local go_sem] Oper.semAt_some ta_aa ta_ao ta_an ta_oa ta_oo ta_on m_kind_a m_kind_o m_behind_a m_behind_o m_own_a m_own_o

/-- the boxes of At: v and index as they count, and its results -/
structure AtBoxes (w : World) (v i : Val) (W : World) : Prop where
  up : Up w W
  v : W.heap[w.heap.size]? = some (.cells #[.int .i64 v.k, .int .i64 v.n, .string v.s] 34 (0, 0))
  i : W.heap[w.heap.size + 1]? = some (.cells #[.int .i64 i.k, .int .i64 i.n, .string i.s] 34 (0, 0))
  r0 : W.heap[w.heap.size + 1 + 1]? = some (.cells #[.int .i64 0, .int .i64 0, .string ⟨#[]⟩] 34 (0, 0))
  r1 : W.heap[w.heap.size + 1 + 1 + 1]? = some (.cells #[.string ⟨#[]⟩] 9 (0, 0))
  r2 : W.heap[w.heap.size + 1 + 1 + 1 + 1]? = some (.cells #[.int .i64 0] 3 (0, 0))

theorem AtBoxes.to {w W W' : World} {v i : Val} (h : AtBoxes w v i W) (k : Up W W') : AtBoxes w v i W' := ⟨h.up.trans k, k.get h.v, k.get h.i, k.get h.r0, k.get h.r1, k.get h.r2⟩

theorem alloc_keep {W : World} {c : Nat} {o p : Obj} (h : W.heap[c]? = some p) : (W.alloc o).heap[c]? = some p := by rw [alloc_old W o c (lt_of_heap h)]; exact h

theorem at_start (w : World) (v i : Val) : AtBoxes w v i (((((w.alloc (.cells #[.int .i64 v.k, .int .i64 v.n, .string v.s] 34)).alloc (.cells #[.int .i64 i.k, .int .i64 i.n, .string i.s] 34)).alloc (.cells #[.int .i64 0, .int .i64 0, .string ⟨#[]⟩] 34)).alloc (.cells #[.string ⟨#[]⟩] 9)).alloc (.cells #[.int .i64 0] 3)) where
  up := (((((Up.refl w).alloc _).alloc _).alloc _).alloc _).alloc _
  v := alloc_keep (alloc_keep (alloc_keep (alloc_keep (alloc_get w _))))
  i := alloc_keep (alloc_keep (alloc_keep (alloc_at _ _ _ (by simp))))
  r0 := alloc_keep (alloc_keep (alloc_at _ _ _ (by simp)))
  r1 := alloc_keep (alloc_at _ _ _ (by simp))
  r2 := alloc_at _ _ _ (by simp)

theorem at_set3 {W : World} {b : Nat} {x y z x' y' z' : Value} {T : TypeId} (h : W.heap[b]? = some (.cells #[x, y, z] T (0, 0))) : (((W.setCell ⟨b, 0, none⟩ x').setCell ⟨b, 1, none⟩ y').setCell ⟨b, 2, none⟩ z').heap[b]? = some (.cells #[x', y', z'] T (0, 0)) := by
  have h1 := setCell_block (i := 0) h x'
  have h2 := setCell_block (i := 1) h1 y'
  have h3 := setCell_block (i := 2) h2 z'
  simpa using h3
theorem at_skip3 {W : World} {b c : Nat} {o : Obj} {x' y' z' : Value} (h : W.heap[c]? = some o) (hne : c ≠ b) : (((W.setCell ⟨b, 0, none⟩ x').setCell ⟨b, 1, none⟩ y').setCell ⟨b, 2, none⟩ z').heap[c]? = some o := by
  rw [setCell_other hne, setCell_other hne, setCell_other hne]; exact h

theorem AtBoxes.stored {w W : World} {v0 i0 : Val} (h : AtBoxes w v0 i0 W) (v i : Val) : AtBoxes w v i ((((((W.setCell ⟨w.heap.size, 0, none⟩ (.int .i64 v.k)).setCell ⟨w.heap.size, 1, none⟩ (.int .i64 v.n)).setCell ⟨w.heap.size, 2, none⟩ (.string v.s)).setCell ⟨w.heap.size + 1, 0, none⟩ (.int .i64 i.k)).setCell ⟨w.heap.size + 1, 1, none⟩ (.int .i64 i.n)).setCell ⟨w.heap.size + 1, 2, none⟩ (.string i.s)) where
  up := Below.trans h.up (show Below w.heap.size W _ from ((((((Below.refl _ W).setCell (p := ⟨w.heap.size, 0, none⟩) (Nat.le_refl _) _).setCell (p := ⟨w.heap.size, 1, none⟩) (Nat.le_refl _) _).setCell (p := ⟨w.heap.size, 2, none⟩) (Nat.le_refl _) _).setCell (p := ⟨w.heap.size + 1, 0, none⟩) (by show w.heap.size ≤ w.heap.size + 1; omega) _).setCell (p := ⟨w.heap.size + 1, 1, none⟩) (by show w.heap.size ≤ w.heap.size + 1; omega) _).setCell (p := ⟨w.heap.size + 1, 2, none⟩) (by show w.heap.size ≤ w.heap.size + 1; omega) _)
  v := at_skip3 (at_set3 h.v) (by omega)
  i := at_set3 (at_skip3 h.i (by omega))
  r0 := at_skip3 (at_skip3 h.r0 (by omega)) (by omega)
  r1 := at_skip3 (at_skip3 h.r1 (by omega)) (by omega)
  r2 := at_skip3 (at_skip3 h.r2 (by omega)) (by omega)

theorem cell_lt3 {w : World} {b o : Nat} {v : Value} (h : w.cell? ⟨b, o, none⟩ = some v) : b < w.heap.size := by
  rcases Nat.lt_or_ge b w.heap.size with h' | h'
  · exact h'
  · simp [World.cell?, Array.getElem?_eq_none h'] at h

theorem cell_set_ne' {w : World} {b c i j : Nat} {v : Value} (h : c ≠ b) : (w.setCell ⟨b, i, none⟩ v).cell? ⟨c, j, none⟩ = w.cell? ⟨c, j, none⟩ := by
  simp [World.cell?, setCell_other h]

/-- what stands at an index -/
def atVal (vals : List Val) (m : Int) : Val := if 0 ≤ m then optV (vals[m.toNat]?) else ⟨0, 0, ⟨#[]⟩⟩

set_option maxRecDepth 100000 in
set_option maxHeartbeats 4000000 in
theorem At_in (hv : Value) (H : HM) (tvs : List Value) (own : Own) (n m : Int) (s s2 : ByteArray) (w : World) (h : HRep w hv H tvs own) (b : Nat) (vals : List Val) (htv : tvs[n.toNat]? = some (.iface 86 (.pointer (some ⟨b, 0, none⟩)))) (ht : H.things[n.toNat]? = some ⟨2, -1, [], vals⟩) (hpn : plainS H ⟨5, n, s⟩ = ⟨5, n, ⟨#[]⟩⟩) (hpm : plainS H ⟨3, m, s2⟩ = ⟨3, m, ⟨#[]⟩⟩) (ha : arrOf H tvs 5 n = .pointer (some ⟨b, 0, none⟩)) :
    Calls Tryz.prog 28 #[hv, .agg #[.int .i64 5, .int .i64 n, .string s], .agg #[.int .i64 3, .int .i64 m, .string s2]] w fun e w' => e = .returned (.tuple #[.agg #[.int .i64 (atVal vals m).k, .int .i64 (atVal vals m).n, .string (atVal vals m).s], .string ⟨#[]⟩, .int .i64 0]) ∧ Up w w' := by
  obtain ⟨sa, cap, hbc, hrow⟩ : ∃ sa cap, w.heap[b]? = some (.cells #[.slice sa vals.length cap] 89 (0, 0)) ∧ Row w own (n.toNat + 1, 1) 34 3 (.slice sa vals.length cap) vals.length (vals.flatMap Val.cells) := by
    have hti := things_at h ht htv
    cases hti with
    | arr _ _ av hb' hc' hr' =>
      obtain ⟨sa, cap, rfl, _⟩ := ThingIs.arrow hr'
      exact ⟨sa, cap, hc', hr'⟩
  have hlen : vals.length ≤ 1048576 := by
    cases h with
    | nil => simp at ht
    | some hb _ _ _ h => have q1 := sizes_at _ _ _ ht; have q2 := h.few; have q3 := h.roomU; have q4 := h.roomM; simp only [Thing.size] at q1; omega
  have HB := Lib.hid (And.intro hbc hrow)
  have hbl := lt_of_heap hbc
  have hh := Lib.hid h
  have HA := Lib.hid ha
  have HP := Lib.hid (And.intro hpn hpm)
  clear h ha htv hpn hpm hbc hrow ht
  refine callsIn_wide.1 (callsIn_of_wp_marks (n := 2) Tryz.func28 rfl trivial ?_)
  refine wpIn_wide.2 ?_
  simp only [Tryz.ntmps28, List.size_toArray, List.length_cons, List.length_nil, Nat.reduceAdd, Nat.reduceSub, Array.replicate_succ, Array.replicate_zero, List.push_toArray, List.append_toArray, List.nil_append, List.cons_append]
  go_wp2_with fail
  have hx : AtBoxes w ⟨5, n, s⟩ ⟨3, m, s2⟩ (((((w.alloc (.cells #[.int .i64 5, .int .i64 n, .string s] 34)).alloc (.cells #[.int .i64 3, .int .i64 m, .string s2] 34)).alloc (.cells #[.int .i64 0, .int .i64 0, .string ⟨#[]⟩] 34)).alloc (.cells #[.string ⟨#[]⟩] 9)).alloc (.cells #[.int .i64 0] 3)) :=
    at_start w _ _
  go_cut [4] from 13 to 18 (fun v4 wx => v4 = .pointer (some ⟨w.heap.size, 0, none⟩) ∧ AtBoxes w ⟨5, n, ⟨#[]⟩⟩ ⟨3, m, ⟨#[]⟩⟩ wx)
  case first =>
    refine wp_region_noPanic ?_
    go_region_law (first | (go_simp; go_at_call 35; refine (plain_any hv H tvs own _ _ _ _ (hh.out.up (hx.up.trans (by repeat (first | with_reducible exact Up.refl _ | with_reducible assumption | with_reducible refine Up.drewN ?_ _ | with_reducible refine Up.drew ?_ | with_reducible refine Up.alloc ?_ _ | with_reducible refine Up.setCell ?_ (by first | omega | (simp; done) | (simp; omega)) _ | with_reducible refine Up.trans ?_ (by assumption)))))).mono ?_; rintro e w' ⟨rfl, hu⟩; simp only [HP.out.1, HP.out.2]; have hx := hx.to (show Up _ w' from Up.trans (by repeat (first | with_reducible exact Up.refl _ | with_reducible assumption | with_reducible refine Up.drewN ?_ _ | with_reducible refine Up.drew ?_ | with_reducible refine Up.alloc ?_ _ | with_reducible refine Up.setCell ?_ (by first | omega | (simp; done) | (simp; omega)) _ | with_reducible refine Up.trans ?_ (by assumption))) hu); have s0 := hx.v; have a0 := cell_of s0 0; have a1 := cell_of s0 1; have a2 := cell_of s0 2; have f0 := ice_of s0 0; have f1 := ice_of s0 1; have f2 := ice_of s0 2; have a4 := lt_of_heap s0; (try simp only [World.size_alloc, List.getElem?_toArray, List.getElem?_cons_zero, List.getElem?_cons_succ] at a0 a1 a2 f0 f1 f2 a4); clear s0; have s0 := hx.i; have a0 := cell_of s0 0; have a1 := cell_of s0 1; have a2 := cell_of s0 2; have f0 := ice_of s0 0; have f1 := ice_of s0 1; have f2 := ice_of s0 2; have a4 := lt_of_heap s0; (try simp only [World.size_alloc, List.getElem?_toArray, List.getElem?_cons_zero, List.getElem?_cons_succ] at a0 a1 a2 f0 f1 f2 a4); clear s0; have s0 := hx.r0; have a0 := cell_of s0 0; have a1 := cell_of s0 1; have a2 := cell_of s0 2; have f0 := ice_of s0 0; have f1 := ice_of s0 1; have f2 := ice_of s0 2; have a4 := lt_of_heap s0; (try simp only [World.size_alloc, List.getElem?_toArray, List.getElem?_cons_zero, List.getElem?_cons_succ] at a0 a1 a2 f0 f1 f2 a4); clear s0; have s0 := hx.r1; have a0 := cell_of s0 0; have a1 := cell_of s0 1; have a2 := cell_of s0 2; have f0 := ice_of s0 0; have f1 := ice_of s0 1; have f2 := ice_of s0 2; have a4 := lt_of_heap s0; (try simp only [World.size_alloc, List.getElem?_toArray, List.getElem?_cons_zero, List.getElem?_cons_succ] at a0 a1 a2 f0 f1 f2 a4); clear s0; have s0 := hx.r2; have a0 := cell_of s0 0; have a1 := cell_of s0 1; have a2 := cell_of s0 2; have f0 := ice_of s0 0; have f1 := ice_of s0 1; have f2 := ice_of s0 2; have a4 := lt_of_heap s0; (try simp only [World.size_alloc, List.getElem?_toArray, List.getElem?_cons_zero, List.getElem?_cons_succ] at a0 a1 a2 f0 f1 f2 a4); clear s0))
    all_goals refine NoPanic.normal ?_
    all_goals (go_wp2_with fail; go_meet)
    all_goals exact ⟨rfl, hx.stored _ _⟩
  case rest =>
    obtain ⟨rfl, hx⟩ := hcut
    have s0 := hx.v; have a0 := cell_of s0 0; have a1 := cell_of s0 1; have a2 := cell_of s0 2; have f0 := ice_of s0 0; have f1 := ice_of s0 1; have f2 := ice_of s0 2; have a4 := lt_of_heap s0; (try simp only [World.size_alloc, List.getElem?_toArray, List.getElem?_cons_zero, List.getElem?_cons_succ] at a0 a1 a2 f0 f1 f2 a4); clear s0; have s0 := hx.i; have a0 := cell_of s0 0; have a1 := cell_of s0 1; have a2 := cell_of s0 2; have f0 := ice_of s0 0; have f1 := ice_of s0 1; have f2 := ice_of s0 2; have a4 := lt_of_heap s0; (try simp only [World.size_alloc, List.getElem?_toArray, List.getElem?_cons_zero, List.getElem?_cons_succ] at a0 a1 a2 f0 f1 f2 a4); clear s0; have s0 := hx.r0; have a0 := cell_of s0 0; have a1 := cell_of s0 1; have a2 := cell_of s0 2; have f0 := ice_of s0 0; have f1 := ice_of s0 1; have f2 := ice_of s0 2; have a4 := lt_of_heap s0; (try simp only [World.size_alloc, List.getElem?_toArray, List.getElem?_cons_zero, List.getElem?_cons_succ] at a0 a1 a2 f0 f1 f2 a4); clear s0; have s0 := hx.r1; have a0 := cell_of s0 0; have a1 := cell_of s0 1; have a2 := cell_of s0 2; have f0 := ice_of s0 0; have f1 := ice_of s0 1; have f2 := ice_of s0 2; have a4 := lt_of_heap s0; (try simp only [World.size_alloc, List.getElem?_toArray, List.getElem?_cons_zero, List.getElem?_cons_succ] at a0 a1 a2 f0 f1 f2 a4); clear s0; have s0 := hx.r2; have a0 := cell_of s0 0; have a1 := cell_of s0 1; have a2 := cell_of s0 2; have f0 := ice_of s0 0; have f1 := ice_of s0 1; have f2 := ice_of s0 2; have a4 := lt_of_heap s0; (try simp only [World.size_alloc, List.getElem?_toArray, List.getElem?_cons_zero, List.getElem?_cons_succ] at a0 a1 a2 f0 f1 f2 a4); clear s0
    have hup := hx.up
    go_wp2_with (first | (go_at_call 42; refine (array_any hv H tvs own _ _ _ _ (hh.out.up (hx.up.trans (by repeat (first | with_reducible exact Up.refl _ | with_reducible assumption | with_reducible refine Up.drewN ?_ _ | with_reducible refine Up.drew ?_ | with_reducible refine Up.alloc ?_ _ | with_reducible refine Up.setCell ?_ (by first | omega | (simp; done) | (simp; omega)) _ | with_reducible refine Up.trans ?_ (by assumption)))))).mono ?_; rintro e w2 ⟨rfl, hu⟩; rw [HA.out]; have hx := hx.to (show Up _ w2 from Up.trans (by repeat (first | with_reducible exact Up.refl _ | with_reducible assumption | with_reducible refine Up.drewN ?_ _ | with_reducible refine Up.drew ?_ | with_reducible refine Up.alloc ?_ _ | with_reducible refine Up.setCell ?_ (by first | omega | (simp; done) | (simp; omega)) _ | with_reducible refine Up.trans ?_ (by assumption))) hu); have s0 := hx.v; have a0 := cell_of s0 0; have a1 := cell_of s0 1; have a2 := cell_of s0 2; have f0 := ice_of s0 0; have f1 := ice_of s0 1; have f2 := ice_of s0 2; have a4 := lt_of_heap s0; (try simp only [World.size_alloc, List.getElem?_toArray, List.getElem?_cons_zero, List.getElem?_cons_succ] at a0 a1 a2 f0 f1 f2 a4); clear s0; have s0 := hx.i; have a0 := cell_of s0 0; have a1 := cell_of s0 1; have a2 := cell_of s0 2; have f0 := ice_of s0 0; have f1 := ice_of s0 1; have f2 := ice_of s0 2; have a4 := lt_of_heap s0; (try simp only [World.size_alloc, List.getElem?_toArray, List.getElem?_cons_zero, List.getElem?_cons_succ] at a0 a1 a2 f0 f1 f2 a4); clear s0; have s0 := hx.r0; have a0 := cell_of s0 0; have a1 := cell_of s0 1; have a2 := cell_of s0 2; have f0 := ice_of s0 0; have f1 := ice_of s0 1; have f2 := ice_of s0 2; have a4 := lt_of_heap s0; (try simp only [World.size_alloc, List.getElem?_toArray, List.getElem?_cons_zero, List.getElem?_cons_succ] at a0 a1 a2 f0 f1 f2 a4); clear s0; have s0 := hx.r1; have a0 := cell_of s0 0; have a1 := cell_of s0 1; have a2 := cell_of s0 2; have f0 := ice_of s0 0; have f1 := ice_of s0 1; have f2 := ice_of s0 2; have a4 := lt_of_heap s0; (try simp only [World.size_alloc, List.getElem?_toArray, List.getElem?_cons_zero, List.getElem?_cons_succ] at a0 a1 a2 f0 f1 f2 a4); clear s0; have s0 := hx.r2; have a0 := cell_of s0 0; have a1 := cell_of s0 1; have a2 := cell_of s0 2; have f0 := ice_of s0 0; have f1 := ice_of s0 1; have f2 := ice_of s0 2; have a4 := lt_of_heap s0; (try simp only [World.size_alloc, List.getElem?_toArray, List.getElem?_cons_zero, List.getElem?_cons_succ] at a0 a1 a2 f0 f1 f2 a4); clear s0))
    have hb0 := cell_of (hx.up.get HB.out.1) 0
    simp only [List.getElem?_toArray, List.getElem?_cons_zero] at hb0
    have hbl2 : b < w2.heap.size := Nat.lt_of_lt_of_le hbl hx.up.size
    by_cases h0 : m < 0
    · have ha0 : Hid (atVal vals m = ⟨0, 0, ⟨#[]⟩⟩) := if_neg (by omega)
      have h0' : decide (0 ≤ m) = false := by simpa using h0
      go_quiet (fail)
      go_wp2_with fail
      refine ⟨.tuple #[.agg #[.int .i64 (atVal vals m).k, .int .i64 (atVal vals m).n, .string (atVal vals m).s], .string ⟨#[]⟩, .int .i64 0], ?_, rfl, ?_⟩
      · rw [ha0.out]
        simp [results, Tryz.results28, go_sem, *]
      · have hw2 : Up w w2 := hx.up
        exact (by repeat (first | with_reducible exact Up.refl _ | with_reducible assumption | with_reducible refine Up.drewN ?_ _ | with_reducible refine Up.drew ?_ | with_reducible refine Up.alloc ?_ _ | with_reducible refine Up.setCell ?_ (by first | omega | (simp; done) | (simp; omega)) _ | with_reducible refine Up.trans ?_ (by assumption)))
    · obtain ⟨M, rfl⟩ := Int.eq_ofNat_of_zero_le (show 0 ≤ m by omega)
      have h0' : decide (0 ≤ (M : Int)) = true := by simp
      by_cases hM : M < vals.length
      · obtain ⟨v, hv⟩ : ∃ v, vals[M]? = some v := ⟨_, List.getElem?_eq_getElem hM⟩
        have ha0 : Hid (atVal vals M = v) := by unfold atVal Hid; rw [if_pos (by omega), Int.toNat_natCast, hv]; rfl
        obtain ⟨f0, f1, f2⟩ := flat_at vals M v hv
        obtain ⟨g, rfl, e0⟩ := row_at HB.out.2 _ _ f0
        obtain ⟨g', hg', e1⟩ := row_at HB.out.2 _ _ f1
        obtain ⟨g'', hg'', e2⟩ := row_at HB.out.2 _ _ f2
        cases hg'
        cases hg''
        have hgl := cell_lt3 e0
        have d0 := (hx.up.cells g _ hgl).trans e0
        have d1 := (hx.up.cells g _ hgl).trans e1
        have d2 := (hx.up.cells g _ hgl).trans e2
        clear hv f0 f1 f2 e0 e1 e2
        have hi1 := cell_of hx.i 1
        simp only [List.getElem?_toArray, List.getElem?_cons_zero, List.getElem?_cons_succ] at hi1
        have hMi : (M : Int) < (vals.length : Int) := by omega
        go_quiet (fail)
        go_wp2_with fail
        go_region_held3 (fun W => W.cell? ⟨b, 0, none⟩ = some (.slice (some ⟨g, 0, none⟩) vals.length cap) ∧ W.cell? ⟨w.heap.size + 1, 1, none⟩ = some (.int .i64 M) ∧ W.cell? ⟨g, M * 3, none⟩ = some (.int .i64 v.k) ∧ W.cell? ⟨g, M * 3 + 1, none⟩ = some (.int .i64 v.n) ∧ W.cell? ⟨g, M * 3 + 2, none⟩ = some (.string v.s)) (((try dsimp only); (repeat' apply And.intro); all_goals (first | go_keep | ((simp (disch := omega) only [cell_set_ne']); first | exact hb0 | exact hi1 | exact d0 | exact d1 | exact d2)))) (first | fail)
        go_wp2_with fail
        refine ⟨.tuple #[.agg #[.int .i64 (atVal vals M).k, .int .i64 (atVal vals M).n, .string (atVal vals M).s], .string ⟨#[]⟩, .int .i64 0], ?_, rfl, ?_⟩
        · rw [ha0.out]
          simp [results, Tryz.results28, go_sem, *]
        · have hw2 : Up w w2 := hx.up
          exact (by repeat (first | with_reducible exact Up.refl _ | with_reducible assumption | with_reducible refine Up.drewN ?_ _ | with_reducible refine Up.drew ?_ | with_reducible refine Up.alloc ?_ _ | with_reducible refine Up.setCell ?_ (by first | omega | (simp; done) | (simp; omega)) _ | with_reducible refine Up.trans ?_ (by assumption)))
      · have ha0 : Hid (atVal vals M = ⟨0, 0, ⟨#[]⟩⟩) := by unfold atVal Hid; rw [if_pos (by omega), Int.toNat_natCast, List.getElem?_eq_none (by omega)]; rfl
        have hMi : decide ((M : Int) < (vals.length : Int)) = false := by simp; omega
        go_quiet (fail)
        go_wp2_with fail
        refine ⟨.tuple #[.agg #[.int .i64 (atVal vals M).k, .int .i64 (atVal vals M).n, .string (atVal vals M).s], .string ⟨#[]⟩, .int .i64 0], ?_, rfl, ?_⟩
        · rw [ha0.out]
          simp [results, Tryz.results28, go_sem, *]
        · have hw2 : Up w w2 := hx.up
          exact (by repeat (first | with_reducible exact Up.refl _ | with_reducible assumption | with_reducible refine Up.drewN ?_ _ | with_reducible refine Up.drew ?_ | with_reducible refine Up.alloc ?_ _ | with_reducible refine Up.setCell ?_ (by first | omega | (simp; done) | (simp; omega)) _ | with_reducible refine Up.trans ?_ (by assumption)))

end Go.Proofs.YtmbipadiaggolaaGreatDoor
