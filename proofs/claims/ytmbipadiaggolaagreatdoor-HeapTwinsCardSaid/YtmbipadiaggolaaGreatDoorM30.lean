import Derived.Test.YtmbipadiaggolaaGreatDoorM29
/- YtmbipadiaggolaaGreatDoorM30: lemmas of the proof, in order: FullB, FullC. -/
/- Walks: the program's Put in general: of an array. -/
namespace Go.Proofs.YtmbipadiaggolaaGreatDoor
open Go.RowKit
set_option linter.unusedSimpArgs false
attribute [local go_sem] ta_aa ta_ao ta_an ta_oa ta_oo ta_on m_kind_a m_kind_o m_behind_a m_behind_o m_own_a m_own_o

/-- a value is set anew -/
theorem Rep.valPut {W : World} {hb : Nat} {H : HM} {tvs : List Value} {own : Own} {i : Nat} {vals : List Val} {b sg cap : Nat} (h : Rep W hb H tvs own) (ht : H.things[i]? = some ⟨2, -1, [], vals⟩) (htv : tvs[i]? = some (.iface 86 (.pointer (some ⟨b, 0, none⟩))))
    (hbc : W.heap[b]? = some (.cells #[.slice (some ⟨sg, 0, none⟩) vals.length cap] 89 (0, 0))) (hbo : own b = some (i + 1, 0)) (hrow : Row W own (i + 1, 1) 34 3 (.slice (some ⟨sg, 0, none⟩) vals.length cap) vals.length (vals.flatMap Val.cells))
    {j : Nat} {y : Val} (hx : vals[j]? = some y) (x : Val) :
    Rep (set3 W sg (j * 3) x) hb ⟨H.room, H.used, H.things.set i ⟨2, -1, [], vals.set j x⟩⟩ tvs own ∧ Mut own own W (set3 W sg (j * 3) x) := by
  have hso := hrow.2 sg rfl
  refine Rep.turned h (set3_kept ⟨_, hso, rfl⟩) (fun _ _ => rfl) (fun c m hm => ⟨by rw [set3_size]; exact h.lt c m hm, fun hc => by have := h.lt c m hm; omega⟩) ht htv ?_ ?_
  · refine .arr _ b (.slice (some ⟨sg, 0, none⟩) vals.length cap) hbo ?_ ?_
    · rw [set3_other (fun e => by subst e; rw [hbo] at hso; cases hso)]
      exact hbc
    · have h3 := ((hrow.set (j * 3 + 0) (.int .i64 x.k)).set (j * 3 + 1) (.int .i64 x.n)).set (j * 3 + 2) (.string x.s)
      have hs0 : ∀ (z : Val), (Val.cells z).length = 3 := fun _ => rfl
      have hjl : j < vals.length := (List.getElem?_eq_some_iff.1 hx).1
      rw [flat_set Val.cells 3 hs0 vals j 0 y ⟨x.k, y.n, y.s⟩ _ hx (by omega) rfl,
        flat_set Val.cells 3 hs0 _ j 1 ⟨x.k, y.n, y.s⟩ ⟨x.k, x.n, y.s⟩ _ (by rw [List.getElem?_set]; simp [hjl]) (by omega) rfl,
        flat_set Val.cells 3 hs0 _ j 2 ⟨x.k, x.n, y.s⟩ x _ (by rw [List.getElem?_set]; simp [hjl]) (by omega) rfl, List.set_set, List.set_set] at h3
      rw [List.length_set]
      exact h3
  · have q1 := sizes_set H.things i _ ⟨2, -1, [], vals.set j x⟩ ht
    have q2 := h.few
    simp only [Thing.size, List.length_set] at q1
    omega

set_option maxHeartbeats 1600000 in
theorem Put_lo (hb : Nat) (H : HM) (tvs : List Value) (own : Own) (k n k2 n2 : Int) (s s2 : ByteArray) (z : Val) (w : World) (h : Rep w hb H tvs own) (qn : Int) (qs : ByteArray) (ey : plainS H ⟨k2, n2, s2⟩ = ⟨3, qn, qs⟩) (b : Nat) (N : Nat) (vals : List Val) (htv : tvs[N]? = some (.iface 86 (.pointer (some ⟨b, 0, none⟩)))) (ht : H.things[N]? = some ⟨2, -1, [], vals⟩) (ha : arrOf H tvs k n = .pointer (some ⟨b, 0, none⟩)) (hq : qn < 0) :
    Calls Tryz.prog 30 #[.pointer (some ⟨hb, 0, none⟩), .agg #[.int .i64 k, .int .i64 n, .string s], .agg #[.int .i64 k2, .int .i64 n2, .string s2], .agg #[.int .i64 (z).k, .int .i64 (z).n, .string (z).s]] w fun e w' => e = .returned (.tuple #[.string noIndexS, .int .i64 1]) ∧ Up w w' := by
  have hlen : vals.length ≤ 1048576 := by
    have q1 := sizes_at _ _ _ ht; have q2 := h.few; have q3 := h.roomU; have q4 := h.roomM; simp only [Thing.size] at q1; omega
  have HB := Lib.hid h
  have hh := Lib.hid (HRep.some hb H tvs own h)
  have HP := Lib.hid ey
  have HA := Lib.hid ha
  have HT := Lib.hid (And.intro htv ht)
  obtain ⟨sa, cap, hbc, hbo, hrow⟩ : ∃ sa cap, w.heap[b]? = some (.cells #[.slice sa vals.length cap] 89 (0, 0)) ∧ own b = some (N + 1, 0) ∧ Row w own (N + 1, 1) 34 3 (.slice sa vals.length cap) vals.length (vals.flatMap Val.cells) := by
    have hti := things_at (HRep.some hb H tvs own h) ht htv
    cases hti with
    | arr _ _ av hb' hc' hr' =>
      obtain ⟨sa, cap, rfl, _⟩ := ThingIs.arrow hr'
      exact ⟨sa, cap, hc', hb', hr'⟩
  have HX := Lib.hid (And.intro hbc (And.intro hbo hrow))
  have lb0 := lt_of_heap hbc
  clear h ey ha htv ht hbc hbo hrow
  have I1 : (((w.alloc (.cells #[.int .i64 k, .int .i64 n, .string s] 34)).alloc (.cells #[.int .i64 k2, .int .i64 n2, .string s2] 34)).alloc (.cells #[.int .i64 z.k, .int .i64 z.n, .string z.s] 34)).heap[w.heap.size]? = some (.cells #[.int .i64 k, .int .i64 n, .string s] 34 (0, 0)) := alloc_keep (alloc_keep (alloc_at _ _ _ (by simp)))
  have I2 : (((w.alloc (.cells #[.int .i64 k, .int .i64 n, .string s] 34)).alloc (.cells #[.int .i64 k2, .int .i64 n2, .string s2] 34)).alloc (.cells #[.int .i64 z.k, .int .i64 z.n, .string z.s] 34)).heap[w.heap.size + 1]? = some (.cells #[.int .i64 k2, .int .i64 n2, .string s2] 34 (0, 0)) := alloc_keep (alloc_at _ _ _ (by simp))
  have I3 : (((w.alloc (.cells #[.int .i64 k, .int .i64 n, .string s] 34)).alloc (.cells #[.int .i64 k2, .int .i64 n2, .string s2] 34)).alloc (.cells #[.int .i64 z.k, .int .i64 z.n, .string z.s] 34)).heap[w.heap.size + 1 + 1]? = some (.cells #[.int .i64 z.k, .int .i64 z.n, .string z.s] 34 (0, 0)) := alloc_at _ _ _ (by simp)
  have hb1 : decide (qn ≥ 0) = false := by simp; omega
  have hb2 : (qn != (vals.length : Int)) = true := by simp; omega
  go_enter Tryz.func30, Tryz.ntmps30
  go_wp2_with (first | (go_at_call 35; refine (plain_any (.pointer (some ⟨hb, 0, none⟩)) H tvs own _ _ _ _ (hh.out.up uq)).mono ?_; rintro e w' ⟨rfl, hu⟩; simp only [HP.out]; have s0 := hu.get I1; have B0 := Lib.hid s0; have a0 := cell_of s0 0; have a1 := cell_of s0 1; have a2 := cell_of s0 2; have f0 := ice_of s0 0; have f1 := ice_of s0 1; have f2 := ice_of s0 2; have a4 := lt_of_heap s0; (try simp only [World.size_alloc, List.getElem?_toArray, List.getElem?_cons_zero, List.getElem?_cons_succ] at a0 a1 a2 f0 f1 f2 a4); clear s0; have s0 := hu.get I2; have B1 := Lib.hid s0; have a0 := cell_of s0 0; have a1 := cell_of s0 1; have a2 := cell_of s0 2; have f0 := ice_of s0 0; have f1 := ice_of s0 1; have f2 := ice_of s0 2; have a4 := lt_of_heap s0; (try simp only [World.size_alloc, List.getElem?_toArray, List.getElem?_cons_zero, List.getElem?_cons_succ] at a0 a1 a2 f0 f1 f2 a4); clear s0; have s0 := hu.get I3; have B2 := Lib.hid s0; have a0 := cell_of s0 0; have a1 := cell_of s0 1; have a2 := cell_of s0 2; have f0 := ice_of s0 0; have f1 := ice_of s0 1; have f2 := ice_of s0 2; have a4 := lt_of_heap s0; (try simp only [World.size_alloc, List.getElem?_toArray, List.getElem?_cons_zero, List.getElem?_cons_succ] at a0 a1 a2 f0 f1 f2 a4); clear s0) | (go_at_call 42; refine (array_any (.pointer (some ⟨hb, 0, none⟩)) H tvs own _ _ _ _ (hh.out.up uq)).mono ?_; rintro e w2 ⟨rfl, hu2⟩; rw [HA.out]; have hw2 : Up w w2 := uq; have C0 := Lib.hid (hu2.get (at_skip3 B0.out (by omega))); have C1 := Lib.hid (hu2.get (at_set3 B1.out)); have C2 := Lib.hid (hu2.get (at_skip3 B2.out (by omega))); have s0 := C0.out; have a0 := cell_of s0 0; have a1 := cell_of s0 1; have a2 := cell_of s0 2; have f0 := ice_of s0 0; have f1 := ice_of s0 1; have f2 := ice_of s0 2; have a4 := lt_of_heap s0; (try simp only [World.size_alloc, List.getElem?_toArray, List.getElem?_cons_zero, List.getElem?_cons_succ] at a0 a1 a2 f0 f1 f2 a4); clear s0; have s0 := C1.out; have a0 := cell_of s0 0; have a1 := cell_of s0 1; have a2 := cell_of s0 2; have f0 := ice_of s0 0; have f1 := ice_of s0 1; have f2 := ice_of s0 2; have a4 := lt_of_heap s0; (try simp only [World.size_alloc, List.getElem?_toArray, List.getElem?_cons_zero, List.getElem?_cons_succ] at a0 a1 a2 f0 f1 f2 a4); clear s0; have s0 := C2.out; have a0 := cell_of s0 0; have a1 := cell_of s0 1; have a2 := cell_of s0 2; have f0 := ice_of s0 0; have f1 := ice_of s0 1; have f2 := ice_of s0 2; have a4 := lt_of_heap s0; (try simp only [World.size_alloc, List.getElem?_toArray, List.getElem?_cons_zero, List.getElem?_cons_succ] at a0 a1 a2 f0 f1 f2 a4); clear s0; have c3 := cell_of (hw2.get HX.out.1) 0; simp only [List.getElem?_toArray, List.getElem?_cons_zero] at c3; have i9 := ice_of (hw2.get HX.out.1) 0; have lb2 := lt_of_heap (hw2.get HX.out.1)))
  all_goals (refine bodyPost_eq (by (simp [results, Tryz.results30, go_sem, *]) <;> rfl) rfl rfl ⟨rfl, uq⟩)

set_option maxHeartbeats 1600000 in
theorem Put_hi (hb : Nat) (H : HM) (tvs : List Value) (own : Own) (k n k2 n2 : Int) (s s2 : ByteArray) (z : Val) (w : World) (h : Rep w hb H tvs own) (qn : Int) (qs : ByteArray) (ey : plainS H ⟨k2, n2, s2⟩ = ⟨3, qn, qs⟩) (b : Nat) (N : Nat) (vals : List Val) (htv : tvs[N]? = some (.iface 86 (.pointer (some ⟨b, 0, none⟩)))) (ht : H.things[N]? = some ⟨2, -1, [], vals⟩) (ha : arrOf H tvs k n = .pointer (some ⟨b, 0, none⟩)) (hq : (vals.length : Int) < qn) :
    Calls Tryz.prog 30 #[.pointer (some ⟨hb, 0, none⟩), .agg #[.int .i64 k, .int .i64 n, .string s], .agg #[.int .i64 k2, .int .i64 n2, .string s2], .agg #[.int .i64 (z).k, .int .i64 (z).n, .string (z).s]] w fun e w' => e = .returned (.tuple #[.string noIndexS, .int .i64 1]) ∧ Up w w' := by
  have hlen : vals.length ≤ 1048576 := by
    have q1 := sizes_at _ _ _ ht; have q2 := h.few; have q3 := h.roomU; have q4 := h.roomM; simp only [Thing.size] at q1; omega
  have HB := Lib.hid h
  have hh := Lib.hid (HRep.some hb H tvs own h)
  have HP := Lib.hid ey
  have HA := Lib.hid ha
  have HT := Lib.hid (And.intro htv ht)
  obtain ⟨sa, cap, hbc, hbo, hrow⟩ : ∃ sa cap, w.heap[b]? = some (.cells #[.slice sa vals.length cap] 89 (0, 0)) ∧ own b = some (N + 1, 0) ∧ Row w own (N + 1, 1) 34 3 (.slice sa vals.length cap) vals.length (vals.flatMap Val.cells) := by
    have hti := things_at (HRep.some hb H tvs own h) ht htv
    cases hti with
    | arr _ _ av hb' hc' hr' =>
      obtain ⟨sa, cap, rfl, _⟩ := ThingIs.arrow hr'
      exact ⟨sa, cap, hc', hb', hr'⟩
  have HX := Lib.hid (And.intro hbc (And.intro hbo hrow))
  have lb0 := lt_of_heap hbc
  clear h ey ha htv ht hbc hbo hrow
  have I1 : (((w.alloc (.cells #[.int .i64 k, .int .i64 n, .string s] 34)).alloc (.cells #[.int .i64 k2, .int .i64 n2, .string s2] 34)).alloc (.cells #[.int .i64 z.k, .int .i64 z.n, .string z.s] 34)).heap[w.heap.size]? = some (.cells #[.int .i64 k, .int .i64 n, .string s] 34 (0, 0)) := alloc_keep (alloc_keep (alloc_at _ _ _ (by simp)))
  have I2 : (((w.alloc (.cells #[.int .i64 k, .int .i64 n, .string s] 34)).alloc (.cells #[.int .i64 k2, .int .i64 n2, .string s2] 34)).alloc (.cells #[.int .i64 z.k, .int .i64 z.n, .string z.s] 34)).heap[w.heap.size + 1]? = some (.cells #[.int .i64 k2, .int .i64 n2, .string s2] 34 (0, 0)) := alloc_keep (alloc_at _ _ _ (by simp))
  have I3 : (((w.alloc (.cells #[.int .i64 k, .int .i64 n, .string s] 34)).alloc (.cells #[.int .i64 k2, .int .i64 n2, .string s2] 34)).alloc (.cells #[.int .i64 z.k, .int .i64 z.n, .string z.s] 34)).heap[w.heap.size + 1 + 1]? = some (.cells #[.int .i64 z.k, .int .i64 z.n, .string z.s] 34 (0, 0)) := alloc_at _ _ _ (by simp)
  have hb1 : decide (qn ≥ 0) = true := by simp; omega
  have hb2 : (qn != (vals.length : Int)) = true := by simp; omega
  go_enter Tryz.func30, Tryz.ntmps30
  go_wp2_with (first | (go_at_call 35; refine (plain_any (.pointer (some ⟨hb, 0, none⟩)) H tvs own _ _ _ _ (hh.out.up uq)).mono ?_; rintro e w' ⟨rfl, hu⟩; simp only [HP.out]; have s0 := hu.get I1; have B0 := Lib.hid s0; have a0 := cell_of s0 0; have a1 := cell_of s0 1; have a2 := cell_of s0 2; have f0 := ice_of s0 0; have f1 := ice_of s0 1; have f2 := ice_of s0 2; have a4 := lt_of_heap s0; (try simp only [World.size_alloc, List.getElem?_toArray, List.getElem?_cons_zero, List.getElem?_cons_succ] at a0 a1 a2 f0 f1 f2 a4); clear s0; have s0 := hu.get I2; have B1 := Lib.hid s0; have a0 := cell_of s0 0; have a1 := cell_of s0 1; have a2 := cell_of s0 2; have f0 := ice_of s0 0; have f1 := ice_of s0 1; have f2 := ice_of s0 2; have a4 := lt_of_heap s0; (try simp only [World.size_alloc, List.getElem?_toArray, List.getElem?_cons_zero, List.getElem?_cons_succ] at a0 a1 a2 f0 f1 f2 a4); clear s0; have s0 := hu.get I3; have B2 := Lib.hid s0; have a0 := cell_of s0 0; have a1 := cell_of s0 1; have a2 := cell_of s0 2; have f0 := ice_of s0 0; have f1 := ice_of s0 1; have f2 := ice_of s0 2; have a4 := lt_of_heap s0; (try simp only [World.size_alloc, List.getElem?_toArray, List.getElem?_cons_zero, List.getElem?_cons_succ] at a0 a1 a2 f0 f1 f2 a4); clear s0) | (go_at_call 42; refine (array_any (.pointer (some ⟨hb, 0, none⟩)) H tvs own _ _ _ _ (hh.out.up uq)).mono ?_; rintro e w2 ⟨rfl, hu2⟩; rw [HA.out]; have hw2 : Up w w2 := uq; have C0 := Lib.hid (hu2.get (at_skip3 B0.out (by omega))); have C1 := Lib.hid (hu2.get (at_set3 B1.out)); have C2 := Lib.hid (hu2.get (at_skip3 B2.out (by omega))); have s0 := C0.out; have a0 := cell_of s0 0; have a1 := cell_of s0 1; have a2 := cell_of s0 2; have f0 := ice_of s0 0; have f1 := ice_of s0 1; have f2 := ice_of s0 2; have a4 := lt_of_heap s0; (try simp only [World.size_alloc, List.getElem?_toArray, List.getElem?_cons_zero, List.getElem?_cons_succ] at a0 a1 a2 f0 f1 f2 a4); clear s0; have s0 := C1.out; have a0 := cell_of s0 0; have a1 := cell_of s0 1; have a2 := cell_of s0 2; have f0 := ice_of s0 0; have f1 := ice_of s0 1; have f2 := ice_of s0 2; have a4 := lt_of_heap s0; (try simp only [World.size_alloc, List.getElem?_toArray, List.getElem?_cons_zero, List.getElem?_cons_succ] at a0 a1 a2 f0 f1 f2 a4); clear s0; have s0 := C2.out; have a0 := cell_of s0 0; have a1 := cell_of s0 1; have a2 := cell_of s0 2; have f0 := ice_of s0 0; have f1 := ice_of s0 1; have f2 := ice_of s0 2; have a4 := lt_of_heap s0; (try simp only [World.size_alloc, List.getElem?_toArray, List.getElem?_cons_zero, List.getElem?_cons_succ] at a0 a1 a2 f0 f1 f2 a4); clear s0; have c3 := cell_of (hw2.get HX.out.1) 0; simp only [List.getElem?_toArray, List.getElem?_cons_zero] at c3; have i9 := ice_of (hw2.get HX.out.1) 0; have lb2 := lt_of_heap (hw2.get HX.out.1)))
  all_goals (refine bodyPost_eq (by (simp [results, Tryz.results30, go_sem, *]) <;> rfl) rfl rfl ⟨rfl, uq⟩)

set_option maxHeartbeats 1600000 in
theorem Put_full (hb : Nat) (H : HM) (tvs : List Value) (own : Own) (k n k2 n2 : Int) (s s2 : ByteArray) (z : Val) (w : World) (h : Rep w hb H tvs own) (qs : ByteArray) (N : Nat) (vals : List Val) (ey : plainS H ⟨k2, n2, s2⟩ = ⟨3, (vals.length : Int), qs⟩) (b : Nat) (htv : tvs[N]? = some (.iface 86 (.pointer (some ⟨b, 0, none⟩)))) (ht : H.things[N]? = some ⟨2, -1, [], vals⟩) (ha : arrOf H tvs k n = .pointer (some ⟨b, 0, none⟩)) (hf : H.room ≤ H.used) :
    Calls Tryz.prog 30 #[.pointer (some ⟨hb, 0, none⟩), .agg #[.int .i64 k, .int .i64 n, .string s], .agg #[.int .i64 k2, .int .i64 n2, .string s2], .agg #[.int .i64 (z).k, .int .i64 (z).n, .string (z).s]] w fun e w' => e = .returned (.tuple #[.string ⟨#[]⟩, .int .i64 3]) ∧ Up w w' := by
  have hlen : vals.length ≤ 1048576 := by
    have q1 := sizes_at _ _ _ ht; have q2 := h.few; have q3 := h.roomU; have q4 := h.roomM; simp only [Thing.size] at q1; omega
  have HB := Lib.hid h
  have hh := Lib.hid (HRep.some hb H tvs own h)
  have HP := Lib.hid ey
  have HA := Lib.hid ha
  have HT := Lib.hid (And.intro htv ht)
  obtain ⟨sa, cap, hbc, hbo, hrow⟩ : ∃ sa cap, w.heap[b]? = some (.cells #[.slice sa vals.length cap] 89 (0, 0)) ∧ own b = some (N + 1, 0) ∧ Row w own (N + 1, 1) 34 3 (.slice sa vals.length cap) vals.length (vals.flatMap Val.cells) := by
    have hti := things_at (HRep.some hb H tvs own h) ht htv
    cases hti with
    | arr _ _ av hb' hc' hr' =>
      obtain ⟨sa, cap, rfl, _⟩ := ThingIs.arrow hr'
      exact ⟨sa, cap, hc', hb', hr'⟩
  have HX := Lib.hid (And.intro hbc (And.intro hbo hrow))
  have lb0 := lt_of_heap hbc
  clear h ey ha htv ht hbc hbo hrow
  have I1 : (((w.alloc (.cells #[.int .i64 k, .int .i64 n, .string s] 34)).alloc (.cells #[.int .i64 k2, .int .i64 n2, .string s2] 34)).alloc (.cells #[.int .i64 z.k, .int .i64 z.n, .string z.s] 34)).heap[w.heap.size]? = some (.cells #[.int .i64 k, .int .i64 n, .string s] 34 (0, 0)) := alloc_keep (alloc_keep (alloc_at _ _ _ (by simp)))
  have I2 : (((w.alloc (.cells #[.int .i64 k, .int .i64 n, .string s] 34)).alloc (.cells #[.int .i64 k2, .int .i64 n2, .string s2] 34)).alloc (.cells #[.int .i64 z.k, .int .i64 z.n, .string z.s] 34)).heap[w.heap.size + 1]? = some (.cells #[.int .i64 k2, .int .i64 n2, .string s2] 34 (0, 0)) := alloc_keep (alloc_at _ _ _ (by simp))
  have I3 : (((w.alloc (.cells #[.int .i64 k, .int .i64 n, .string s] 34)).alloc (.cells #[.int .i64 k2, .int .i64 n2, .string s2] 34)).alloc (.cells #[.int .i64 z.k, .int .i64 z.n, .string z.s] 34)).heap[w.heap.size + 1 + 1]? = some (.cells #[.int .i64 z.k, .int .i64 z.n, .string z.s] 34 (0, 0)) := alloc_at _ _ _ (by simp)
  go_enter Tryz.func30, Tryz.ntmps30
  go_wp2_with (first | (go_at_call 35; refine (plain_any (.pointer (some ⟨hb, 0, none⟩)) H tvs own _ _ _ _ (hh.out.up uq)).mono ?_; rintro e w' ⟨rfl, hu⟩; simp only [HP.out]; have s0 := hu.get I1; have B0 := Lib.hid s0; have a0 := cell_of s0 0; have a1 := cell_of s0 1; have a2 := cell_of s0 2; have f0 := ice_of s0 0; have f1 := ice_of s0 1; have f2 := ice_of s0 2; have a4 := lt_of_heap s0; (try simp only [World.size_alloc, List.getElem?_toArray, List.getElem?_cons_zero, List.getElem?_cons_succ] at a0 a1 a2 f0 f1 f2 a4); clear s0; have s0 := hu.get I2; have B1 := Lib.hid s0; have a0 := cell_of s0 0; have a1 := cell_of s0 1; have a2 := cell_of s0 2; have f0 := ice_of s0 0; have f1 := ice_of s0 1; have f2 := ice_of s0 2; have a4 := lt_of_heap s0; (try simp only [World.size_alloc, List.getElem?_toArray, List.getElem?_cons_zero, List.getElem?_cons_succ] at a0 a1 a2 f0 f1 f2 a4); clear s0; have s0 := hu.get I3; have B2 := Lib.hid s0; have a0 := cell_of s0 0; have a1 := cell_of s0 1; have a2 := cell_of s0 2; have f0 := ice_of s0 0; have f1 := ice_of s0 1; have f2 := ice_of s0 2; have a4 := lt_of_heap s0; (try simp only [World.size_alloc, List.getElem?_toArray, List.getElem?_cons_zero, List.getElem?_cons_succ] at a0 a1 a2 f0 f1 f2 a4); clear s0) | (go_at_call 42; refine (array_any (.pointer (some ⟨hb, 0, none⟩)) H tvs own _ _ _ _ (hh.out.up uq)).mono ?_; rintro e w2 ⟨rfl, hu2⟩; rw [HA.out]; have hw2 : Up w w2 := uq; have C0 := Lib.hid (hu2.get (at_skip3 B0.out (by omega))); have C1 := Lib.hid (hu2.get (at_set3 B1.out)); have C2 := Lib.hid (hu2.get (at_skip3 B2.out (by omega))); have s0 := C0.out; have a0 := cell_of s0 0; have a1 := cell_of s0 1; have a2 := cell_of s0 2; have f0 := ice_of s0 0; have f1 := ice_of s0 1; have f2 := ice_of s0 2; have a4 := lt_of_heap s0; (try simp only [World.size_alloc, List.getElem?_toArray, List.getElem?_cons_zero, List.getElem?_cons_succ] at a0 a1 a2 f0 f1 f2 a4); clear s0; have s0 := C1.out; have a0 := cell_of s0 0; have a1 := cell_of s0 1; have a2 := cell_of s0 2; have f0 := ice_of s0 0; have f1 := ice_of s0 1; have f2 := ice_of s0 2; have a4 := lt_of_heap s0; (try simp only [World.size_alloc, List.getElem?_toArray, List.getElem?_cons_zero, List.getElem?_cons_succ] at a0 a1 a2 f0 f1 f2 a4); clear s0; have s0 := C2.out; have a0 := cell_of s0 0; have a1 := cell_of s0 1; have a2 := cell_of s0 2; have f0 := ice_of s0 0; have f1 := ice_of s0 1; have f2 := ice_of s0 2; have a4 := lt_of_heap s0; (try simp only [World.size_alloc, List.getElem?_toArray, List.getElem?_cons_zero, List.getElem?_cons_succ] at a0 a1 a2 f0 f1 f2 a4); clear s0; have c3 := cell_of (hw2.get HX.out.1) 0; simp only [List.getElem?_toArray, List.getElem?_cons_zero] at c3; have i9 := ice_of (hw2.get HX.out.1) 0; have lb2 := lt_of_heap (hw2.get HX.out.1)) | (go_at_call 43; refine (takes_full _ H tvs own _ (hh.out.up uq) hf).mono ?_; rintro e w3 ⟨rfl, hu3⟩))
  all_goals (refine bodyPost_eq (by (simp [results, Tryz.results30, go_sem, *]) <;> rfl) rfl rfl ⟨rfl, uq⟩)

set_option maxRecDepth 100000 in
set_option maxHeartbeats 4000000 in
theorem Put_in (hb : Nat) (H : HM) (tvs : List Value) (own : Own) (k n k2 n2 : Int) (s s2 : ByteArray) (z : Val) (w : World) (h : Rep w hb H tvs own) (qs : ByteArray) (J : Nat) (y : Val) (ey : plainS H ⟨k2, n2, s2⟩ = ⟨3, (J : Int), qs⟩) (b : Nat) (N : Nat) (vals : List Val) (htv : tvs[N]? = some (.iface 86 (.pointer (some ⟨b, 0, none⟩)))) (ht : H.things[N]? = some ⟨2, -1, [], vals⟩) (ha : arrOf H tvs k n = .pointer (some ⟨b, 0, none⟩)) (hy : vals[J]? = some y) :
    Calls Tryz.prog 30 #[.pointer (some ⟨hb, 0, none⟩), .agg #[.int .i64 k, .int .i64 n, .string s], .agg #[.int .i64 k2, .int .i64 n2, .string s2], .agg #[.int .i64 (z).k, .int .i64 (z).n, .string (z).s]] w (Wrote hb ⟨H.room, H.used, H.things.set N ⟨2, -1, [], vals.set J (plainS H z)⟩⟩ own w (.tuple #[.string ⟨#[]⟩, .int .i64 0])) := by
  have HJ := Lib.hid hy
  clear hy
  have hlen : vals.length ≤ 1048576 := by
    have q1 := sizes_at _ _ _ ht; have q2 := h.few; have q3 := h.roomU; have q4 := h.roomM; simp only [Thing.size] at q1; omega
  have HB := Lib.hid h
  have hh := Lib.hid (HRep.some hb H tvs own h)
  have HP := Lib.hid ey
  have HA := Lib.hid ha
  have HT := Lib.hid (And.intro htv ht)
  obtain ⟨sa, cap, hbc, hbo, hrow⟩ : ∃ sa cap, w.heap[b]? = some (.cells #[.slice sa vals.length cap] 89 (0, 0)) ∧ own b = some (N + 1, 0) ∧ Row w own (N + 1, 1) 34 3 (.slice sa vals.length cap) vals.length (vals.flatMap Val.cells) := by
    have hti := things_at (HRep.some hb H tvs own h) ht htv
    cases hti with
    | arr _ _ av hb' hc' hr' =>
      obtain ⟨sa, cap, rfl, _⟩ := ThingIs.arrow hr'
      exact ⟨sa, cap, hc', hb', hr'⟩
  have HX := Lib.hid (And.intro hbc (And.intro hbo hrow))
  have lb0 := lt_of_heap hbc
  clear h ey ha htv ht hbc hbo hrow
  have I1 : (((w.alloc (.cells #[.int .i64 k, .int .i64 n, .string s] 34)).alloc (.cells #[.int .i64 k2, .int .i64 n2, .string s2] 34)).alloc (.cells #[.int .i64 z.k, .int .i64 z.n, .string z.s] 34)).heap[w.heap.size]? = some (.cells #[.int .i64 k, .int .i64 n, .string s] 34 (0, 0)) := alloc_keep (alloc_keep (alloc_at _ _ _ (by simp)))
  have I2 : (((w.alloc (.cells #[.int .i64 k, .int .i64 n, .string s] 34)).alloc (.cells #[.int .i64 k2, .int .i64 n2, .string s2] 34)).alloc (.cells #[.int .i64 z.k, .int .i64 z.n, .string z.s] 34)).heap[w.heap.size + 1]? = some (.cells #[.int .i64 k2, .int .i64 n2, .string s2] 34 (0, 0)) := alloc_keep (alloc_at _ _ _ (by simp))
  have I3 : (((w.alloc (.cells #[.int .i64 k, .int .i64 n, .string s] 34)).alloc (.cells #[.int .i64 k2, .int .i64 n2, .string s2] 34)).alloc (.cells #[.int .i64 z.k, .int .i64 z.n, .string z.s] 34)).heap[w.heap.size + 1 + 1]? = some (.cells #[.int .i64 z.k, .int .i64 z.n, .string z.s] 34 (0, 0)) := alloc_at _ _ _ (by simp)
  have hJ : (J : Int) < vals.length := by have := (List.getElem?_eq_some_iff.1 HJ.out).1; omega
  go_enter Tryz.func30, Tryz.ntmps30
  go_wp2_with (first | (go_at_call 35; refine (plain_any (.pointer (some ⟨hb, 0, none⟩)) H tvs own _ _ _ _ (hh.out.up uq)).mono ?_; rintro e w' ⟨rfl, hu⟩; simp only [HP.out]; have s0 := hu.get I1; have B0 := Lib.hid s0; have a0 := cell_of s0 0; have a1 := cell_of s0 1; have a2 := cell_of s0 2; have f0 := ice_of s0 0; have f1 := ice_of s0 1; have f2 := ice_of s0 2; have a4 := lt_of_heap s0; (try simp only [World.size_alloc, List.getElem?_toArray, List.getElem?_cons_zero, List.getElem?_cons_succ] at a0 a1 a2 f0 f1 f2 a4); clear s0; have s0 := hu.get I2; have B1 := Lib.hid s0; have a0 := cell_of s0 0; have a1 := cell_of s0 1; have a2 := cell_of s0 2; have f0 := ice_of s0 0; have f1 := ice_of s0 1; have f2 := ice_of s0 2; have a4 := lt_of_heap s0; (try simp only [World.size_alloc, List.getElem?_toArray, List.getElem?_cons_zero, List.getElem?_cons_succ] at a0 a1 a2 f0 f1 f2 a4); clear s0; have s0 := hu.get I3; have B2 := Lib.hid s0; have a0 := cell_of s0 0; have a1 := cell_of s0 1; have a2 := cell_of s0 2; have f0 := ice_of s0 0; have f1 := ice_of s0 1; have f2 := ice_of s0 2; have a4 := lt_of_heap s0; (try simp only [World.size_alloc, List.getElem?_toArray, List.getElem?_cons_zero, List.getElem?_cons_succ] at a0 a1 a2 f0 f1 f2 a4); clear s0) | (go_at_call 42; refine (array_any (.pointer (some ⟨hb, 0, none⟩)) H tvs own _ _ _ _ (hh.out.up uq)).mono ?_; rintro e w2 ⟨rfl, hu2⟩; rw [HA.out]; have hw2 : Up w w2 := uq; have C0 := Lib.hid (hu2.get (at_skip3 B0.out (by omega))); have C1 := Lib.hid (hu2.get (at_set3 B1.out)); have C2 := Lib.hid (hu2.get (at_skip3 B2.out (by omega))); have s0 := C0.out; have a0 := cell_of s0 0; have a1 := cell_of s0 1; have a2 := cell_of s0 2; have f0 := ice_of s0 0; have f1 := ice_of s0 1; have f2 := ice_of s0 2; have a4 := lt_of_heap s0; (try simp only [World.size_alloc, List.getElem?_toArray, List.getElem?_cons_zero, List.getElem?_cons_succ] at a0 a1 a2 f0 f1 f2 a4); clear s0; have s0 := C1.out; have a0 := cell_of s0 0; have a1 := cell_of s0 1; have a2 := cell_of s0 2; have f0 := ice_of s0 0; have f1 := ice_of s0 1; have f2 := ice_of s0 2; have a4 := lt_of_heap s0; (try simp only [World.size_alloc, List.getElem?_toArray, List.getElem?_cons_zero, List.getElem?_cons_succ] at a0 a1 a2 f0 f1 f2 a4); clear s0; have s0 := C2.out; have a0 := cell_of s0 0; have a1 := cell_of s0 1; have a2 := cell_of s0 2; have f0 := ice_of s0 0; have f1 := ice_of s0 1; have f2 := ice_of s0 2; have a4 := lt_of_heap s0; (try simp only [World.size_alloc, List.getElem?_toArray, List.getElem?_cons_zero, List.getElem?_cons_succ] at a0 a1 a2 f0 f1 f2 a4); clear s0; have c3 := cell_of (hw2.get HX.out.1) 0; simp only [List.getElem?_toArray, List.getElem?_cons_zero] at c3; have i9 := ice_of (hw2.get HX.out.1) 0; have lb2 := lt_of_heap (hw2.get HX.out.1)))
  have e := fun q hq => flat_get Val.cells 3 (fun _ => rfl) vals J _ q HJ.out hq
  have hrow := HX.out.2.2.up hw2
  obtain ⟨sg, rfl, d1⟩ := row_at hrow (J * 3 + 0) _ (e 0 (by omega))
  obtain ⟨_, hg, d2⟩ := row_at hrow (J * 3 + 1) _ (e 1 (by omega)); cases hg
  obtain ⟨_, hg, d3⟩ := row_at hrow (J * 3 + 2) _ (e 2 (by omega)); cases hg
  rw [Nat.add_zero] at d1
  obtain ⟨scur, hscur⟩ := hrow.block
  have hsgo : own sg = some (N + 1, 1) := hrow.2 sg rfl
  have lsg := lt_of_heap hscur
  have lsg0 := HB.out.lt _ _ hsgo
  have hbs : b ≠ sg := fun e => by have h9 := HX.out.2.1; rw [e, hsgo] at h9; cases h9
  have HD := Lib.hid (And.intro d1 (And.intro d2 (And.intro d3 (And.intro hscur hrow))))
  clear e hrow hscur d1 d2 d3
  go_region_held3 (fun W => W.cell? ⟨b, 0, none⟩ = some (.slice (some ⟨sg, 0, none⟩) vals.length cap) ∧ W.cell? ⟨w.heap.size + 1 + 1, 0, none⟩ = some (.int .i64 z.k) ∧ W.cell? ⟨w.heap.size + 1 + 1, 1, none⟩ = some (.int .i64 z.n) ∧ W.cell? ⟨w.heap.size + 1 + 1, 2, none⟩ = some (.string z.s)) (((try dsimp only); (repeat' apply And.intro); all_goals (first | go_keep | ((simp (disch := omega) only [cell_set_ne']); assumption)))) (first | (go_at_call 35; refine (plain_any (.pointer (some ⟨hb, 0, none⟩)) H tvs own _ _ _ _ (hh.out.up uq)).mono ?_; rintro e w4 ⟨rfl, hu4⟩; have hw4 : Up w2 w4 := uq; have s0 := hw4.get C2.out; have a0 := cell_of s0 0; have a1 := cell_of s0 1; have a2 := cell_of s0 2; have f0 := ice_of s0 0; have f1 := ice_of s0 1; have f2 := ice_of s0 2; have a4 := lt_of_heap s0; (try simp only [World.size_alloc, List.getElem?_toArray, List.getElem?_cons_zero, List.getElem?_cons_succ] at a0 a1 a2 f0 f1 f2 a4); clear s0; have c3 := cell_of (hw4.get (hw2.get HX.out.1)) 0; simp only [List.getElem?_toArray, List.getElem?_cons_zero] at c3; have d1 := (hw4.cells sg (J * 3) lsg).trans HD.out.1; have d2 := (hw4.cells sg (J * 3 + 1) lsg).trans HD.out.2.1; have d3 := (hw4.cells sg (J * 3 + 2) lsg).trans HD.out.2.2.1; have i1 := ice_of (hw4.get HD.out.2.2.2.1) (J * 3); have i2 := ice_of (hw4.get HD.out.2.2.2.1) (J * 3 + 1); have i3 := ice_of (hw4.get HD.out.2.2.2.1) (J * 3 + 2)))
  all_goals
    go_wp2_with fail
    refine bodyPost_eq (by (simp [results, Tryz.results30, go_sem, *]) <;> rfl) rfl rfl ?_
    obtain ⟨q1, q2⟩ := Rep.valPut (HB.out.up (hw2.trans hw4)) HT.out.2 HT.out.1 ((hw2.trans hw4).get HX.out.1) HX.out.2.1 (HX.out.2.2.up (hw2.trans hw4)) (j := J) (y := y) HJ.out (plainS H z)
    exact ⟨rfl, tvs, own, q1, ((hw2.trans hw4).mut own).trans q2⟩

end Go.Proofs.YtmbipadiaggolaaGreatDoor

/- Walks: the program's Put in general: an array grows. -/
namespace Go.Proofs.YtmbipadiaggolaaGreatDoor
open Go.RowKit
set_option linter.unusedSimpArgs false
attribute [local go_sem] ta_aa ta_ao ta_an ta_oa ta_oo ta_on m_kind_a m_kind_o m_behind_a m_behind_o m_own_a m_own_o

set_option maxRecDepth 100000 in
set_option maxHeartbeats 8000000 in
theorem Put_more (hb : Nat) (H : HM) (tvs : List Value) (own : Own) (k n k2 n2 : Int) (s s2 : ByteArray) (z : Val) (w : World) (h : Rep w hb H tvs own) (qs : ByteArray) (N : Nat) (vals : List Val) (ey : plainS H ⟨k2, n2, s2⟩ = ⟨3, (vals.length : Int), qs⟩) (b : Nat) (htv : tvs[N]? = some (.iface 86 (.pointer (some ⟨b, 0, none⟩)))) (ht : H.things[N]? = some ⟨2, -1, [], vals⟩) (ha : arrOf H tvs k n = .pointer (some ⟨b, 0, none⟩)) (hf : H.used < H.room) :
    Calls Tryz.prog 30 #[.pointer (some ⟨hb, 0, none⟩), .agg #[.int .i64 k, .int .i64 n, .string s], .agg #[.int .i64 k2, .int .i64 n2, .string s2], .agg #[.int .i64 (z).k, .int .i64 (z).n, .string (z).s]] w (Wrote hb (H.pushAt N vals z) own w (.tuple #[.string ⟨#[]⟩, .int .i64 0])) := by
  obtain ⟨i0, hi, y0, y1, y2⟩ := info_parts val_info
  have hlen : vals.length ≤ 1048576 := by
    have q1 := sizes_at _ _ _ ht; have q2 := h.few; have q3 := h.roomU; have q4 := h.roomM; simp only [Thing.size] at q1; omega
  have HB := Lib.hid h
  have hh := Lib.hid (HRep.some hb H tvs own h)
  have HP := Lib.hid ey
  have HA := Lib.hid ha
  have HT := Lib.hid (And.intro htv ht)
  obtain ⟨sa, cap, hbc, hbo, hrow⟩ : ∃ sa cap, w.heap[b]? = some (.cells #[.slice sa vals.length cap] 89 (0, 0)) ∧ own b = some (N + 1, 0) ∧ Row w own (N + 1, 1) 34 3 (.slice sa vals.length cap) vals.length (vals.flatMap Val.cells) := by
    have hti := things_at (HRep.some hb H tvs own h) ht htv
    cases hti with
    | arr _ _ av hb' hc' hr' =>
      obtain ⟨sa, cap, rfl, _⟩ := ThingIs.arrow hr'
      exact ⟨sa, cap, hc', hb', hr'⟩
  have HX := Lib.hid (And.intro hbc (And.intro hbo hrow))
  have lb0 := lt_of_heap hbc
  clear h ey ha htv ht hbc hbo hrow
  have I1 : (((w.alloc (.cells #[.int .i64 k, .int .i64 n, .string s] 34)).alloc (.cells #[.int .i64 k2, .int .i64 n2, .string s2] 34)).alloc (.cells #[.int .i64 z.k, .int .i64 z.n, .string z.s] 34)).heap[w.heap.size]? = some (.cells #[.int .i64 k, .int .i64 n, .string s] 34 (0, 0)) := alloc_keep (alloc_keep (alloc_at _ _ _ (by simp)))
  have I2 : (((w.alloc (.cells #[.int .i64 k, .int .i64 n, .string s] 34)).alloc (.cells #[.int .i64 k2, .int .i64 n2, .string s2] 34)).alloc (.cells #[.int .i64 z.k, .int .i64 z.n, .string z.s] 34)).heap[w.heap.size + 1]? = some (.cells #[.int .i64 k2, .int .i64 n2, .string s2] 34 (0, 0)) := alloc_keep (alloc_at _ _ _ (by simp))
  have I3 : (((w.alloc (.cells #[.int .i64 k, .int .i64 n, .string s] 34)).alloc (.cells #[.int .i64 k2, .int .i64 n2, .string s2] 34)).alloc (.cells #[.int .i64 z.k, .int .i64 z.n, .string z.s] 34)).heap[w.heap.size + 1 + 1]? = some (.cells #[.int .i64 z.k, .int .i64 z.n, .string z.s] 34 (0, 0)) := alloc_at _ _ _ (by simp)
  have HF := Lib.hid hf
  go_enter Tryz.func30, Tryz.ntmps30
  go_wp2_with (first | (go_at_call 35; refine (plain_any (.pointer (some ⟨hb, 0, none⟩)) H tvs own _ _ _ _ (hh.out.up uq)).mono ?_; rintro e w' ⟨rfl, hu⟩; simp only [HP.out]; have s0 := hu.get I1; have B0 := Lib.hid s0; have a0 := cell_of s0 0; have a1 := cell_of s0 1; have a2 := cell_of s0 2; have f0 := ice_of s0 0; have f1 := ice_of s0 1; have f2 := ice_of s0 2; have a4 := lt_of_heap s0; (try simp only [World.size_alloc, List.getElem?_toArray, List.getElem?_cons_zero, List.getElem?_cons_succ] at a0 a1 a2 f0 f1 f2 a4); clear s0; have s0 := hu.get I2; have B1 := Lib.hid s0; have a0 := cell_of s0 0; have a1 := cell_of s0 1; have a2 := cell_of s0 2; have f0 := ice_of s0 0; have f1 := ice_of s0 1; have f2 := ice_of s0 2; have a4 := lt_of_heap s0; (try simp only [World.size_alloc, List.getElem?_toArray, List.getElem?_cons_zero, List.getElem?_cons_succ] at a0 a1 a2 f0 f1 f2 a4); clear s0; have s0 := hu.get I3; have B2 := Lib.hid s0; have a0 := cell_of s0 0; have a1 := cell_of s0 1; have a2 := cell_of s0 2; have f0 := ice_of s0 0; have f1 := ice_of s0 1; have f2 := ice_of s0 2; have a4 := lt_of_heap s0; (try simp only [World.size_alloc, List.getElem?_toArray, List.getElem?_cons_zero, List.getElem?_cons_succ] at a0 a1 a2 f0 f1 f2 a4); clear s0) | (go_at_call 42; refine (array_any (.pointer (some ⟨hb, 0, none⟩)) H tvs own _ _ _ _ (hh.out.up uq)).mono ?_; rintro e w2 ⟨rfl, hu2⟩; rw [HA.out]; have hw2 : Up w w2 := uq; have C0 := Lib.hid (hu2.get (at_skip3 B0.out (by omega))); have C1 := Lib.hid (hu2.get (at_set3 B1.out)); have C2 := Lib.hid (hu2.get (at_skip3 B2.out (by omega))); have s0 := C0.out; have a0 := cell_of s0 0; have a1 := cell_of s0 1; have a2 := cell_of s0 2; have f0 := ice_of s0 0; have f1 := ice_of s0 1; have f2 := ice_of s0 2; have a4 := lt_of_heap s0; (try simp only [World.size_alloc, List.getElem?_toArray, List.getElem?_cons_zero, List.getElem?_cons_succ] at a0 a1 a2 f0 f1 f2 a4); clear s0; have s0 := C1.out; have a0 := cell_of s0 0; have a1 := cell_of s0 1; have a2 := cell_of s0 2; have f0 := ice_of s0 0; have f1 := ice_of s0 1; have f2 := ice_of s0 2; have a4 := lt_of_heap s0; (try simp only [World.size_alloc, List.getElem?_toArray, List.getElem?_cons_zero, List.getElem?_cons_succ] at a0 a1 a2 f0 f1 f2 a4); clear s0; have s0 := C2.out; have a0 := cell_of s0 0; have a1 := cell_of s0 1; have a2 := cell_of s0 2; have f0 := ice_of s0 0; have f1 := ice_of s0 1; have f2 := ice_of s0 2; have a4 := lt_of_heap s0; (try simp only [World.size_alloc, List.getElem?_toArray, List.getElem?_cons_zero, List.getElem?_cons_succ] at a0 a1 a2 f0 f1 f2 a4); clear s0; have c3 := cell_of (hw2.get HX.out.1) 0; simp only [List.getElem?_toArray, List.getElem?_cons_zero] at c3; have i9 := ice_of (hw2.get HX.out.1) 0; have lb2 := lt_of_heap (hw2.get HX.out.1)))
  refine (takes_ok hb H tvs own _ (HB.out.up hw2) HF.out).mono ?_
  rintro e w5 ⟨rfl, hR, hM⟩
  have hMw : Mut own own w w5 := Mut.after hw2 hM
  have HV := Lib.hid (hM.get C2.out (by
    cases ho : own (w.heap.size + 1 + 1) with
    | none => rfl
    | some m => have := HB.out.lt _ _ ho; omega))
  have hti := things_at (HRep.some hb ⟨H.room, H.used + 1, H.things⟩ tvs own hR) HT.out.2 HT.out.1
  obtain ⟨sb, cap2, hbc, hbo, hrow⟩ : ∃ sa cap, w5.heap[b]? = some (.cells #[.slice sa vals.length cap] 89 (0, 0)) ∧ own b = some (N + 1, 0) ∧ Row w5 own (N + 1, 1) 34 3 (.slice sa vals.length cap) vals.length (vals.flatMap Val.cells) := by
    cases hti with
    | arr _ _ av hb' hc' hr' =>
      obtain ⟨sa, cap, rfl, _⟩ := ThingIs.arrow hr'
      exact ⟨sa, cap, hc', hb', hr'⟩
  have s0 := HV.out
  have a0 := cell_of s0 0; have a1 := cell_of s0 1; have a2 := cell_of s0 2; have f0 := ice_of s0 0; have f1 := ice_of s0 1; have f2 := ice_of s0 2; have a4 := lt_of_heap s0; (try simp only [World.size_alloc, List.getElem?_toArray, List.getElem?_cons_zero, List.getElem?_cons_succ] at a0 a1 a2 f0 f1 f2 a4); clear s0
  have HG0 := Lib.hid (And.intro hbc (And.intro hbo hrow))
  have c9 := cell_of hbc 0
  simp only [List.getElem?_toArray, List.getElem?_cons_zero] at c9
  have j9 := ice_of hbc 0
  have lb9 := lt_of_heap hbc
  clear hbc hbo hrow hti
  go_wp2_with fail
  go_region_law
    (first | (go_simp; go_at_call 35; refine (plain_any _ ⟨H.room, H.used + 1, H.things⟩ tvs own _ _ _ _ (.some hb _ _ _ (hR.up uq))).mono ?_; rintro e w3 ⟨rfl, hu3⟩; have s0 := hu3.get (Up.get uq HV.out); have a0 := cell_of s0 0; have a1 := cell_of s0 1; have a2 := cell_of s0 2; have f0 := ice_of s0 0; have f1 := ice_of s0 1; have f2 := ice_of s0 2; have a4 := lt_of_heap s0; (try simp only [World.size_alloc, List.getElem?_toArray, List.getElem?_cons_zero, List.getElem?_cons_succ] at a0 a1 a2 f0 f1 f2 a4); clear s0; have s0 := hu3.get (Up.get uq HG0.out.1); have a0 := cell_of s0 0; have a1 := cell_of s0 1; have a2 := cell_of s0 2; have f0 := ice_of s0 0; have f1 := ice_of s0 1; have f2 := ice_of s0 2; have a4 := lt_of_heap s0; (try simp only [World.size_alloc, List.getElem?_toArray, List.getElem?_cons_zero, List.getElem?_cons_succ] at a0 a1 a2 f0 f1 f2 a4); clear s0) | (refine step_append_new rfl _ _ 83 rfl 34 i0 (.agg #[.int .i64 0, .int .i64 0, .string ⟨#[]⟩]) 3 32 Tryz.underlying83 hi y0 y1 y2 rfl (by decide) (.slice sb vals.length cap2) vals.length (vals.flatMap Val.cells) rfl (HG0.out.2.2.up uq).1 _ 1 1 rfl ?_ rfl ?_ ?_ ?_ ?_; rfl; (simp [Value.oneCell']); (unfold maxLen; omega); omega; intro sa' cap' w4 hown' hgrow hblk; have s0 := grown_get hgrow (Up.get uq HG0.out.1) (fun e => by have h9 := HG0.out.2.2.2 b e; rw [HG0.out.2.1] at h9; cases h9); have a0 := cell_of s0 0; have a1 := cell_of s0 1; have a2 := cell_of s0 2; have f0 := ice_of s0 0; have f1 := ice_of s0 1; have f2 := ice_of s0 2; have a4 := lt_of_heap s0; (try simp only [World.size_alloc, List.getElem?_toArray, List.getElem?_cons_zero, List.getElem?_cons_succ] at a0 a1 a2 f0 f1 f2 a4); clear s0; have s0 := grown_get hgrow (Up.get (w := w5) uq HV.out) (fun e => by have h9 := hR.lt _ _ (HG0.out.2.2.2 _ e); have h8 := HG0.out.2.2.2 _ e; have h7 := HB.out.lt _ _ h8; omega); have a0 := cell_of s0 0; have a1 := cell_of s0 1; have a2 := cell_of s0 2; have f0 := ice_of s0 0; have f1 := ice_of s0 1; have f2 := ice_of s0 2; have a4 := lt_of_heap s0; (try simp only [World.size_alloc, List.getElem?_toArray, List.getElem?_cons_zero, List.getElem?_cons_succ] at a0 a1 a2 f0 f1 f2 a4); clear s0))
  all_goals
    have HG := Lib.hid (And.intro hown' (And.intro hgrow hblk))
    clear hown' hgrow hblk
    go_wp2_with fail
    refine bodyPost_eq (by (simp [results, Tryz.results30, go_sem, *]) <;> rfl) rfl rfl ?_
    obtain ⟨hown', hgrow, hblk⟩ := HG.out
    obtain ⟨own', h1, h2⟩ := push_turned (x := plainS H z) (hR.up uq) HT.out.2 HT.out.1 (Up.get uq HG0.out.1) HG0.out.2.1 (HG0.out.2.2.up uq) hown' hgrow (by simpa only [World.size_alloc] using hblk) (by
      have q1 := sizes_set H.things N _ ⟨2, -1, [], vals ++ [plainS H z]⟩ HT.out.2
      have q2 := HB.out.few
      simp only [Thing.size, List.length_append, List.length_singleton] at q1
      show (sizes (H.things.set N ⟨2, -1, [], vals ++ [plainS H z]⟩) : Int) ≤ H.used + 1
      omega)
    exact ⟨rfl, tvs, own', h1, (hMw.up uq).trans h2⟩

end Go.Proofs.YtmbipadiaggolaaGreatDoor
