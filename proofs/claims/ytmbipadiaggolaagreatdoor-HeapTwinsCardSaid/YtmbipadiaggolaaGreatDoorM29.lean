import Derived.Test.YtmbipadiaggolaaGreatDoorM17
import Derived.Test.YtmbipadiaggolaaGreatDoorM11
import Derived.Test.YtmbipadiaggolaaGreatDoorM28
/- YtmbipadiaggolaaGreatDoorM29: lemmas of the proof, in order: NoneP, FullA. -/
/- Walks: the program's heap of nothing: At, Put, Typeof. -/
namespace Go.Proofs.YtmbipadiaggolaaGreatDoor
open Go.RowKit
set_option linter.unusedSimpArgs false
attribute [local go_sem] ta_aa ta_ao ta_an ta_oa ta_oo ta_on m_kind_a m_kind_o m_behind_a m_behind_o m_own_a m_own_o valV

theorem there0 (m : Int) : H0.there m = false := by unfold HM.there; simp
theorem arr0 (tvs : List Value) (k n : Int) : arrOf H0 tvs k n = .pointer none := by unfold arrOf; simp [there0]

/-- At, where there is nothing -/
theorem At_nothing (hv : Value) (tvs : List Value) (own : Own) (x y : Val) (w : World) (h : HRep w hv H0 tvs own) (hs : (plainS H0 x).s.size ≤ 1000000) :
    Calls Tryz.prog 28 #[hv, .agg #[.int .i64 (x).k, .int .i64 (x).n, .string (x).s], .agg #[.int .i64 (y).k, .int .i64 (y).n, .string (y).s]] w fun e w' => e = .returned (.tuple #[.agg #[.int .i64 ((at0 x y).1).k, .int .i64 ((at0 x y).1).n, .string ((at0 x y).1).s], .string (at0 x y).2.1, .int .i64 (at0 x y).2.2]) ∧ Up w w' := by
  unfold at0
  rcases ex : plainS H0 x with ⟨pk, pn, ps⟩
  rcases ey : plainS H0 y with ⟨qk, qn, qs⟩
  have hk := plain0_kinds x
  rw [ex] at hk hs
  dsimp only at hk hs ⊢
  by_cases h0 : pk = 0
  · subst h0
    exact (At_throw0 hv H0 tvs own _ _ _ _ _ _ w h _ _ _ _ _ ex ey).mono (by intro e w' h; simpa using h)
  · by_cases h1 : pk = 1
    · subst h1
      exact (At_throw1 hv H0 tvs own _ _ _ _ _ _ w h _ _ _ _ _ ex ey).mono (by intro e w' h; simpa using h)
    · have b0 : (pk == 0) = false := by simpa using h0
      have b1 : (pk == 1) = false := by simpa using h1
      have e5 : plainS H0 ⟨pk, pn, ps⟩ = ⟨pk, pn, ps⟩ := by rw [← ex]; exact plain0_twice x
      rw [if_neg (by simp [h0, h1])]
      by_cases h4 : qk = 4
      · subst h4
        rw [if_pos rfl]
        exact At_key hv H0 tvs own _ _ _ _ _ _ w h _ _ _ _ _ b0 b1 (by rw [e5]; dsimp only; omega) ex ey
      · by_cases h3 : qk = 3
        · subst h3
          rw [if_neg (by decide), if_neg (by simp)]
          by_cases hp : pk = 4
          · subst hp
            rw [if_pos rfl]
            exact At_rune hv H0 tvs own _ _ _ _ _ _ w h _ _ _ _ (by omega) (arr0 _ _ _) ex ey
          · rw [if_neg hp]
            exact At_none hv H0 tvs own _ _ _ _ _ _ w h _ _ _ _ _ b0 b1 (by simpa using hp) (arr0 _ _ _) ex ey
        · rw [if_neg h4, if_pos h3]
          exact At_index hv H0 tvs own _ _ _ _ _ _ w h _ _ _ _ _ _ b0 b1 (by simpa using h4) (by simpa using h3) ex ey

set_option maxHeartbeats 1600000 in
theorem Put_nothing (hv : Value) (tvs : List Value) (own : Own) (k n k2 n2 : Int) (s s2 : ByteArray) (z : Val) (w : World) (h : HRep w hv H0 tvs own) :
    Calls Tryz.prog 30 #[hv, .agg #[.int .i64 k, .int .i64 n, .string s], .agg #[.int .i64 k2, .int .i64 n2, .string s2], .agg #[.int .i64 (z).k, .int .i64 (z).n, .string (z).s]] w fun e w' => e = .returned (.tuple #[.string (put0 ⟨k2, n2, s2⟩), .int .i64 1]) ∧ Up w w' := by
  have hh := Lib.hid h
  clear h
  unfold put0
  rcases ey : plainS H0 ⟨k2, n2, s2⟩ with ⟨qk, qn, qs⟩
  have HP := Lib.hid ey
  have HA := Lib.hid (arr0 tvs k n)
  clear ey
  have I1 : (((w.alloc (.cells #[.int .i64 k, .int .i64 n, .string s] 34)).alloc (.cells #[.int .i64 k2, .int .i64 n2, .string s2] 34)).alloc (.cells #[.int .i64 z.k, .int .i64 z.n, .string z.s] 34)).heap[w.heap.size]? = some (.cells #[.int .i64 k, .int .i64 n, .string s] 34 (0, 0)) := alloc_keep (alloc_keep (alloc_at _ _ _ (by simp)))
  have I2 : (((w.alloc (.cells #[.int .i64 k, .int .i64 n, .string s] 34)).alloc (.cells #[.int .i64 k2, .int .i64 n2, .string s2] 34)).alloc (.cells #[.int .i64 z.k, .int .i64 z.n, .string z.s] 34)).heap[w.heap.size + 1]? = some (.cells #[.int .i64 k2, .int .i64 n2, .string s2] 34 (0, 0)) := alloc_keep (alloc_at _ _ _ (by simp))
  have I3 : (((w.alloc (.cells #[.int .i64 k, .int .i64 n, .string s] 34)).alloc (.cells #[.int .i64 k2, .int .i64 n2, .string s2] 34)).alloc (.cells #[.int .i64 z.k, .int .i64 z.n, .string z.s] 34)).heap[w.heap.size + 1 + 1]? = some (.cells #[.int .i64 z.k, .int .i64 z.n, .string z.s] 34 (0, 0)) := alloc_at _ _ _ (by simp)
  by_cases h4 : qk = 4
  · subst h4
    rw [if_pos rfl]
    go_enter Tryz.func30, Tryz.ntmps30
    go_wp2_with (first | (go_at_call 35; refine (plain_any hv H0 tvs own _ _ _ _ (hh.out.up uq)).mono ?_; rintro e w' ⟨rfl, hu⟩; simp only [HP.out]; have s0 := hu.get I1; have B0 := Lib.hid s0; have a0 := cell_of s0 0; have a1 := cell_of s0 1; have a2 := cell_of s0 2; have f0 := ice_of s0 0; have f1 := ice_of s0 1; have f2 := ice_of s0 2; have a4 := lt_of_heap s0; (try simp only [World.size_alloc, List.getElem?_toArray, List.getElem?_cons_zero, List.getElem?_cons_succ] at a0 a1 a2 f0 f1 f2 a4); clear s0; have s0 := hu.get I2; have B1 := Lib.hid s0; have a0 := cell_of s0 0; have a1 := cell_of s0 1; have a2 := cell_of s0 2; have f0 := ice_of s0 0; have f1 := ice_of s0 1; have f2 := ice_of s0 2; have a4 := lt_of_heap s0; (try simp only [World.size_alloc, List.getElem?_toArray, List.getElem?_cons_zero, List.getElem?_cons_succ] at a0 a1 a2 f0 f1 f2 a4); clear s0; have s0 := hu.get I3; have B2 := Lib.hid s0; have a0 := cell_of s0 0; have a1 := cell_of s0 1; have a2 := cell_of s0 2; have f0 := ice_of s0 0; have f1 := ice_of s0 1; have f2 := ice_of s0 2; have a4 := lt_of_heap s0; (try simp only [World.size_alloc, List.getElem?_toArray, List.getElem?_cons_zero, List.getElem?_cons_succ] at a0 a1 a2 f0 f1 f2 a4); clear s0) | (go_at_call 42; refine (array_any hv H0 tvs own _ _ _ _ (hh.out.up uq)).mono ?_; rintro e w2 ⟨rfl, hu2⟩; rw [HA.out]; have s0 := hu2.get (at_skip3 B0.out (by omega)); have a0 := cell_of s0 0; have a1 := cell_of s0 1; have a2 := cell_of s0 2; have f0 := ice_of s0 0; have f1 := ice_of s0 1; have f2 := ice_of s0 2; have a4 := lt_of_heap s0; (try simp only [World.size_alloc, List.getElem?_toArray, List.getElem?_cons_zero, List.getElem?_cons_succ] at a0 a1 a2 f0 f1 f2 a4); clear s0; have s0 := hu2.get (at_set3 B1.out); have a0 := cell_of s0 0; have a1 := cell_of s0 1; have a2 := cell_of s0 2; have f0 := ice_of s0 0; have f1 := ice_of s0 1; have f2 := ice_of s0 2; have a4 := lt_of_heap s0; (try simp only [World.size_alloc, List.getElem?_toArray, List.getElem?_cons_zero, List.getElem?_cons_succ] at a0 a1 a2 f0 f1 f2 a4); clear s0; have s0 := hu2.get (at_skip3 B2.out (by omega)); have a0 := cell_of s0 0; have a1 := cell_of s0 1; have a2 := cell_of s0 2; have f0 := ice_of s0 0; have f1 := ice_of s0 1; have f2 := ice_of s0 2; have a4 := lt_of_heap s0; (try simp only [World.size_alloc, List.getElem?_toArray, List.getElem?_cons_zero, List.getElem?_cons_succ] at a0 a1 a2 f0 f1 f2 a4); clear s0) | (go_at_call 20; refine (Set_none hv H0 tvs own _ _ _ _ z _ (hh.out.up uq) (fun _ => there0 _)).mono ?_; rintro e w3 ⟨rfl, hu3⟩))
    all_goals (refine bodyPost_eq (by (simp [results, Tryz.results30, go_sem, *]) <;> rfl) rfl rfl ⟨rfl, uq⟩)
  · rw [if_neg h4]
    have h4b : (qk == 4) = false := by simpa using h4
    clear h4
    go_enter Tryz.func30, Tryz.ntmps30
    go_wp2_with (first | (go_at_call 35; refine (plain_any hv H0 tvs own _ _ _ _ (hh.out.up uq)).mono ?_; rintro e w' ⟨rfl, hu⟩; simp only [HP.out]; have s0 := hu.get I1; have B0 := Lib.hid s0; have a0 := cell_of s0 0; have a1 := cell_of s0 1; have a2 := cell_of s0 2; have f0 := ice_of s0 0; have f1 := ice_of s0 1; have f2 := ice_of s0 2; have a4 := lt_of_heap s0; (try simp only [World.size_alloc, List.getElem?_toArray, List.getElem?_cons_zero, List.getElem?_cons_succ] at a0 a1 a2 f0 f1 f2 a4); clear s0; have s0 := hu.get I2; have B1 := Lib.hid s0; have a0 := cell_of s0 0; have a1 := cell_of s0 1; have a2 := cell_of s0 2; have f0 := ice_of s0 0; have f1 := ice_of s0 1; have f2 := ice_of s0 2; have a4 := lt_of_heap s0; (try simp only [World.size_alloc, List.getElem?_toArray, List.getElem?_cons_zero, List.getElem?_cons_succ] at a0 a1 a2 f0 f1 f2 a4); clear s0; have s0 := hu.get I3; have B2 := Lib.hid s0; have a0 := cell_of s0 0; have a1 := cell_of s0 1; have a2 := cell_of s0 2; have f0 := ice_of s0 0; have f1 := ice_of s0 1; have f2 := ice_of s0 2; have a4 := lt_of_heap s0; (try simp only [World.size_alloc, List.getElem?_toArray, List.getElem?_cons_zero, List.getElem?_cons_succ] at a0 a1 a2 f0 f1 f2 a4); clear s0) | (go_at_call 42; refine (array_any hv H0 tvs own _ _ _ _ (hh.out.up uq)).mono ?_; rintro e w2 ⟨rfl, hu2⟩; rw [HA.out]; have s0 := hu2.get (at_skip3 B0.out (by omega)); have a0 := cell_of s0 0; have a1 := cell_of s0 1; have a2 := cell_of s0 2; have f0 := ice_of s0 0; have f1 := ice_of s0 1; have f2 := ice_of s0 2; have a4 := lt_of_heap s0; (try simp only [World.size_alloc, List.getElem?_toArray, List.getElem?_cons_zero, List.getElem?_cons_succ] at a0 a1 a2 f0 f1 f2 a4); clear s0; have s0 := hu2.get (at_set3 B1.out); have a0 := cell_of s0 0; have a1 := cell_of s0 1; have a2 := cell_of s0 2; have f0 := ice_of s0 0; have f1 := ice_of s0 1; have f2 := ice_of s0 2; have a4 := lt_of_heap s0; (try simp only [World.size_alloc, List.getElem?_toArray, List.getElem?_cons_zero, List.getElem?_cons_succ] at a0 a1 a2 f0 f1 f2 a4); clear s0; have s0 := hu2.get (at_skip3 B2.out (by omega)); have a0 := cell_of s0 0; have a1 := cell_of s0 1; have a2 := cell_of s0 2; have f0 := ice_of s0 0; have f1 := ice_of s0 1; have f2 := ice_of s0 2; have a4 := lt_of_heap s0; (try simp only [World.size_alloc, List.getElem?_toArray, List.getElem?_cons_zero, List.getElem?_cons_succ] at a0 a1 a2 f0 f1 f2 a4); clear s0))
    all_goals (refine bodyPost_eq (by (simp [results, Tryz.results30, go_sem, *]) <;> rfl) rfl rfl ⟨rfl, uq⟩)

set_option maxHeartbeats 800000 in
theorem Typeof_nothing (hv : Value) (tvs : List Value) (own : Own) (k n : Int) (s : ByteArray) (w : World) (h : HRep w hv H0 tvs own) :
    Calls Tryz.prog 18 #[hv, .agg #[.int .i64 k, .int .i64 n, .string s]] w fun e w' => e = .returned (.string (typeofS (plainS H0 ⟨k, n, s⟩).k)) ∧ Up w w' := by
  have hh := Lib.hid h
  clear h
  have hk := plain0_kinds ⟨k, n, s⟩
  rcases ex : plainS H0 ⟨k, n, s⟩ with ⟨pk, pn, ps⟩
  rw [ex] at hk
  dsimp only at hk
  have HP := Lib.hid ex
  clear ex
  rcases hk with rfl | rfl | rfl | rfl | rfl
  all_goals
    go_enter Tryz.func18, Tryz.ntmps18
    go_wp2_with (first | (go_at_call 35; refine (plain_any hv H0 tvs own _ _ _ _ (hh.out.up uq)).mono ?_; rintro e w' ⟨rfl, hu⟩; simp only [HP.out]; have s0 := hu.get (alloc_get w _); have a0 := cell_of s0 0; have a1 := cell_of s0 1; have a2 := cell_of s0 2; have f0 := ice_of s0 0; have f1 := ice_of s0 1; have f2 := ice_of s0 2; have a4 := lt_of_heap s0; (try simp only [World.size_alloc, List.getElem?_toArray, List.getElem?_cons_zero, List.getElem?_cons_succ] at a0 a1 a2 f0 f1 f2 a4); clear s0))
    all_goals (refine bodyPost_eq (by (simp [results, Tryz.results18, go_sem, *]) <;> rfl) rfl rfl ⟨rfl, uq⟩)

end Go.Proofs.YtmbipadiaggolaaGreatDoor

/- Walks: the program's Put in general: where it is Set, and where it throws. -/
namespace Go.Proofs.YtmbipadiaggolaaGreatDoor
open Go.RowKit
set_option linter.unusedSimpArgs false
attribute [local go_sem] ta_aa ta_ao ta_an ta_oa ta_oo ta_on m_kind_a m_kind_o m_behind_a m_behind_o m_own_a m_own_o valV

set_option maxHeartbeats 1600000 in
theorem Put_set_n (hb : Nat) (H : HM) (tvs : List Value) (own : Own) (k n k2 n2 : Int) (s s2 : ByteArray) (z : Val) (w : World) (h : Rep w hb H tvs own) (qk qn : Int) (qs : ByteArray) (ey : plainS H ⟨k2, n2, s2⟩ = ⟨qk, qn, qs⟩) (ha : arrOf H tvs k n = .pointer none) (h4 : (qk == 4) = true) :
    Calls Tryz.prog 30 #[.pointer (some ⟨hb, 0, none⟩), .agg #[.int .i64 k, .int .i64 n, .string s], .agg #[.int .i64 k2, .int .i64 n2, .string s2], .agg #[.int .i64 (z).k, .int .i64 (z).n, .string (z).s]] w (Wrote hb (H.set k n qs z).1 own w (.tuple #[.string (H.set k n qs z).2.1, .int .i64 (H.set k n qs z).2.2])) := by
  obtain ⟨R, hS⟩ : ∃ R, Hid (H.set k n qs z = R) := ⟨_, rfl⟩
  rw [hS.out]
  have HB := Lib.hid h
  have hh := Lib.hid (HRep.some hb H tvs own h)
  have HP := Lib.hid ey
  have HA := Lib.hid ha
  clear h ey ha
  have I1 : (((w.alloc (.cells #[.int .i64 k, .int .i64 n, .string s] 34)).alloc (.cells #[.int .i64 k2, .int .i64 n2, .string s2] 34)).alloc (.cells #[.int .i64 z.k, .int .i64 z.n, .string z.s] 34)).heap[w.heap.size]? = some (.cells #[.int .i64 k, .int .i64 n, .string s] 34 (0, 0)) := alloc_keep (alloc_keep (alloc_at _ _ _ (by simp)))
  have I2 : (((w.alloc (.cells #[.int .i64 k, .int .i64 n, .string s] 34)).alloc (.cells #[.int .i64 k2, .int .i64 n2, .string s2] 34)).alloc (.cells #[.int .i64 z.k, .int .i64 z.n, .string z.s] 34)).heap[w.heap.size + 1]? = some (.cells #[.int .i64 k2, .int .i64 n2, .string s2] 34 (0, 0)) := alloc_keep (alloc_at _ _ _ (by simp))
  have I3 : (((w.alloc (.cells #[.int .i64 k, .int .i64 n, .string s] 34)).alloc (.cells #[.int .i64 k2, .int .i64 n2, .string s2] 34)).alloc (.cells #[.int .i64 z.k, .int .i64 z.n, .string z.s] 34)).heap[w.heap.size + 1 + 1]? = some (.cells #[.int .i64 z.k, .int .i64 z.n, .string z.s] 34 (0, 0)) := alloc_at _ _ _ (by simp)
  go_enter Tryz.func30, Tryz.ntmps30
  go_wp2_with (first | (go_at_call 35; refine (plain_any (.pointer (some ⟨hb, 0, none⟩)) H tvs own _ _ _ _ (hh.out.up uq)).mono ?_; rintro e w' ⟨rfl, hu⟩; simp only [HP.out]; have s0 := hu.get I1; have B0 := Lib.hid s0; have a0 := cell_of s0 0; have a1 := cell_of s0 1; have a2 := cell_of s0 2; have f0 := ice_of s0 0; have f1 := ice_of s0 1; have f2 := ice_of s0 2; have a4 := lt_of_heap s0; (try simp only [World.size_alloc, List.getElem?_toArray, List.getElem?_cons_zero, List.getElem?_cons_succ] at a0 a1 a2 f0 f1 f2 a4); clear s0; have s0 := hu.get I2; have B1 := Lib.hid s0; have a0 := cell_of s0 0; have a1 := cell_of s0 1; have a2 := cell_of s0 2; have f0 := ice_of s0 0; have f1 := ice_of s0 1; have f2 := ice_of s0 2; have a4 := lt_of_heap s0; (try simp only [World.size_alloc, List.getElem?_toArray, List.getElem?_cons_zero, List.getElem?_cons_succ] at a0 a1 a2 f0 f1 f2 a4); clear s0; have s0 := hu.get I3; have B2 := Lib.hid s0; have a0 := cell_of s0 0; have a1 := cell_of s0 1; have a2 := cell_of s0 2; have f0 := ice_of s0 0; have f1 := ice_of s0 1; have f2 := ice_of s0 2; have a4 := lt_of_heap s0; (try simp only [World.size_alloc, List.getElem?_toArray, List.getElem?_cons_zero, List.getElem?_cons_succ] at a0 a1 a2 f0 f1 f2 a4); clear s0) | (go_at_call 42; refine (array_any (.pointer (some ⟨hb, 0, none⟩)) H tvs own _ _ _ _ (hh.out.up uq)).mono ?_; rintro e w2 ⟨rfl, hu2⟩; rw [HA.out]; have hw2 : Up w w2 := uq; have C0 := Lib.hid (hu2.get (at_skip3 B0.out (by omega))); have C1 := Lib.hid (hu2.get (at_set3 B1.out)); have C2 := Lib.hid (hu2.get (at_skip3 B2.out (by omega))); have s0 := C0.out; have a0 := cell_of s0 0; have a1 := cell_of s0 1; have a2 := cell_of s0 2; have f0 := ice_of s0 0; have f1 := ice_of s0 1; have f2 := ice_of s0 2; have a4 := lt_of_heap s0; (try simp only [World.size_alloc, List.getElem?_toArray, List.getElem?_cons_zero, List.getElem?_cons_succ] at a0 a1 a2 f0 f1 f2 a4); clear s0; have s0 := C1.out; have a0 := cell_of s0 0; have a1 := cell_of s0 1; have a2 := cell_of s0 2; have f0 := ice_of s0 0; have f1 := ice_of s0 1; have f2 := ice_of s0 2; have a4 := lt_of_heap s0; (try simp only [World.size_alloc, List.getElem?_toArray, List.getElem?_cons_zero, List.getElem?_cons_succ] at a0 a1 a2 f0 f1 f2 a4); clear s0; have s0 := C2.out; have a0 := cell_of s0 0; have a1 := cell_of s0 1; have a2 := cell_of s0 2; have f0 := ice_of s0 0; have f1 := ice_of s0 1; have f2 := ice_of s0 2; have a4 := lt_of_heap s0; (try simp only [World.size_alloc, List.getElem?_toArray, List.getElem?_cons_zero, List.getElem?_cons_succ] at a0 a1 a2 f0 f1 f2 a4); clear s0) | (go_at_call 20; refine (Set_any hb H tvs own _ _ _ _ z _ (HB.out.up hw2)).mono ?_; rintro e w3 ⟨rfl, tvs', own', hR4, hM4⟩; rw [hS.out]))
  refine bodyPost_eq (by (simp [results, Tryz.results30, go_sem, *]) <;> rfl) rfl rfl ?_
  rw [hS.out] at hR4
  exact ⟨rfl, tvs', own', hR4, (hw2.mut own).trans hM4⟩

set_option maxHeartbeats 1600000 in
theorem Put_throw_n (hb : Nat) (H : HM) (tvs : List Value) (own : Own) (k n k2 n2 : Int) (s s2 : ByteArray) (z : Val) (w : World) (h : Rep w hb H tvs own) (qk qn : Int) (qs : ByteArray) (ey : plainS H ⟨k2, n2, s2⟩ = ⟨qk, qn, qs⟩) (ha : arrOf H tvs k n = .pointer none) (h4 : (qk == 4) = false) :
    Calls Tryz.prog 30 #[.pointer (some ⟨hb, 0, none⟩), .agg #[.int .i64 k, .int .i64 n, .string s], .agg #[.int .i64 k2, .int .i64 n2, .string s2], .agg #[.int .i64 (z).k, .int .i64 (z).n, .string (z).s]] w fun e w' => e = .returned (.tuple #[.string noIndexS, .int .i64 1]) ∧ Up w w' := by
  have hh := Lib.hid (HRep.some hb H tvs own h)
  have HP := Lib.hid ey
  have HA := Lib.hid ha
  clear h ey ha
  have I1 : (((w.alloc (.cells #[.int .i64 k, .int .i64 n, .string s] 34)).alloc (.cells #[.int .i64 k2, .int .i64 n2, .string s2] 34)).alloc (.cells #[.int .i64 z.k, .int .i64 z.n, .string z.s] 34)).heap[w.heap.size]? = some (.cells #[.int .i64 k, .int .i64 n, .string s] 34 (0, 0)) := alloc_keep (alloc_keep (alloc_at _ _ _ (by simp)))
  have I2 : (((w.alloc (.cells #[.int .i64 k, .int .i64 n, .string s] 34)).alloc (.cells #[.int .i64 k2, .int .i64 n2, .string s2] 34)).alloc (.cells #[.int .i64 z.k, .int .i64 z.n, .string z.s] 34)).heap[w.heap.size + 1]? = some (.cells #[.int .i64 k2, .int .i64 n2, .string s2] 34 (0, 0)) := alloc_keep (alloc_at _ _ _ (by simp))
  have I3 : (((w.alloc (.cells #[.int .i64 k, .int .i64 n, .string s] 34)).alloc (.cells #[.int .i64 k2, .int .i64 n2, .string s2] 34)).alloc (.cells #[.int .i64 z.k, .int .i64 z.n, .string z.s] 34)).heap[w.heap.size + 1 + 1]? = some (.cells #[.int .i64 z.k, .int .i64 z.n, .string z.s] 34 (0, 0)) := alloc_at _ _ _ (by simp)
  go_enter Tryz.func30, Tryz.ntmps30
  go_wp2_with (first | (go_at_call 35; refine (plain_any (.pointer (some ⟨hb, 0, none⟩)) H tvs own _ _ _ _ (hh.out.up uq)).mono ?_; rintro e w' ⟨rfl, hu⟩; simp only [HP.out]; have s0 := hu.get I1; have B0 := Lib.hid s0; have a0 := cell_of s0 0; have a1 := cell_of s0 1; have a2 := cell_of s0 2; have f0 := ice_of s0 0; have f1 := ice_of s0 1; have f2 := ice_of s0 2; have a4 := lt_of_heap s0; (try simp only [World.size_alloc, List.getElem?_toArray, List.getElem?_cons_zero, List.getElem?_cons_succ] at a0 a1 a2 f0 f1 f2 a4); clear s0; have s0 := hu.get I2; have B1 := Lib.hid s0; have a0 := cell_of s0 0; have a1 := cell_of s0 1; have a2 := cell_of s0 2; have f0 := ice_of s0 0; have f1 := ice_of s0 1; have f2 := ice_of s0 2; have a4 := lt_of_heap s0; (try simp only [World.size_alloc, List.getElem?_toArray, List.getElem?_cons_zero, List.getElem?_cons_succ] at a0 a1 a2 f0 f1 f2 a4); clear s0; have s0 := hu.get I3; have B2 := Lib.hid s0; have a0 := cell_of s0 0; have a1 := cell_of s0 1; have a2 := cell_of s0 2; have f0 := ice_of s0 0; have f1 := ice_of s0 1; have f2 := ice_of s0 2; have a4 := lt_of_heap s0; (try simp only [World.size_alloc, List.getElem?_toArray, List.getElem?_cons_zero, List.getElem?_cons_succ] at a0 a1 a2 f0 f1 f2 a4); clear s0) | (go_at_call 42; refine (array_any (.pointer (some ⟨hb, 0, none⟩)) H tvs own _ _ _ _ (hh.out.up uq)).mono ?_; rintro e w2 ⟨rfl, hu2⟩; rw [HA.out]; have hw2 : Up w w2 := uq; have C0 := Lib.hid (hu2.get (at_skip3 B0.out (by omega))); have C1 := Lib.hid (hu2.get (at_set3 B1.out)); have C2 := Lib.hid (hu2.get (at_skip3 B2.out (by omega))); have s0 := C0.out; have a0 := cell_of s0 0; have a1 := cell_of s0 1; have a2 := cell_of s0 2; have f0 := ice_of s0 0; have f1 := ice_of s0 1; have f2 := ice_of s0 2; have a4 := lt_of_heap s0; (try simp only [World.size_alloc, List.getElem?_toArray, List.getElem?_cons_zero, List.getElem?_cons_succ] at a0 a1 a2 f0 f1 f2 a4); clear s0; have s0 := C1.out; have a0 := cell_of s0 0; have a1 := cell_of s0 1; have a2 := cell_of s0 2; have f0 := ice_of s0 0; have f1 := ice_of s0 1; have f2 := ice_of s0 2; have a4 := lt_of_heap s0; (try simp only [World.size_alloc, List.getElem?_toArray, List.getElem?_cons_zero, List.getElem?_cons_succ] at a0 a1 a2 f0 f1 f2 a4); clear s0; have s0 := C2.out; have a0 := cell_of s0 0; have a1 := cell_of s0 1; have a2 := cell_of s0 2; have f0 := ice_of s0 0; have f1 := ice_of s0 1; have f2 := ice_of s0 2; have a4 := lt_of_heap s0; (try simp only [World.size_alloc, List.getElem?_toArray, List.getElem?_cons_zero, List.getElem?_cons_succ] at a0 a1 a2 f0 f1 f2 a4); clear s0))
  all_goals (refine bodyPost_eq (by (simp [results, Tryz.results30, go_sem, *]) <;> rfl) rfl rfl ⟨rfl, uq⟩)

set_option maxHeartbeats 1600000 in
theorem Put_set_a (hb : Nat) (H : HM) (tvs : List Value) (own : Own) (k n k2 n2 : Int) (s s2 : ByteArray) (z : Val) (w : World) (h : Rep w hb H tvs own) (qk qn : Int) (qs : ByteArray) (ey : plainS H ⟨k2, n2, s2⟩ = ⟨qk, qn, qs⟩) (b : Nat) (ha : arrOf H tvs k n = .pointer (some ⟨b, 0, none⟩)) (hq : (qk == 3) = false) (h4 : (qk == 4) = true) :
    Calls Tryz.prog 30 #[.pointer (some ⟨hb, 0, none⟩), .agg #[.int .i64 k, .int .i64 n, .string s], .agg #[.int .i64 k2, .int .i64 n2, .string s2], .agg #[.int .i64 (z).k, .int .i64 (z).n, .string (z).s]] w (Wrote hb (H.set k n qs z).1 own w (.tuple #[.string (H.set k n qs z).2.1, .int .i64 (H.set k n qs z).2.2])) := by
  obtain ⟨R, hS⟩ : ∃ R, Hid (H.set k n qs z = R) := ⟨_, rfl⟩
  rw [hS.out]
  have HB := Lib.hid h
  have hh := Lib.hid (HRep.some hb H tvs own h)
  have HP := Lib.hid ey
  have HA := Lib.hid ha
  clear h ey ha
  have I1 : (((w.alloc (.cells #[.int .i64 k, .int .i64 n, .string s] 34)).alloc (.cells #[.int .i64 k2, .int .i64 n2, .string s2] 34)).alloc (.cells #[.int .i64 z.k, .int .i64 z.n, .string z.s] 34)).heap[w.heap.size]? = some (.cells #[.int .i64 k, .int .i64 n, .string s] 34 (0, 0)) := alloc_keep (alloc_keep (alloc_at _ _ _ (by simp)))
  have I2 : (((w.alloc (.cells #[.int .i64 k, .int .i64 n, .string s] 34)).alloc (.cells #[.int .i64 k2, .int .i64 n2, .string s2] 34)).alloc (.cells #[.int .i64 z.k, .int .i64 z.n, .string z.s] 34)).heap[w.heap.size + 1]? = some (.cells #[.int .i64 k2, .int .i64 n2, .string s2] 34 (0, 0)) := alloc_keep (alloc_at _ _ _ (by simp))
  have I3 : (((w.alloc (.cells #[.int .i64 k, .int .i64 n, .string s] 34)).alloc (.cells #[.int .i64 k2, .int .i64 n2, .string s2] 34)).alloc (.cells #[.int .i64 z.k, .int .i64 z.n, .string z.s] 34)).heap[w.heap.size + 1 + 1]? = some (.cells #[.int .i64 z.k, .int .i64 z.n, .string z.s] 34 (0, 0)) := alloc_at _ _ _ (by simp)
  go_enter Tryz.func30, Tryz.ntmps30
  go_wp2_with (first | (go_at_call 35; refine (plain_any (.pointer (some ⟨hb, 0, none⟩)) H tvs own _ _ _ _ (hh.out.up uq)).mono ?_; rintro e w' ⟨rfl, hu⟩; simp only [HP.out]; have s0 := hu.get I1; have B0 := Lib.hid s0; have a0 := cell_of s0 0; have a1 := cell_of s0 1; have a2 := cell_of s0 2; have f0 := ice_of s0 0; have f1 := ice_of s0 1; have f2 := ice_of s0 2; have a4 := lt_of_heap s0; (try simp only [World.size_alloc, List.getElem?_toArray, List.getElem?_cons_zero, List.getElem?_cons_succ] at a0 a1 a2 f0 f1 f2 a4); clear s0; have s0 := hu.get I2; have B1 := Lib.hid s0; have a0 := cell_of s0 0; have a1 := cell_of s0 1; have a2 := cell_of s0 2; have f0 := ice_of s0 0; have f1 := ice_of s0 1; have f2 := ice_of s0 2; have a4 := lt_of_heap s0; (try simp only [World.size_alloc, List.getElem?_toArray, List.getElem?_cons_zero, List.getElem?_cons_succ] at a0 a1 a2 f0 f1 f2 a4); clear s0; have s0 := hu.get I3; have B2 := Lib.hid s0; have a0 := cell_of s0 0; have a1 := cell_of s0 1; have a2 := cell_of s0 2; have f0 := ice_of s0 0; have f1 := ice_of s0 1; have f2 := ice_of s0 2; have a4 := lt_of_heap s0; (try simp only [World.size_alloc, List.getElem?_toArray, List.getElem?_cons_zero, List.getElem?_cons_succ] at a0 a1 a2 f0 f1 f2 a4); clear s0) | (go_at_call 42; refine (array_any (.pointer (some ⟨hb, 0, none⟩)) H tvs own _ _ _ _ (hh.out.up uq)).mono ?_; rintro e w2 ⟨rfl, hu2⟩; rw [HA.out]; have hw2 : Up w w2 := uq; have C0 := Lib.hid (hu2.get (at_skip3 B0.out (by omega))); have C1 := Lib.hid (hu2.get (at_set3 B1.out)); have C2 := Lib.hid (hu2.get (at_skip3 B2.out (by omega))); have s0 := C0.out; have a0 := cell_of s0 0; have a1 := cell_of s0 1; have a2 := cell_of s0 2; have f0 := ice_of s0 0; have f1 := ice_of s0 1; have f2 := ice_of s0 2; have a4 := lt_of_heap s0; (try simp only [World.size_alloc, List.getElem?_toArray, List.getElem?_cons_zero, List.getElem?_cons_succ] at a0 a1 a2 f0 f1 f2 a4); clear s0; have s0 := C1.out; have a0 := cell_of s0 0; have a1 := cell_of s0 1; have a2 := cell_of s0 2; have f0 := ice_of s0 0; have f1 := ice_of s0 1; have f2 := ice_of s0 2; have a4 := lt_of_heap s0; (try simp only [World.size_alloc, List.getElem?_toArray, List.getElem?_cons_zero, List.getElem?_cons_succ] at a0 a1 a2 f0 f1 f2 a4); clear s0; have s0 := C2.out; have a0 := cell_of s0 0; have a1 := cell_of s0 1; have a2 := cell_of s0 2; have f0 := ice_of s0 0; have f1 := ice_of s0 1; have f2 := ice_of s0 2; have a4 := lt_of_heap s0; (try simp only [World.size_alloc, List.getElem?_toArray, List.getElem?_cons_zero, List.getElem?_cons_succ] at a0 a1 a2 f0 f1 f2 a4); clear s0) | (go_at_call 20; refine (Set_any hb H tvs own _ _ _ _ z _ (HB.out.up hw2)).mono ?_; rintro e w3 ⟨rfl, tvs', own', hR4, hM4⟩; rw [hS.out]))
  refine bodyPost_eq (by (simp [results, Tryz.results30, go_sem, *]) <;> rfl) rfl rfl ?_
  rw [hS.out] at hR4
  exact ⟨rfl, tvs', own', hR4, (hw2.mut own).trans hM4⟩

set_option maxHeartbeats 1600000 in
theorem Put_throw_a (hb : Nat) (H : HM) (tvs : List Value) (own : Own) (k n k2 n2 : Int) (s s2 : ByteArray) (z : Val) (w : World) (h : Rep w hb H tvs own) (qk qn : Int) (qs : ByteArray) (ey : plainS H ⟨k2, n2, s2⟩ = ⟨qk, qn, qs⟩) (b : Nat) (ha : arrOf H tvs k n = .pointer (some ⟨b, 0, none⟩)) (hq : (qk == 3) = false) (h4 : (qk == 4) = false) :
    Calls Tryz.prog 30 #[.pointer (some ⟨hb, 0, none⟩), .agg #[.int .i64 k, .int .i64 n, .string s], .agg #[.int .i64 k2, .int .i64 n2, .string s2], .agg #[.int .i64 (z).k, .int .i64 (z).n, .string (z).s]] w fun e w' => e = .returned (.tuple #[.string noIndexS, .int .i64 1]) ∧ Up w w' := by
  have hh := Lib.hid (HRep.some hb H tvs own h)
  have HP := Lib.hid ey
  have HA := Lib.hid ha
  clear h ey ha
  have I1 : (((w.alloc (.cells #[.int .i64 k, .int .i64 n, .string s] 34)).alloc (.cells #[.int .i64 k2, .int .i64 n2, .string s2] 34)).alloc (.cells #[.int .i64 z.k, .int .i64 z.n, .string z.s] 34)).heap[w.heap.size]? = some (.cells #[.int .i64 k, .int .i64 n, .string s] 34 (0, 0)) := alloc_keep (alloc_keep (alloc_at _ _ _ (by simp)))
  have I2 : (((w.alloc (.cells #[.int .i64 k, .int .i64 n, .string s] 34)).alloc (.cells #[.int .i64 k2, .int .i64 n2, .string s2] 34)).alloc (.cells #[.int .i64 z.k, .int .i64 z.n, .string z.s] 34)).heap[w.heap.size + 1]? = some (.cells #[.int .i64 k2, .int .i64 n2, .string s2] 34 (0, 0)) := alloc_keep (alloc_at _ _ _ (by simp))
  have I3 : (((w.alloc (.cells #[.int .i64 k, .int .i64 n, .string s] 34)).alloc (.cells #[.int .i64 k2, .int .i64 n2, .string s2] 34)).alloc (.cells #[.int .i64 z.k, .int .i64 z.n, .string z.s] 34)).heap[w.heap.size + 1 + 1]? = some (.cells #[.int .i64 z.k, .int .i64 z.n, .string z.s] 34 (0, 0)) := alloc_at _ _ _ (by simp)
  go_enter Tryz.func30, Tryz.ntmps30
  go_wp2_with (first | (go_at_call 35; refine (plain_any (.pointer (some ⟨hb, 0, none⟩)) H tvs own _ _ _ _ (hh.out.up uq)).mono ?_; rintro e w' ⟨rfl, hu⟩; simp only [HP.out]; have s0 := hu.get I1; have B0 := Lib.hid s0; have a0 := cell_of s0 0; have a1 := cell_of s0 1; have a2 := cell_of s0 2; have f0 := ice_of s0 0; have f1 := ice_of s0 1; have f2 := ice_of s0 2; have a4 := lt_of_heap s0; (try simp only [World.size_alloc, List.getElem?_toArray, List.getElem?_cons_zero, List.getElem?_cons_succ] at a0 a1 a2 f0 f1 f2 a4); clear s0; have s0 := hu.get I2; have B1 := Lib.hid s0; have a0 := cell_of s0 0; have a1 := cell_of s0 1; have a2 := cell_of s0 2; have f0 := ice_of s0 0; have f1 := ice_of s0 1; have f2 := ice_of s0 2; have a4 := lt_of_heap s0; (try simp only [World.size_alloc, List.getElem?_toArray, List.getElem?_cons_zero, List.getElem?_cons_succ] at a0 a1 a2 f0 f1 f2 a4); clear s0; have s0 := hu.get I3; have B2 := Lib.hid s0; have a0 := cell_of s0 0; have a1 := cell_of s0 1; have a2 := cell_of s0 2; have f0 := ice_of s0 0; have f1 := ice_of s0 1; have f2 := ice_of s0 2; have a4 := lt_of_heap s0; (try simp only [World.size_alloc, List.getElem?_toArray, List.getElem?_cons_zero, List.getElem?_cons_succ] at a0 a1 a2 f0 f1 f2 a4); clear s0) | (go_at_call 42; refine (array_any (.pointer (some ⟨hb, 0, none⟩)) H tvs own _ _ _ _ (hh.out.up uq)).mono ?_; rintro e w2 ⟨rfl, hu2⟩; rw [HA.out]; have hw2 : Up w w2 := uq; have C0 := Lib.hid (hu2.get (at_skip3 B0.out (by omega))); have C1 := Lib.hid (hu2.get (at_set3 B1.out)); have C2 := Lib.hid (hu2.get (at_skip3 B2.out (by omega))); have s0 := C0.out; have a0 := cell_of s0 0; have a1 := cell_of s0 1; have a2 := cell_of s0 2; have f0 := ice_of s0 0; have f1 := ice_of s0 1; have f2 := ice_of s0 2; have a4 := lt_of_heap s0; (try simp only [World.size_alloc, List.getElem?_toArray, List.getElem?_cons_zero, List.getElem?_cons_succ] at a0 a1 a2 f0 f1 f2 a4); clear s0; have s0 := C1.out; have a0 := cell_of s0 0; have a1 := cell_of s0 1; have a2 := cell_of s0 2; have f0 := ice_of s0 0; have f1 := ice_of s0 1; have f2 := ice_of s0 2; have a4 := lt_of_heap s0; (try simp only [World.size_alloc, List.getElem?_toArray, List.getElem?_cons_zero, List.getElem?_cons_succ] at a0 a1 a2 f0 f1 f2 a4); clear s0; have s0 := C2.out; have a0 := cell_of s0 0; have a1 := cell_of s0 1; have a2 := cell_of s0 2; have f0 := ice_of s0 0; have f1 := ice_of s0 1; have f2 := ice_of s0 2; have a4 := lt_of_heap s0; (try simp only [World.size_alloc, List.getElem?_toArray, List.getElem?_cons_zero, List.getElem?_cons_succ] at a0 a1 a2 f0 f1 f2 a4); clear s0))
  all_goals (refine bodyPost_eq (by (simp [results, Tryz.results30, go_sem, *]) <;> rfl) rfl rfl ⟨rfl, uq⟩)

set_option maxHeartbeats 800000 in
/-- Typeof, as a whole -/
theorem Typeof_any (hv : Value) (H : HM) (tvs : List Value) (own : Own) (k n : Int) (s : ByteArray) (w : World) (h : HRep w hv H tvs own) :
    Calls Tryz.prog 18 #[hv, .agg #[.int .i64 k, .int .i64 n, .string s]] w fun e w' => e = .returned (.string (H.typeofG ⟨k, n, s⟩)) ∧ Up w w' := by
  have hh := Lib.hid h
  clear h
  unfold HM.typeofG
  have hk := plainS_kinds H ⟨k, n, s⟩
  rcases ex : plainS H ⟨k, n, s⟩ with ⟨pk, pn, ps⟩
  rw [ex] at hk
  dsimp only at hk
  have HP := Lib.hid ex
  clear ex
  dsimp only
  rcases hk with rfl | rfl | rfl | rfl | rfl | rfl
  iterate 5
    · rw [if_neg (by omega)]
      go_enter Tryz.func18, Tryz.ntmps18
      go_wp2_with (first | (go_at_call 35; refine (plain_any hv H tvs own _ _ _ _ (hh.out.up uq)).mono ?_; rintro e w' ⟨rfl, hu⟩; simp only [HP.out]; have s0 := hu.get (alloc_get w _); have a0 := cell_of s0 0; have a1 := cell_of s0 1; have a2 := cell_of s0 2; have f0 := ice_of s0 0; have f1 := ice_of s0 1; have f2 := ice_of s0 2; have a4 := lt_of_heap s0; (try simp only [World.size_alloc, List.getElem?_toArray, List.getElem?_cons_zero, List.getElem?_cons_succ] at a0 a1 a2 f0 f1 f2 a4); clear s0))
      all_goals (refine bodyPost_eq (by (simp [results, Tryz.results18, go_sem, *]) <;> rfl) rfl rfl ⟨rfl, uq⟩)
  · obtain ⟨q, hq⟩ : ∃ q, Hid (H.kindOf pn = q) := ⟨_, rfl⟩
    rw [hq.out]
    by_cases h3 : q = 3
    · subst h3
      rw [if_pos ⟨rfl, .inl rfl⟩]
      go_enter Tryz.func18, Tryz.ntmps18
      go_wp2_with (first | (go_at_call 35; refine (plain_any hv H tvs own _ _ _ _ (hh.out.up uq)).mono ?_; rintro e w' ⟨rfl, hu⟩; simp only [HP.out]; have s0 := hu.get (alloc_get w _); have a0 := cell_of s0 0; have a1 := cell_of s0 1; have a2 := cell_of s0 2; have f0 := ice_of s0 0; have f1 := ice_of s0 1; have f2 := ice_of s0 2; have a4 := lt_of_heap s0; (try simp only [World.size_alloc, List.getElem?_toArray, List.getElem?_cons_zero, List.getElem?_cons_succ] at a0 a1 a2 f0 f1 f2 a4); clear s0) | (go_at_call 14; refine (Kind_any hv H tvs own _ _ (hh.out.up uq)).mono ?_; rintro e w2 ⟨rfl, hu2⟩; rw [hq.out]))
      all_goals (refine bodyPost_eq (by (simp [results, Tryz.results18, go_sem, *]) <;> rfl) rfl rfl ⟨rfl, uq⟩)
    · by_cases h4 : q = 4
      · subst h4
        rw [if_pos ⟨rfl, .inr rfl⟩]
        go_enter Tryz.func18, Tryz.ntmps18
        go_wp2_with (first | (go_at_call 35; refine (plain_any hv H tvs own _ _ _ _ (hh.out.up uq)).mono ?_; rintro e w' ⟨rfl, hu⟩; simp only [HP.out]; have s0 := hu.get (alloc_get w _); have a0 := cell_of s0 0; have a1 := cell_of s0 1; have a2 := cell_of s0 2; have f0 := ice_of s0 0; have f1 := ice_of s0 1; have f2 := ice_of s0 2; have a4 := lt_of_heap s0; (try simp only [World.size_alloc, List.getElem?_toArray, List.getElem?_cons_zero, List.getElem?_cons_succ] at a0 a1 a2 f0 f1 f2 a4); clear s0) | (go_at_call 14; refine (Kind_any hv H tvs own _ _ (hh.out.up uq)).mono ?_; rintro e w2 ⟨rfl, hu2⟩; rw [hq.out]))
        all_goals (refine bodyPost_eq (by (simp [results, Tryz.results18, go_sem, *]) <;> rfl) rfl rfl ⟨rfl, uq⟩)
      · rw [if_neg (by omega)]
        have b3 : (q == 3) = false := by simpa using h3
        have b4 : (q == 4) = false := by simpa using h4
        clear h3 h4
        go_enter Tryz.func18, Tryz.ntmps18
        go_wp2_with (first | (go_at_call 35; refine (plain_any hv H tvs own _ _ _ _ (hh.out.up uq)).mono ?_; rintro e w' ⟨rfl, hu⟩; simp only [HP.out]; have s0 := hu.get (alloc_get w _); have a0 := cell_of s0 0; have a1 := cell_of s0 1; have a2 := cell_of s0 2; have f0 := ice_of s0 0; have f1 := ice_of s0 1; have f2 := ice_of s0 2; have a4 := lt_of_heap s0; (try simp only [World.size_alloc, List.getElem?_toArray, List.getElem?_cons_zero, List.getElem?_cons_succ] at a0 a1 a2 f0 f1 f2 a4); clear s0) | (go_at_call 14; refine (Kind_any hv H tvs own _ _ (hh.out.up uq)).mono ?_; rintro e w2 ⟨rfl, hu2⟩; rw [hq.out]))
        all_goals (refine bodyPost_eq (by (simp [results, Tryz.results18, go_sem, *]) <;> rfl) rfl rfl ⟨rfl, uq⟩)

end Go.Proofs.YtmbipadiaggolaaGreatDoor
