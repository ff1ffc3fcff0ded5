import Derived.Test.YtmbipadiaggolaaGreatDoorM16
/- YtmbipadiaggolaaGreatDoorM17: lemmas of the proof, in order: NoneT. -/
/- Walks: a heap of nothing: the document's Put and Show; the program's At, Put, Typeof, Show. -/
namespace Go.Proofs.YtmbipadiaggolaaGreatDoor
open Go.RowKit
set_option linter.unusedSimpArgs false
attribute [local go_sem] ta_aa ta_ao ta_an ta_oa ta_oo ta_on m_kind_a m_kind_o m_behind_a m_behind_o m_own_a m_own_o valV

theorem digits_few : ∀ (d u : Nat), u < 10 ^ (d + 1) → (Lib.decDigits u).length ≤ d + 1
  | 0, u, h => by rw [Lib.decDigits_one (by omega)]; simp
  | d + 1, u, h => by
    by_cases h10 : u < 10
    · rw [Lib.decDigits_one h10]; simp
    · rw [Lib.decDigits, dif_neg h10]
      have := digits_few d (u / 10) (by rw [Nat.pow_succ] at h; omega)
      simp only [List.length_append, List.length_cons, List.length_nil]
      omega
theorem textOf_few (x : Val) (h4 : ¬ (plainV x).k = 4) : (textOf x).size ≤ 100 := by
  unfold textOf
  split
  · decide
  · split
    · split <;> decide
    · split
      · next h3 =>
        have hn := (plainV_num h3).2
        have hb := clampN_le x.n
        have h1 : ∀ u : Nat, u ≤ 9007199254740991 → (Lib.decDigits u).length ≤ 17 := fun u hu => digits_few 16 u (by omega)
        have h2 : (Lib.itoa (plainV x).n).length ≤ 18 := by
          unfold Lib.itoa
          split
          · have := h1 (plainV x).n.natAbs (by omega); simp; omega
          · have := h1 (plainV x).n.toNat (by omega); omega
        show (Lib.itoa (plainV x).n).toArray.size ≤ 100
        rw [List.size_toArray]
        omega
      · split <;> decide

set_option maxHeartbeats 1600000 in
theorem r_put (rb : Nat) (k n k2 n2 : Int) (s s2 : ByteArray) (z : Val) (w : World) (h : RNil w rb) :
    Calls Tryz.prog 31 #[.pointer (some ⟨rb, 0, none⟩), .agg #[.int .i64 k, .int .i64 n, .string s], .agg #[.int .i64 k2, .int .i64 n2, .string s2], .agg #[.int .i64 (z).k, .int .i64 (z).n, .string (z).s]] w fun e w' => e = .returned (outV ⟨0, 0, ⟨#[]⟩⟩ (put0 ⟨k2, n2, s2⟩) 1) ∧ Up w w' := by
  have HR := Lib.hid h
  clear h
  unfold put0
  rcases ex : plainS H0 ⟨k, n, s⟩ with ⟨pk, pn, ps⟩
  rcases ey : plainS H0 ⟨k2, n2, s2⟩ with ⟨qk, qn, qs⟩
  have HP := Lib.hid (And.intro ex ey)
  clear ex ey
  have I2 : ((((w.alloc (.cells #[.int .i64 k, .int .i64 n, .string s] 34)).alloc (.cells #[.int .i64 k2, .int .i64 n2, .string s2] 34)).alloc (.cells #[.int .i64 z.k, .int .i64 z.n, .string z.s] 34)).alloc (.cells #[.int .i64 0, .int .i64 0, .string ⟨#[]⟩, .string ⟨#[]⟩, .int .i64 0] 56)).heap[w.heap.size + 1]? = some (.cells #[.int .i64 k2, .int .i64 n2, .string s2] 34 (0, 0)) := alloc_keep (alloc_keep (alloc_at _ _ _ (by simp)))
  have I3 : ((((w.alloc (.cells #[.int .i64 k, .int .i64 n, .string s] 34)).alloc (.cells #[.int .i64 k2, .int .i64 n2, .string s2] 34)).alloc (.cells #[.int .i64 z.k, .int .i64 z.n, .string z.s] 34)).alloc (.cells #[.int .i64 0, .int .i64 0, .string ⟨#[]⟩, .string ⟨#[]⟩, .int .i64 0] 56)).heap[w.heap.size + 1 + 1]? = some (.cells #[.int .i64 z.k, .int .i64 z.n, .string z.s] 34 (0, 0)) := alloc_keep (alloc_at _ _ _ (by simp))
  by_cases h4 : qk = 4
  · subst h4
    rw [if_pos rfl]
    go_enter Tryz.func31, Tryz.ntmps31
    go_wp2_with (first | (go_at_call 38; refine (r_sane rb _ _ _ _ (HR.out.up uq)).mono ?_; rintro e w' ⟨rfl, hu⟩; simp only [HP.out.1]; have s0 : w'.heap[w.heap.size + 1 + 1 + 1]? = some (.cells #[.int .i64 0, .int .i64 0, .string ⟨#[]⟩, .string ⟨#[]⟩, .int .i64 0] 56 (0, 0)) := hu.get (alloc_at _ _ _ (by simp)); have B1 := Lib.hid s0; have b0 := cell_of s0 0; have g0 := ice_of s0 0; have b1 := cell_of s0 1; have g1 := ice_of s0 1; have b2 := cell_of s0 2; have g2 := ice_of s0 2; have b3 := cell_of s0 3; have g3 := ice_of s0 3; have b4 := cell_of s0 4; have g4 := ice_of s0 4; have b9 := lt_of_heap s0; (try simp only [World.size_alloc, List.getElem?_toArray, List.getElem?_cons_zero, List.getElem?_cons_succ] at b0 b1 b2 b3 b4 g0 g1 g2 g3 g4 b9); clear s0; have s0 := hu.get I2; have a0 := cell_of s0 0; have a1 := cell_of s0 1; have a2 := cell_of s0 2; have f0 := ice_of s0 0; have f1 := ice_of s0 1; have f2 := ice_of s0 2; have a4 := lt_of_heap s0; (try simp only [World.size_alloc, List.getElem?_toArray, List.getElem?_cons_zero, List.getElem?_cons_succ] at a0 a1 a2 f0 f1 f2 a4); clear s0; have B3 := Lib.hid (hu.get I3)) | (go_at_call 38; refine (r_sane rb _ _ _ _ (HR.out.up uq)).mono ?_; rintro e w2 ⟨rfl, hu2⟩; simp only [HP.out.2]; have s0 := hu2.get (alloc_get w' _); have B7 := Lib.hid s0; have a0 := cell_of s0 0; have a1 := cell_of s0 1; have a2 := cell_of s0 2; have f0 := ice_of s0 0; have f1 := ice_of s0 1; have f2 := ice_of s0 2; have a4 := lt_of_heap s0; (try simp only [World.size_alloc, List.getElem?_toArray, List.getElem?_cons_zero, List.getElem?_cons_succ] at a0 a1 a2 f0 f1 f2 a4); clear s0) | (go_at_call 52; refine (r_array rb _ _ _ _ (HR.out.up uq)).mono ?_; rintro e w3 ⟨rfl, hu3⟩; have s0 := hu3.get (Up.get (w := w') uq B1.out); have C1 := Lib.hid s0; have b0 := cell_of s0 0; have g0 := ice_of s0 0; have b1 := cell_of s0 1; have g1 := ice_of s0 1; have b2 := cell_of s0 2; have g2 := ice_of s0 2; have b3 := cell_of s0 3; have g3 := ice_of s0 3; have b4 := cell_of s0 4; have g4 := ice_of s0 4; have b9 := lt_of_heap s0; (try simp only [World.size_alloc, List.getElem?_toArray, List.getElem?_cons_zero, List.getElem?_cons_succ] at b0 b1 b2 b3 b4 g0 g1 g2 g3 g4 b9); clear s0; have s0 := hu3.get (Up.get (w := w2) uq B7.out); have a0 := cell_of s0 0; have a1 := cell_of s0 1; have a2 := cell_of s0 2; have f0 := ice_of s0 0; have f1 := ice_of s0 1; have f2 := ice_of s0 2; have a4 := lt_of_heap s0; (try simp only [World.size_alloc, List.getElem?_toArray, List.getElem?_cons_zero, List.getElem?_cons_succ] at a0 a1 a2 f0 f1 f2 a4); clear s0; have s0 := hu3.get (Up.get uq (alloc_get w2 _)); have a0 := cell_of s0 0; have a1 := cell_of s0 1; have a2 := cell_of s0 2; have f0 := ice_of s0 0; have f1 := ice_of s0 1; have f2 := ice_of s0 2; have a4 := lt_of_heap s0; (try simp only [World.size_alloc, List.getElem?_toArray, List.getElem?_cons_zero, List.getElem?_cons_succ] at a0 a1 a2 f0 f1 f2 a4); clear s0; have s0 := hu3.get (Up.get (w := w') uq B3.out); have a0 := cell_of s0 0; have a1 := cell_of s0 1; have a2 := cell_of s0 2; have f0 := ice_of s0 0; have f1 := ice_of s0 1; have f2 := ice_of s0 2; have a4 := lt_of_heap s0; (try simp only [World.size_alloc, List.getElem?_toArray, List.getElem?_cons_zero, List.getElem?_cons_succ] at a0 a1 a2 f0 f1 f2 a4); clear s0) | (go_at_call 25; refine (r_set rb _ _ _ _ z _ (HR.out.up uq)).mono ?_; rintro e w4 ⟨rfl, hu4⟩; have s0 := hu4.get (Up.get (w := w3) uq C1.out); have b0 := cell_of s0 0; have g0 := ice_of s0 0; have b1 := cell_of s0 1; have g1 := ice_of s0 1; have b2 := cell_of s0 2; have g2 := ice_of s0 2; have b3 := cell_of s0 3; have g3 := ice_of s0 3; have b4 := cell_of s0 4; have g4 := ice_of s0 4; have b9 := lt_of_heap s0; (try simp only [World.size_alloc, List.getElem?_toArray, List.getElem?_cons_zero, List.getElem?_cons_succ] at b0 b1 b2 b3 b4 g0 g1 g2 g3 g4 b9); clear s0))
    all_goals (refine bodyPost_eq (by (simp [results, Tryz.results31, go_sem, *]) <;> rfl) rfl rfl ⟨rfl, uq⟩)
  · rw [if_neg h4]
    have h4b : (qk == 4) = false := by simpa using h4
    clear h4
    go_enter Tryz.func31, Tryz.ntmps31
    go_wp2_with (first | (go_at_call 38; refine (r_sane rb _ _ _ _ (HR.out.up uq)).mono ?_; rintro e w' ⟨rfl, hu⟩; simp only [HP.out.1]; have s0 : w'.heap[w.heap.size + 1 + 1 + 1]? = some (.cells #[.int .i64 0, .int .i64 0, .string ⟨#[]⟩, .string ⟨#[]⟩, .int .i64 0] 56 (0, 0)) := hu.get (alloc_at _ _ _ (by simp)); have B1 := Lib.hid s0; have b0 := cell_of s0 0; have g0 := ice_of s0 0; have b1 := cell_of s0 1; have g1 := ice_of s0 1; have b2 := cell_of s0 2; have g2 := ice_of s0 2; have b3 := cell_of s0 3; have g3 := ice_of s0 3; have b4 := cell_of s0 4; have g4 := ice_of s0 4; have b9 := lt_of_heap s0; (try simp only [World.size_alloc, List.getElem?_toArray, List.getElem?_cons_zero, List.getElem?_cons_succ] at b0 b1 b2 b3 b4 g0 g1 g2 g3 g4 b9); clear s0; have s0 := hu.get I2; have a0 := cell_of s0 0; have a1 := cell_of s0 1; have a2 := cell_of s0 2; have f0 := ice_of s0 0; have f1 := ice_of s0 1; have f2 := ice_of s0 2; have a4 := lt_of_heap s0; (try simp only [World.size_alloc, List.getElem?_toArray, List.getElem?_cons_zero, List.getElem?_cons_succ] at a0 a1 a2 f0 f1 f2 a4); clear s0) | (go_at_call 38; refine (r_sane rb _ _ _ _ (HR.out.up uq)).mono ?_; rintro e w2 ⟨rfl, hu2⟩; simp only [HP.out.2]; have s0 := hu2.get (alloc_get w' _); have B7 := Lib.hid s0; have a0 := cell_of s0 0; have a1 := cell_of s0 1; have a2 := cell_of s0 2; have f0 := ice_of s0 0; have f1 := ice_of s0 1; have f2 := ice_of s0 2; have a4 := lt_of_heap s0; (try simp only [World.size_alloc, List.getElem?_toArray, List.getElem?_cons_zero, List.getElem?_cons_succ] at a0 a1 a2 f0 f1 f2 a4); clear s0) | (go_at_call 52; refine (r_array rb _ _ _ _ (HR.out.up uq)).mono ?_; rintro e w3 ⟨rfl, hu3⟩; have s0 := hu3.get (Up.get (w := w') uq B1.out); have C1 := Lib.hid s0; have b0 := cell_of s0 0; have g0 := ice_of s0 0; have b1 := cell_of s0 1; have g1 := ice_of s0 1; have b2 := cell_of s0 2; have g2 := ice_of s0 2; have b3 := cell_of s0 3; have g3 := ice_of s0 3; have b4 := cell_of s0 4; have g4 := ice_of s0 4; have b9 := lt_of_heap s0; (try simp only [World.size_alloc, List.getElem?_toArray, List.getElem?_cons_zero, List.getElem?_cons_succ] at b0 b1 b2 b3 b4 g0 g1 g2 g3 g4 b9); clear s0; have s0 := hu3.get (Up.get (w := w2) uq B7.out); have a0 := cell_of s0 0; have a1 := cell_of s0 1; have a2 := cell_of s0 2; have f0 := ice_of s0 0; have f1 := ice_of s0 1; have f2 := ice_of s0 2; have a4 := lt_of_heap s0; (try simp only [World.size_alloc, List.getElem?_toArray, List.getElem?_cons_zero, List.getElem?_cons_succ] at a0 a1 a2 f0 f1 f2 a4); clear s0; have s0 := hu3.get (Up.get uq (alloc_get w2 _)); have a0 := cell_of s0 0; have a1 := cell_of s0 1; have a2 := cell_of s0 2; have f0 := ice_of s0 0; have f1 := ice_of s0 1; have f2 := ice_of s0 2; have a4 := lt_of_heap s0; (try simp only [World.size_alloc, List.getElem?_toArray, List.getElem?_cons_zero, List.getElem?_cons_succ] at a0 a1 a2 f0 f1 f2 a4); clear s0) | (go_at_call 49; refine (rThrow_any _ _).mono ?_; rintro e w4 ⟨rfl, hu4⟩; have s0 := hu4.get (Up.get (w := w3) uq C1.out); have b0 := cell_of s0 0; have g0 := ice_of s0 0; have b1 := cell_of s0 1; have g1 := ice_of s0 1; have b2 := cell_of s0 2; have g2 := ice_of s0 2; have b3 := cell_of s0 3; have g3 := ice_of s0 3; have b4 := cell_of s0 4; have g4 := ice_of s0 4; have b9 := lt_of_heap s0; (try simp only [World.size_alloc, List.getElem?_toArray, List.getElem?_cons_zero, List.getElem?_cons_succ] at b0 b1 b2 b3 b4 g0 g1 g2 g3 g4 b9); clear s0))
    all_goals (refine bodyPost_eq (by (simp [results, Tryz.results31, go_sem, *]) <;> rfl) rfl rfl ⟨rfl, uq⟩)

/-- a value that is neither text nor thing -/
theorem r_within (rb : Nat) (k n d : Int) (s : ByteArray) (w : World) (hk4 : (k == 4) = false) (hk5 : (k != 5) = true) :
    Calls Tryz.prog 39 #[.pointer (some ⟨rb, 0, none⟩), .agg #[.int .i64 k, .int .i64 n, .string s], .int .i64 d] w fun e w' => e = .returned (.string (textOf ⟨k, n, s⟩)) ∧ Up w w' := by
  go_enter Tryz.func39, Tryz.ntmps39
  go_wp2_with (first | (go_at_call 62; refine (r_text _ _ _ _).mono ?_; rintro e w2 ⟨rfl, hu2⟩))
  all_goals (refine bodyPost_eq (by (simp [results, Tryz.results39, go_sem, *]) <;> rfl) rfl rfl ⟨rfl, uq⟩)

set_option maxHeartbeats 1600000 in
theorem r_show (rb : Nat) (k n : Int) (s : ByteArray) (w : World) (h : RNil w rb) :
    Calls Tryz.prog 13 #[.pointer (some ⟨rb, 0, none⟩), .agg #[.int .i64 k, .int .i64 n, .string s]] w fun e w' => e = .returned (.string (show0 ⟨k, n, s⟩)) ∧ Up w w' := by
  have HR := Lib.hid h
  clear h
  unfold show0
  have hk := plain0_kinds ⟨k, n, s⟩
  have hp := plain0_twice ⟨k, n, s⟩
  rcases ex : plainS H0 ⟨k, n, s⟩ with ⟨pk, pn, ps⟩
  rw [ex] at hk
  dsimp only at hk
  have HP := Lib.hid ex
  clear ex hp
  by_cases h4 : pk = 4
  · subst h4
    rw [if_pos rfl]
    go_enter Tryz.func13, Tryz.ntmps13
    go_wp2_with (first | (go_at_call 38; refine (r_sane rb _ _ _ _ (HR.out.up uq)).mono ?_; rintro e w' ⟨rfl, hu⟩; simp only [HP.out]))
    all_goals (refine bodyPost_eq (by (simp [results, Tryz.results13, go_sem, *]) <;> rfl) rfl rfl ⟨rfl, uq⟩)
  · rw [if_neg h4]
    have h4b : (pk == 4) = false := by simpa using h4
    have h5b : (pk != 5) = true := by simp; omega
    obtain ⟨t, ht⟩ : ∃ t, Hid (textOf ⟨pk, pn, ps⟩ = t) := ⟨_, rfl⟩
    have hsz : (t.size : Int) ≤ 100 := by
      have := textOf_few ⟨pk, pn, ps⟩ (by unfold plainV; dsimp only; (repeat' split) <;> simp_all)
      rw [ht.out] at this
      omega
    rw [ht.out]
    clear h4 hk
    go_enter Tryz.func13, Tryz.ntmps13
    go_wp2_with (first | (go_at_call 38; refine (r_sane rb _ _ _ _ (HR.out.up uq)).mono ?_; rintro e w' ⟨rfl, hu⟩; simp only [HP.out]) | (go_at_call 39; refine (r_within rb _ _ _ _ _ h4b h5b).mono ?_; rintro e w2 ⟨rfl, hu2⟩; rw [ht.out]))
    all_goals (refine bodyPost_eq (by (simp [results, Tryz.results13, go_sem, *]) <;> rfl) rfl rfl ⟨rfl, uq⟩)

end Go.Proofs.YtmbipadiaggolaaGreatDoor
