import Derived.Test.YtmbipadiaggolaaGreatDoorM21
/- YtmbipadiaggolaaGreatDoorM22: lemmas of the proof, in order: RefM, RefN, RefO. -/
/- Walks: the document's heap: At whole, Has, Typeof. -/
namespace Go.Proofs.YtmbipadiaggolaaGreatDoor
open Go.RowKit
set_option linter.unusedSimpArgs false

theorem plain_twice (H : HM) (x : Val) : plainS H (plainS H x) = plainS H x := by
  obtain ⟨k, n, s⟩ := x
  by_cases h1 : k = 1
  · subst h1; simp [plainS]
  · by_cases h2 : k = 2
    · subst h2
      by_cases hn : n = 0 <;> simp [plainS, hn]
    · by_cases h3 : k = 3
      · subst h3
        have := clampN_le n
        simp [plainS, clampN_id this.1 this.2]
      · by_cases h4 : k = 4
        · subst h4; simp [plainS]
        · by_cases h5 : k = 5 ∧ H.there n = true
          · obtain ⟨rfl, h6⟩ := h5
            simp [plainS, h6]
          · simp [plainS, h1, h2, h3, h4, h5]

/-- the document's At -/
theorem s_at (rb : Nat) (H : HM) (rs : List RT) (own : Own) (x y : Val) (w : World) (h : RRep w rb H rs own) (hw : H.Wf) (hB : H.Behind) (hs : (plainS H x).s.size ≤ 1000000) :
    Calls Tryz.prog 29 #[.pointer (some ⟨rb, 0, none⟩), .agg #[.int .i64 (x).k, .int .i64 (x).n, .string (x).s], .agg #[.int .i64 (y).k, .int .i64 (y).n, .string (y).s]] w fun e w' => e = .returned (outR (H.atG x y)) ∧ Up w w' := by
  unfold HM.atG
  rcases ex : plainS H x with ⟨pk, pn, ps⟩
  rcases ey : plainS H y with ⟨qk, qn, qs⟩
  rw [ex] at hs
  dsimp only at hs ⊢
  by_cases h0 : pk = 0
  · subst h0
    exact (s_at0 rb _ _ _ _ _ _ H rs own w h hw _ _ _ _ _ ex ey).mono (by intro e w' h; simpa using h)
  · by_cases h1 : pk = 1
    · subst h1
      exact (s_at1 rb _ _ _ _ _ _ H rs own w h hw _ _ _ _ _ ex ey).mono (by intro e w' h; simpa using h)
    · have b0 : (pk == 0) = false := by simpa using h0
      have b1 : (pk == 1) = false := by simpa using h1
      have e5 : plainS H ⟨pk, pn, ps⟩ = ⟨pk, pn, ps⟩ := by rw [← ex]; exact plain_twice H x
      rw [if_neg (by simp [h0, h1])]
      by_cases h4 : qk = 4
      · subst h4
        rw [if_pos rfl]
        exact s_at_key rb _ _ _ _ _ _ H rs own w h hw _ _ _ _ _ b0 b1 (by rw [e5]; exact hs) hB ex ey
      · by_cases h3 : qk = 3
        · subst h3
          rw [if_neg (by decide), if_neg (by simp)]
          by_cases hp : pk = 4
          · subst hp
            rw [if_pos rfl]
            unfold runeAt
            by_cases hm : 0 ≤ qn
            · rw [if_pos hm]
              obtain ⟨M, rfl⟩ := Int.eq_ofNat_of_zero_le hm
              rw [Int.toNat_natCast]
              cases hx : (runesOf ps.data.toList)[M]? with
              | some r => exact s_at_in rb _ _ _ _ _ _ H rs own w h hw _ _ _ _ _ hs hx ex ey
              | none => exact s_at_high rb _ _ _ _ _ _ H rs own w h hw _ _ _ _ hs hm (by have := List.getElem?_eq_none_iff.1 hx; omega) ex ey
            · rw [if_neg hm]
              exact s_at_low rb _ _ _ _ _ _ H rs own w h hw _ _ _ _ hs (by omega) ex ey
          · have b4 : (pk == 4) = false := by simpa using hp
            rw [if_neg hp]
            by_cases h5 : pk = 5
            · subst h5
              rw [if_pos rfl]
              have ht := (there_of_plain ex).1
              obtain ⟨hn, t, hti⟩ := there_things ht
              have ha := isArr_kind ht hti
              rw [hti]
              dsimp only
              by_cases hk : t.kind = 2
              · rw [if_pos hk]
                have ha2 : H.isArr 5 pn = true := by rw [ha, hk]; rfl
                obtain ⟨N, rfl⟩ := Int.eq_ofNat_of_zero_le hn
                rw [Int.toNat_natCast] at hti
                unfold atVal
                by_cases hm : 0 ≤ qn
                · rw [if_pos hm]
                  obtain ⟨M, rfl⟩ := Int.eq_ofNat_of_zero_le hm
                  rw [Int.toNat_natCast]
                  cases hy : t.vals[M]? with
                  | some z => exact s_at_arr_in rb _ _ _ _ _ _ H rs own w h hw N _ _ t hti ha2 M z hy ex ey
                  | none => exact s_at_arr_high rb _ _ _ _ _ _ H rs own w h hw N _ _ t hti ha2 _ hm (by have := List.getElem?_eq_none_iff.1 hy; omega) ex ey
                · rw [if_neg hm]
                  exact s_at_arr_low rb _ _ _ _ _ _ H rs own w h hw N _ _ t hti ha2 _ (by omega) ex ey
              · rw [if_neg hk]
                exact s_at_none rb _ _ _ _ _ _ H rs own w h hw _ _ _ _ _ b0 b1 b4 (by rw [ha]; simpa using hk) ex ey
            · rw [if_neg h5]
              exact s_at_none rb _ _ _ _ _ _ H rs own w h hw _ _ _ _ _ b0 b1 b4 (isArr_no h5) ex ey
        · rw [if_neg h4, if_pos h3]
          exact s_at_index rb _ _ _ _ _ _ H rs own w h hw _ _ _ _ _ _ b0 b1 (by simpa using h4) (by simpa using h3) ex ey

theorem plain_five {H : HM} {k n : Int} {s : ByteArray} : (plainS H ⟨k, n, s⟩).k = 5 ↔ (k = 5 ∧ H.there n = true) := by
  constructor
  · intro h
    have h2 := (plainS_ref h).2
    refine ⟨?_, h2⟩
    unfold plainS at h
    dsimp only at h
    repeat' split at h
    all_goals simp_all
  · rintro ⟨rfl, h⟩
    simp [plainS, h]

set_option maxHeartbeats 1600000 in
theorem s_has (rb : Nat) (H : HM) (rs : List RT) (own : Own) (k n : Int) (s key : ByteArray) (w : World) (h : RRep w rb H rs own) (hw : H.Wf) (hB : H.Behind) :
    Calls Tryz.prog 27 #[.pointer (some ⟨rb, 0, none⟩), .agg #[.int .i64 k, .int .i64 n, .string s], .string key] w fun e w' => e = .returned (.tuple #[.bool (H.has k n key).1, outV ⟨0, 0, ⟨#[]⟩⟩ (H.has k n key).2.1 (H.has k n key).2.2]) ∧ Up w w' := by
  have HR := Lib.hid h
  have HW := Lib.hid hw
  have HB := Lib.hid hB
  unfold HM.has
  rcases ex : plainS H ⟨k, n, s⟩ with ⟨pk, pn, ps⟩
  have HP := Lib.hid ex
  by_cases h5 : k = 5 ∧ H.there n = true
  · rw [if_pos h5]
    have e5 := plain_five (s := s) |>.2 h5
    rw [ex] at e5
    dsimp only at e5
    subst e5
    obtain rfl := (there_of_plain ex).2
    have ht := h5.2
    obtain ⟨h0, t, hti⟩ := there_things ht
    have ha := isArr_kind ht hti
    by_cases hk : t.kind = 2
    · have HA := Lib.hid (show H.isArr 5 pn = true by rw [ha, hk]; rfl)
      have hpr : t.proto = -1 := by
        rcases hw.things _ _ hti with ⟨_, _, h3⟩ | ⟨h1, _⟩
        · exact h3
        · omega
      have HF := Lib.hid (show (H.find key (pn + 1).toNat pn).isSome = (key.toList == lengthS) by rw [find_arr key h0 hti hk hpr]; split <;> simp_all)
      dsimp only
      rw [HF.out]
      unfold lengthS
      clear h hw hB ex h5 ht hti hk ha h0 hpr
      go_enter Tryz.func27, Tryz.ntmps27
      go_wp2_with (first | (go_at_call 38; refine (s_sane rb H rs own _ _ _ _ (HR.out.up uq) HW.out).mono ?_; rintro e w' ⟨rfl, hu⟩; simp only [HP.out]; have s0 : w'.heap[w.heap.size + 1]? = some (.cells #[.int .i64 0, .int .i64 0, .string ⟨#[]⟩, .string ⟨#[]⟩, .int .i64 0] 56 (0, 0)) := hu.get (alloc_at _ _ _ (by simp)); have B1 := Lib.hid s0; have b0 := cell_of s0 0; have g0 := ice_of s0 0; have b1 := cell_of s0 1; have g1 := ice_of s0 1; have b2 := cell_of s0 2; have g2 := ice_of s0 2; have b3 := cell_of s0 3; have g3 := ice_of s0 3; have b4 := cell_of s0 4; have g4 := ice_of s0 4; have b9 := lt_of_heap s0; (try simp only [World.size_alloc, List.getElem?_toArray, List.getElem?_cons_zero, List.getElem?_cons_succ] at b0 b1 b2 b3 b4 g0 g1 g2 g3 g4 b9); clear s0) | (go_at_call 52; refine (s_array rb H rs own _ _ _ _ (HR.out.up uq) HW.out).mono ?_; rintro e w2 ⟨rfl, hu2⟩; rw [HA.out]; have s0 := hu2.get (Up.get (w := w') uq B1.out); have b0 := cell_of s0 0; have g0 := ice_of s0 0; have b1 := cell_of s0 1; have g1 := ice_of s0 1; have b2 := cell_of s0 2; have g2 := ice_of s0 2; have b3 := cell_of s0 3; have g3 := ice_of s0 3; have b4 := cell_of s0 4; have g4 := ice_of s0 4; have b9 := lt_of_heap s0; (try simp only [World.size_alloc, List.getElem?_toArray, List.getElem?_cons_zero, List.getElem?_cons_succ] at b0 b1 b2 b3 b4 g0 g1 g2 g3 g4 b9); clear s0; have s0 := hu2.get (Up.get uq (alloc_get w' _)); have a0 := cell_of s0 0; have a1 := cell_of s0 1; have a2 := cell_of s0 2; have f0 := ice_of s0 0; have f1 := ice_of s0 1; have f2 := ice_of s0 2; have a4 := lt_of_heap s0; (try simp only [World.size_alloc, List.getElem?_toArray, List.getElem?_cons_zero, List.getElem?_cons_succ] at a0 a1 a2 f0 f1 f2 a4); clear s0))
      all_goals (refine bodyPost_eq (by (simp [results, Tryz.results27, go_sem, *]) <;> rfl) rfl rfl ⟨rfl, uq⟩)
    · have hk2 := hk
      have HA := Lib.hid (show H.isArr 5 pn = false by rw [ha]; simpa using hk)
      have hlook : Hid (-1 ≤ pn ∧ H.Look pn) := ⟨by omega, .inr ⟨t, hti, hk2⟩⟩
      obtain ⟨o, ho⟩ : ∃ o, Hid (H.find key (pn + 1).toNat pn = o) := ⟨_, rfl⟩
      dsimp only
      rw [ho.out]
      clear h hw hB ex h5 ht hti hk hk2 ha h0
      go_enter Tryz.func27, Tryz.ntmps27
      go_wp2_with (first | (go_at_call 38; refine (s_sane rb H rs own _ _ _ _ (HR.out.up uq) HW.out).mono ?_; rintro e w' ⟨rfl, hu⟩; simp only [HP.out]; have s0 : w'.heap[w.heap.size + 1]? = some (.cells #[.int .i64 0, .int .i64 0, .string ⟨#[]⟩, .string ⟨#[]⟩, .int .i64 0] 56 (0, 0)) := hu.get (alloc_at _ _ _ (by simp)); have B1 := Lib.hid s0; have b0 := cell_of s0 0; have g0 := ice_of s0 0; have b1 := cell_of s0 1; have g1 := ice_of s0 1; have b2 := cell_of s0 2; have g2 := ice_of s0 2; have b3 := cell_of s0 3; have g3 := ice_of s0 3; have b4 := cell_of s0 4; have g4 := ice_of s0 4; have b9 := lt_of_heap s0; (try simp only [World.size_alloc, List.getElem?_toArray, List.getElem?_cons_zero, List.getElem?_cons_succ] at b0 b1 b2 b3 b4 g0 g1 g2 g3 g4 b9); clear s0) | (go_at_call 52; refine (s_array rb H rs own _ _ _ _ (HR.out.up uq) HW.out).mono ?_; rintro e w2 ⟨rfl, hu2⟩; rw [HA.out]; have s0 := hu2.get (Up.get (w := w') uq B1.out); have b0 := cell_of s0 0; have g0 := ice_of s0 0; have b1 := cell_of s0 1; have g1 := ice_of s0 1; have b2 := cell_of s0 2; have g2 := ice_of s0 2; have b3 := cell_of s0 3; have g3 := ice_of s0 3; have b4 := cell_of s0 4; have g4 := ice_of s0 4; have b9 := lt_of_heap s0; (try simp only [World.size_alloc, List.getElem?_toArray, List.getElem?_cons_zero, List.getElem?_cons_succ] at b0 b1 b2 b3 b4 g0 g1 g2 g3 g4 b9); clear s0; have s0 := hu2.get (Up.get uq (alloc_get w' _)); have a0 := cell_of s0 0; have a1 := cell_of s0 1; have a2 := cell_of s0 2; have f0 := ice_of s0 0; have f1 := ice_of s0 1; have f2 := ice_of s0 2; have a4 := lt_of_heap s0; (try simp only [World.size_alloc, List.getElem?_toArray, List.getElem?_cons_zero, List.getElem?_cons_succ] at a0 a1 a2 f0 f1 f2 a4); clear s0) | (go_at_call 53; refine (s_find rb H rs own _ _ _ (HR.out.up uq) HW.out HB.out hlook.out.1 hlook.out.2).mono ?_; rintro e w3 ⟨rfl, hu3⟩; rw [ho.out]; have s0 := hu3.get (Up.get (w := w') uq B1.out); have b0 := cell_of s0 0; have g0 := ice_of s0 0; have b1 := cell_of s0 1; have g1 := ice_of s0 1; have b2 := cell_of s0 2; have g2 := ice_of s0 2; have b3 := cell_of s0 3; have g3 := ice_of s0 3; have b4 := cell_of s0 4; have g4 := ice_of s0 4; have b9 := lt_of_heap s0; (try simp only [World.size_alloc, List.getElem?_toArray, List.getElem?_cons_zero, List.getElem?_cons_succ] at b0 b1 b2 b3 b4 g0 g1 g2 g3 g4 b9); clear s0; have s0 := hu3.get (Up.get uq (alloc_get w' _)); have a0 := cell_of s0 0; have a1 := cell_of s0 1; have a2 := cell_of s0 2; have f0 := ice_of s0 0; have f1 := ice_of s0 1; have f2 := ice_of s0 2; have a4 := lt_of_heap s0; (try simp only [World.size_alloc, List.getElem?_toArray, List.getElem?_cons_zero, List.getElem?_cons_succ] at a0 a1 a2 f0 f1 f2 a4); clear s0))
      all_goals (refine bodyPost_eq (by (simp [results, Tryz.results27, go_sem, *]) <;> rfl) rfl rfl ⟨rfl, uq⟩)
  · rw [if_neg h5]
    have hp5 : (pk != 5) = true := by
      have := mt (plain_five (s := s)).1 h5
      rw [ex] at this
      simpa using this
    clear h hw hB ex h5
    go_enter Tryz.func27, Tryz.ntmps27
    go_wp2_with (first | (go_at_call 38; refine (s_sane rb H rs own _ _ _ _ (HR.out.up uq) HW.out).mono ?_; rintro e w' ⟨rfl, hu⟩; simp only [HP.out]; have s0 : w'.heap[w.heap.size + 1]? = some (.cells #[.int .i64 0, .int .i64 0, .string ⟨#[]⟩, .string ⟨#[]⟩, .int .i64 0] 56 (0, 0)) := hu.get (alloc_at _ _ _ (by simp)); have B1 := Lib.hid s0; have b0 := cell_of s0 0; have g0 := ice_of s0 0; have b1 := cell_of s0 1; have g1 := ice_of s0 1; have b2 := cell_of s0 2; have g2 := ice_of s0 2; have b3 := cell_of s0 3; have g3 := ice_of s0 3; have b4 := cell_of s0 4; have g4 := ice_of s0 4; have b9 := lt_of_heap s0; (try simp only [World.size_alloc, List.getElem?_toArray, List.getElem?_cons_zero, List.getElem?_cons_succ] at b0 b1 b2 b3 b4 g0 g1 g2 g3 g4 b9); clear s0) | (go_at_call 49; refine (rThrow_any _ _).mono ?_; rintro e w3 ⟨rfl, hu3⟩; have s0 := hu3.get (Up.get (w := w') uq B1.out); have b0 := cell_of s0 0; have g0 := ice_of s0 0; have b1 := cell_of s0 1; have g1 := ice_of s0 1; have b2 := cell_of s0 2; have g2 := ice_of s0 2; have b3 := cell_of s0 3; have g3 := ice_of s0 3; have b4 := cell_of s0 4; have g4 := ice_of s0 4; have b9 := lt_of_heap s0; (try simp only [World.size_alloc, List.getElem?_toArray, List.getElem?_cons_zero, List.getElem?_cons_succ] at b0 b1 b2 b3 b4 g0 g1 g2 g3 g4 b9); clear s0))
    all_goals (refine bodyPost_eq (by (simp [results, Tryz.results27, go_sem, *]) <;> rfl) rfl rfl ⟨rfl, uq⟩)

def functionT : ByteArray := ⟨#[102, 117, 110, 99, 116, 105, 111, 110]⟩
/-- what Typeof answers -/
def HM.typeofG (H : HM) (x : Val) : ByteArray := if (plainS H x).k = 5 ∧ (H.kindOf (plainS H x).n = 3 ∨ H.kindOf (plainS H x).n = 4) then functionT else typeofS (plainS H x).k
theorem kindOf_of {H : HM} (hw : H.Wf) {n : Int} (h : H.there n = true) : H.kindOf n = 1 ∨ H.kindOf n = 2 ∨ H.kindOf n = 3 ∨ H.kindOf n = 4 := by
  obtain ⟨_, t, ht⟩ := there_things h
  unfold HM.kindOf
  rw [if_pos h, ht]
  rcases hw.things _ _ ht with ⟨h1, _⟩ | ⟨h1, _⟩
  · exact .inr (.inl h1)
  · rcases h1 with h1 | h1 | h1
    · exact .inl h1
    · exact .inr (.inr (.inl h1))
    · exact .inr (.inr (.inr h1))

set_option maxHeartbeats 1600000 in
theorem s_typeof (rb : Nat) (H : HM) (rs : List RT) (own : Own) (k n : Int) (s : ByteArray) (w : World) (h : RRep w rb H rs own) (hw : H.Wf) :
    Calls Tryz.prog 34 #[.pointer (some ⟨rb, 0, none⟩), .agg #[.int .i64 k, .int .i64 n, .string s]] w fun e w' => e = .returned (.string (H.typeofG ⟨k, n, s⟩)) ∧ Up w w' := by
  have HR := Lib.hid h
  have HW := Lib.hid hw
  unfold HM.typeofG
  have hk := plainS_kinds H ⟨k, n, s⟩
  rcases ex : plainS H ⟨k, n, s⟩ with ⟨pk, pn, ps⟩
  rw [ex] at hk
  dsimp only at hk ⊢
  have HP := Lib.hid ex
  rcases hk with rfl | rfl | rfl | rfl | rfl | rfl
  iterate 5
    · rw [if_neg (by simp)]
      clear h hw ex
      go_enter Tryz.func34, Tryz.ntmps34
      go_wp2_with (first | (go_at_call 38; refine (s_sane rb H rs own _ _ _ _ (HR.out.up uq) HW.out).mono ?_; rintro e w' ⟨rfl, hu⟩; simp only [HP.out]))
      all_goals (refine bodyPost_eq (by (simp [results, Tryz.results34, go_sem, *]) <;> rfl) rfl rfl ⟨rfl, uq⟩)
  · have hq := kindOf_of hw (there_of_plain ex).1
    rcases hq with hq | hq | hq | hq
    all_goals
      have HQ := Lib.hid hq
      rw [hq]
      clear h hw ex hq
      go_enter Tryz.func34, Tryz.ntmps34
      go_wp2_with (first | (go_at_call 38; refine (s_sane rb H rs own _ _ _ _ (HR.out.up uq) HW.out).mono ?_; rintro e w' ⟨rfl, hu⟩; simp only [HP.out]) | (go_at_call 15; refine (s_kind rb H rs own _ _ (HR.out.up uq) HW.out).mono ?_; rintro e w2 ⟨rfl, rfl⟩; rw [HQ.out]))
      all_goals (refine bodyPost_eq (by (simp [results, Tryz.results34, go_sem, *]) <;> rfl) rfl rfl ⟨rfl, uq⟩)

end Go.Proofs.YtmbipadiaggolaaGreatDoor

/- The document's heap behind a change: how it is laid anew. -/
namespace Go.Proofs.YtmbipadiaggolaaGreatDoor
open Go.RowKit
set_option linter.unusedSimpArgs false

theorem Row.set {w : World} {own : Own} {m : Nat × Nat} {e : TypeId} {size g n cap : Nat} {xs : List Value} (h : Row w own m e size (.slice (some ⟨g, 0, none⟩) n cap) n xs) (j : Nat) (u : Value) :
    Row (w.setCell ⟨g, j, none⟩ u) own m e size (.slice (some ⟨g, 0, none⟩) n cap) n (xs.set j u) := by
  obtain ⟨⟨h1, h2⟩, h3⟩ := h
  refine ⟨⟨by rw [List.length_set]; exact h1, ?_⟩, h3⟩
  rcases h2 with ⟨h2, _⟩ | ⟨g', cap', cur, hv, hg, hc, ha, hb, hs, ht⟩
  · cases h2
  · cases hv
    refine .inr ⟨g, cap, cur.setIfInBounds j u, rfl, Nat.zero_le _, setCell_block hc u, ha, hb, by simpa using hs, ?_⟩
    rw [Array.toList_setIfInBounds, List.take_set, ht]

theorem flat_set {α : Type} (f : α → List Value) (c : Nat) (hf : ∀ x, (f x).length = c) : ∀ (l : List α) (i j : Nat) (x x' : α) (u : Value), l[i]? = some x → j < c → f x' = (f x).set j u → (l.flatMap f).set (i * c + j) u = (l.set i x').flatMap f
  | [], i, j, x, x', u, h, _, _ => by simp at h
  | y :: l, 0, j, x, x', u, h, hj, e => by
    simp at h
    subst h
    rw [List.set_cons_zero, List.flatMap_cons, List.flatMap_cons, Nat.zero_mul, Nat.zero_add, List.set_append_left _ _ (by rw [hf]; exact hj), e]
  | y :: l, i + 1, j, x, x', u, h, hj, e => by
    rw [List.set_cons_succ, List.flatMap_cons, List.flatMap_cons, List.set_append_right _ _ (by rw [hf, Nat.add_mul]; omega), ← flat_set f c hf l i j x x' u (by simpa using h) hj e]
    congr 2
    rw [hf, Nat.add_mul]
    omega

theorem RTIs.keep {w w' : World} {own own' : Own} {i : Nat} {t : Thing} {r : RT} (h : RTIs w own i t r) (hk : ∀ b m, own b = some m → m.1 = i + 1 → w'.heap[b]? = w.heap[b]? ∧ own' b = own b) : RTIs w' own' i t r :=
  ⟨h.kind, h.proto, h.slots.keep fun b hb => hk b _ hb rfl, h.vals.keep fun b hb => hk b _ hb rfl⟩

/-- one thing has turned, in its own blocks, in new ones and in the row of things -/
theorem RRep.turned {w w' : World} {rb : Nat} {H : HM} {rs : List RT} {own own' : Own} {i : Nat} {t t' : Thing} {r r' : RT} {tv : Value} (h : RRep w rb H rs own) (hk : Kept (fun b => Of own i b ∨ own b = some (0, 1)) w w')
    (hext : ∀ b, b < w.heap.size → own' b = own b) (hnew : ∀ b m, own' b = some m → b < w'.heap.size ∧ (w.heap.size ≤ b → m.1 = i + 1)) (ht : H.things[i]? = some t) (hr : rs[i]? = some r)
    (hhd : w.heap[rb]? = some (.cells #[.int .i64 H.room, .int .i64 H.used, tv] 40 (0, 0))) (hrow : Row w' own' (0, 1) 85 4 tv (rs.set i r').length ((rs.set i r').flatMap RT.cells)) (hri : RTIs w' own' i t' r') :
    RRep w' rb ⟨H.room, H.used, H.things.set i t'⟩ (rs.set i r') own' ∧ Mut own own' w w' := by
  have hother : ∀ b m, own b = some m → m.1 ≠ i + 1 → m ≠ (0, 1) → w'.heap[b]? = w.heap[b]? ∧ own' b = own b := fun b m hm hne hne2 =>
    ⟨hk.block b (h.lt b m hm) (fun e => by
      rcases e with ⟨m', h1, h2⟩ | e
      · rw [hm] at h1; cases h1; exact hne h2
      · rw [hm] at e; cases e; exact hne2 rfl), hext b (h.lt b m hm)⟩
  constructor
  · exact {
      lt := fun b m hm => (hnew b m hm).1
      mine := by rw [(hother rb _ h.mine (by simp) (by simp)).2]; exact h.mine
      head := ⟨tv, by rw [(hother rb _ h.mine (by simp) (by simp)).1]; exact hhd, hrow⟩
      len := by simp [h.len]
      things := fun j u hu => by
        rcases getSet _ _ _ _ _ hu with ⟨rfl, rfl⟩ | ⟨hne, hu⟩
        · have hj : j < rs.length := (List.getElem?_eq_some_iff.1 hr).1
          exact ⟨r', by rw [List.getElem?_set]; simp [hj], hri⟩
        · obtain ⟨x, h1, h2⟩ := h.things j u hu
          refine ⟨x, by rw [List.getElem?_set, if_neg (fun e => hne e.symm)]; exact h1, h2.keep fun b m hm hmj => hother b m hm (by omega) (fun e => by rw [e] at hmj; simp at hmj)⟩ }
  · exact ⟨hk.os, hk.tape, hk.output, hk.size, fun b hb' hn => hk.block b hb' (fun e => by
      rcases e with ⟨m, h1, _⟩ | e
      · rw [hn] at h1; cases h1
      · rw [hn] at e; cases e), hext⟩

/-- a cell is taken -/
theorem RRep.bump {w : World} {rb : Nat} {H : HM} {rs : List RT} {own : Own} (h : RRep w rb H rs own) :
    RRep (w.setCell ⟨rb, 1, none⟩ (.int .i64 (H.used + 1))) rb ⟨H.room, H.used + 1, H.things⟩ rs own ∧ Mut own own w (w.setCell ⟨rb, 1, none⟩ (.int .i64 (H.used + 1))) := by
  have hot : ∀ b, b ≠ rb → (w.setCell ⟨rb, 1, none⟩ (.int .i64 (H.used + 1))).heap[b]? = w.heap[b]? := fun b hne => setCell_other hne _
  have hm : ∀ b m, own b = some m → m ≠ (0, 0) → b ≠ rb := fun b m hb hne e => by subst e; rw [h.mine] at hb; cases hb; exact hne rfl
  refine ⟨{ lt := fun b m hb => by rw [setCell_size]; exact h.lt b m hb, mine := h.mine, head := ?_, len := h.len, things := fun i t ht => ?_ }, ⟨rfl, rfl, rfl, by rw [setCell_size]; exact Nat.le_refl _, fun b hb hn => hot b (fun e => by subst e; rw [h.mine] at hn; cases hn), fun _ _ => rfl⟩⟩
  · obtain ⟨tv, h1, h2⟩ := h.head
    have h3 := setCell_block (i := 1) h1 (.int .i64 (H.used + 1))
    exact ⟨tv, by simpa using h3, h2.keep fun b hb => ⟨hot b (hm b _ hb (by simp)), rfl⟩⟩
  · obtain ⟨r, h1, h2⟩ := h.things i t ht
    exact ⟨r, h1, h2.keep fun b m hb hmi => ⟨hot b (hm b _ hb (fun e => by rw [e] at hmi; simp at hmi)), rfl⟩⟩

theorem RT.set2 (r : RT) (v : Value) : RT.cells ⟨r.kind, r.proto, v, r.vv⟩ = (RT.cells r).set 2 v := rfl
theorem RT.set3 (r : RT) (v : Value) : RT.cells ⟨r.kind, r.proto, r.sv, v⟩ = (RT.cells r).set 3 v := rfl

/-- a row of a thing's has one element more: its values (j = 3) -/
theorem RRep.valued {W w4 : World} {rb : Nat} {H : HM} {rs : List RT} {own : Own} {i : Nat} {t : Thing} {r : RT} {tg cap : Nat} {vv nv : Value} {x : Val} (h : RRep W rb H rs own) (ht : H.things[i]? = some t) (hr : rs[i]? = some r)
    (hhd : W.heap[rb]? = some (.cells #[.int .i64 H.room, .int .i64 H.used, .slice (some ⟨tg, 0, none⟩) H.things.length cap] 40 (0, 0)))
    (htg : Row W own (0, 1) 85 4 (.slice (some ⟨tg, 0, none⟩) H.things.length cap) H.things.length (rs.flatMap RT.cells)) (hi : RTIs W own i t r) (hvv : r.vv = vv)
    (hown : w4.ownsRow 0 34 3 nv (t.vals.length + 1) (t.vals.flatMap Val.cells ++ x.cells)) (hgrow : W.grownBy w4 vv.ownBlock)
    (hblk : nv.ownBlock = vv.ownBlock ∨ ∃ g, nv.ownBlock = some g ∧ W.heap.size ≤ g) :
    ∃ own', RRep (w4.setCell ⟨tg, i * 4 + 3, none⟩ nv) rb ⟨H.room, H.used, H.things.set i ⟨t.kind, t.proto, t.slots, t.vals ++ [x]⟩⟩ (rs.set i ⟨r.kind, r.proto, r.sv, nv⟩) own' ∧ Mut own own' W (w4.setCell ⟨tg, i * 4 + 3, none⟩ nv) := by
  subst hvv
  have htgo : own tg = some (0, 1) := htg.2 tg rfl
  have htl := h.lt _ _ htgo
  have hin : ∀ g, nv.ownBlock = some g → own g = some (i + 1, 1) ∨ W.heap.size ≤ g := fun g hg => by
    rcases hblk with hk | ⟨g', hk, hk'⟩
    · exact .inl (hi.vals.2 g (by rw [← hk]; exact hg))
    · rw [hk] at hg; cases hg; exact .inr hk'
  have hne : nv.ownBlock ≠ some tg := fun e => by
    rcases hin tg e with h' | h'
    · rw [htgo] at h'; cases h'
    · omega
  have hold : r.vv.ownBlock ≠ some tg := fun e => by have := hi.vals.2 tg e; rw [htgo] at this; cases this
  have hw4 := hgrow.size
  refine ⟨fun c => if nv.ownBlock = some c then some (i + 1, 1) else own c, ?_⟩
  have hext : ∀ c, c < W.heap.size → (if nv.ownBlock = some c then some (i + 1, 1) else own c) = own c := fun c hc => by
    by_cases hg : nv.ownBlock = some c
    · rw [if_pos hg]
      rcases hin c hg with h' | h'
      · exact h'.symm
      · omega
    · rw [if_neg hg]
  have hrow4 : Row w4 own (0, 1) 85 4 (.slice (some ⟨tg, 0, none⟩) H.things.length cap) H.things.length (rs.flatMap RT.cells) := htg.keep fun b hb => ⟨hgrow.block b (h.lt b _ hb) (fun e => by have := hi.vals.2 b e.symm; rw [hb] at this; cases this), rfl⟩
  refine RRep.turned h ?_ hext ?_ ht hr hhd ?_ ?_
  · exact ((Kept.refl _ W).grow hgrow fun k hk => .inl (.inl ⟨_, hi.vals.2 k hk, rfl⟩)).setCell (.inl (.inr htgo)) _
  · intro c m hm
    have hm : (if nv.ownBlock = some c then some (i + 1, 1) else own c) = some m := hm
    rw [setCell_size]
    by_cases hg : nv.ownBlock = some c
    · rw [if_pos hg] at hm
      cases hm
      exact ⟨ownBlock_lt hown hg, fun _ => rfl⟩
    · rw [if_neg hg] at hm
      have := h.lt c m hm
      exact ⟨Nat.lt_of_lt_of_le this hw4, fun h' => by omega⟩
  · have h5 := hrow4.set (i * 4 + 3) nv
    rw [flat_set RT.cells 4 (fun _ => rfl) rs i 3 r ⟨r.kind, r.proto, r.sv, nv⟩ nv hr (by omega) (RT.set3 r nv)] at h5
    have h6 := h5.keep (own' := fun c => if nv.ownBlock = some c then some (i + 1, 1) else own c) fun b hb => ⟨rfl, hext b (h.lt b _ hb)⟩
    have e : (rs.set i ⟨r.kind, r.proto, r.sv, nv⟩).length = H.things.length := by rw [List.length_set, h.len]
    rw [e]
    exact h6
  · refine ⟨hi.kind, hi.proto, ?_, ?_⟩
    · refine hi.slots.keep fun b hb => ⟨?_, hext b (h.lt b _ hb)⟩
      rw [setCell_other (fun e => by subst e; rw [htgo] at hb; cases hb)]
      exact hgrow.block b (h.lt b _ hb) (fun e => by have := hi.vals.2 b e.symm; rw [hb] at this; cases this)
    · refine ⟨ownsRow_keep ?_ fun g hg => setCell_other (fun e => by subst e; exact hne hg) _, fun g hg => by
        show (if _ then _ else _) = _
        rw [if_pos hg]⟩
      simpa using hown

/-- its members (j = 2) -/
theorem RRep.slotted {W w4 : World} {rb : Nat} {H : HM} {rs : List RT} {own : Own} {i : Nat} {t : Thing} {r : RT} {tg cap : Nat} {vv nv : Value} {x : ByteArray × Val} (h : RRep W rb H rs own) (ht : H.things[i]? = some t) (hr : rs[i]? = some r)
    (hhd : W.heap[rb]? = some (.cells #[.int .i64 H.room, .int .i64 H.used, .slice (some ⟨tg, 0, none⟩) H.things.length cap] 40 (0, 0)))
    (htg : Row W own (0, 1) 85 4 (.slice (some ⟨tg, 0, none⟩) H.things.length cap) H.things.length (rs.flatMap RT.cells)) (hi : RTIs W own i t r) (hvv : r.sv = vv)
    (hown : w4.ownsRow 0 112 4 nv (t.slots.length + 1) (t.slots.flatMap slotCells ++ slotCells x)) (hgrow : W.grownBy w4 vv.ownBlock)
    (hblk : nv.ownBlock = vv.ownBlock ∨ ∃ g, nv.ownBlock = some g ∧ W.heap.size ≤ g) :
    ∃ own', RRep (w4.setCell ⟨tg, i * 4 + 2, none⟩ nv) rb ⟨H.room, H.used, H.things.set i ⟨t.kind, t.proto, t.slots ++ [x], t.vals⟩⟩ (rs.set i ⟨r.kind, r.proto, nv, r.vv⟩) own' ∧ Mut own own' W (w4.setCell ⟨tg, i * 4 + 2, none⟩ nv) := by
  subst hvv
  have htgo : own tg = some (0, 1) := htg.2 tg rfl
  have htl := h.lt _ _ htgo
  have hin : ∀ g, nv.ownBlock = some g → own g = some (i + 1, 0) ∨ W.heap.size ≤ g := fun g hg => by
    rcases hblk with hk | ⟨g', hk, hk'⟩
    · exact .inl (hi.slots.2 g (by rw [← hk]; exact hg))
    · rw [hk] at hg; cases hg; exact .inr hk'
  have hne : nv.ownBlock ≠ some tg := fun e => by
    rcases hin tg e with h' | h'
    · rw [htgo] at h'; cases h'
    · omega
  have hold : r.sv.ownBlock ≠ some tg := fun e => by have := hi.slots.2 tg e; rw [htgo] at this; cases this
  have hw4 := hgrow.size
  refine ⟨fun c => if nv.ownBlock = some c then some (i + 1, 0) else own c, ?_⟩
  have hext : ∀ c, c < W.heap.size → (if nv.ownBlock = some c then some (i + 1, 0) else own c) = own c := fun c hc => by
    by_cases hg : nv.ownBlock = some c
    · rw [if_pos hg]
      rcases hin c hg with h' | h'
      · exact h'.symm
      · omega
    · rw [if_neg hg]
  have hrow4 : Row w4 own (0, 1) 85 4 (.slice (some ⟨tg, 0, none⟩) H.things.length cap) H.things.length (rs.flatMap RT.cells) := htg.keep fun b hb => ⟨hgrow.block b (h.lt b _ hb) (fun e => by have := hi.slots.2 b e.symm; rw [hb] at this; cases this), rfl⟩
  refine RRep.turned h ?_ hext ?_ ht hr hhd ?_ ?_
  · exact ((Kept.refl _ W).grow hgrow fun k hk => .inl (.inl ⟨_, hi.slots.2 k hk, rfl⟩)).setCell (.inl (.inr htgo)) _
  · intro c m hm
    have hm : (if nv.ownBlock = some c then some (i + 1, 0) else own c) = some m := hm
    rw [setCell_size]
    by_cases hg : nv.ownBlock = some c
    · rw [if_pos hg] at hm
      cases hm
      exact ⟨ownBlock_lt hown hg, fun _ => rfl⟩
    · rw [if_neg hg] at hm
      have := h.lt c m hm
      exact ⟨Nat.lt_of_lt_of_le this hw4, fun h' => by omega⟩
  · have h5 := hrow4.set (i * 4 + 2) nv
    rw [flat_set RT.cells 4 (fun _ => rfl) rs i 2 r ⟨r.kind, r.proto, nv, r.vv⟩ nv hr (by omega) (RT.set2 r nv)] at h5
    have h6 := h5.keep (own' := fun c => if nv.ownBlock = some c then some (i + 1, 0) else own c) fun b hb => ⟨rfl, hext b (h.lt b _ hb)⟩
    have e : (rs.set i ⟨r.kind, r.proto, nv, r.vv⟩).length = H.things.length := by rw [List.length_set, h.len]
    rw [e]
    exact h6
  · refine ⟨hi.kind, hi.proto, ?_, ?_⟩
    · refine ⟨ownsRow_keep ?_ fun g hg => setCell_other (fun e => by subst e; exact hne hg) _, fun g hg => by
        show (if _ then _ else _) = _
        rw [if_pos hg]⟩
      simpa using hown
    · refine hi.vals.keep fun b hb => ⟨?_, hext b (h.lt b _ hb)⟩
      rw [setCell_other (fun e => by subst e; rw [htgo] at hb; cases hb)]
      exact hgrow.block b (h.lt b _ hb) (fun e => by have := hi.slots.2 b e.symm; rw [hb] at this; cases this)

end Go.Proofs.YtmbipadiaggolaaGreatDoor

/- Walks: the document's heap: Push, Make. -/
namespace Go.Proofs.YtmbipadiaggolaaGreatDoor
open Go.RowKit
set_option linter.unusedSimpArgs false

/-- what a call that writes the document's heap leaves -/
def RWrote (rb : Nat) (H' : HM) (own : Own) (w : World) (v : Value) (e : Ending) (w' : World) : Prop :=
  e = .returned v ∧ ∃ rs' own', RRep w' rb H' rs' own' ∧ Mut own own' w w'

theorem RWrote.same {rb : Nat} {H : HM} {rs : List RT} {own : Own} {w w' : World} {v : Value} {e : Ending} (h : RRep w rb H rs own) (he : e = .returned v) (k : Up w w') : RWrote rb H own w v e w' := ⟨he, rs, own, h.up k, k.mut own⟩

theorem s_push_no (rb : Nat) (H : HM) (rs : List RT) (own : Own) (n : Int) (x : Val) (w : World) (h : RRep w rb H rs own) (hw : H.Wf) (hk : H.kindOf n ≠ 2) :
    Calls Tryz.prog 33 #[.pointer (some ⟨rb, 0, none⟩), .int .i64 n, .agg #[.int .i64 (x).k, .int .i64 (x).n, .string (x).s]] w fun e w' => e = .returned (.tuple #[.int .i64 (-1), .int .i64 1]) ∧ Up w w' := by
  have HR := Lib.hid h
  have HW := Lib.hid hw
  obtain ⟨q, hq⟩ : ∃ q, Hid (H.kindOf n = q) := ⟨_, rfl⟩
  have hq2 : (q != 2) = true := by rw [hq.out] at hk; simpa using hk
  clear h hw hk
  go_enter Tryz.func33, Tryz.ntmps33
  go_wp2_with (first | (go_at_call 15; refine (s_kind rb H rs own _ _ (HR.out.up uq) HW.out).mono ?_; rintro e w2 ⟨rfl, rfl⟩; rw [hq.out]))
  exact bodyPost_ret (v := .tuple #[.int .i64 (-1), .int .i64 1]) (by simp [results, Tryz.results33, go_sem, *]) rfl ⟨rfl, uq⟩

theorem s_push_full (rb : Nat) (H : HM) (rs : List RT) (own : Own) (n : Int) (x : Val) (w : World) (h : RRep w rb H rs own) (hw : H.Wf) (hk : H.kindOf n = 2) (hf : H.room ≤ H.used) :
    Calls Tryz.prog 33 #[.pointer (some ⟨rb, 0, none⟩), .int .i64 n, .agg #[.int .i64 (x).k, .int .i64 (x).n, .string (x).s]] w fun e w' => e = .returned (.tuple #[.int .i64 (-1), .int .i64 3]) ∧ Up w w' := by
  have HR := Lib.hid h
  have HW := Lib.hid hw
  have HK := Lib.hid hk
  obtain ⟨tv, h1, _⟩ := h.head
  have s0 := alloc_keep (o := .cells #[.int .i64 x.k, .int .i64 x.n, .string x.s] 34) h1
  have a0 := cell_of s0 0; have a1 := cell_of s0 1; have a2 := cell_of s0 2; have f0 := ice_of s0 0; have f1 := ice_of s0 1; have f2 := ice_of s0 2; have a4 := lt_of_heap s0; (try simp only [World.size_alloc, List.getElem?_toArray, List.getElem?_cons_zero, List.getElem?_cons_succ] at a0 a1 a2 f0 f1 f2 a4); clear s0
  have hrl := lt_of_heap h1
  have hd : decide (H.room ≤ H.used) = true := by simpa using hf
  clear h hw hk h1
  go_enter Tryz.func33, Tryz.ntmps33
  go_wp2_with (first | (go_at_call 15; refine (s_kind rb H rs own _ _ (HR.out.up uq) HW.out).mono ?_; rintro e w2 ⟨rfl, rfl⟩; rw [HK.out]))
  go_quiet (fail)
  go_wp2_with fail
  exact bodyPost_ret (v := .tuple #[.int .i64 (-1), .int .i64 3]) (by simp [results, Tryz.results33, go_sem, *]) rfl ⟨rfl, uq⟩

theorem Row.block {w : World} {own : Own} {m : Nat × Nat} {e : TypeId} {size g n cap : Nat} {xs : List Value} (h : Row w own m e size (.slice (some ⟨g, 0, none⟩) n cap) n xs) : ∃ cur, w.heap[g]? = some (.cells cur e (0, 0)) := by
  rcases h.1.2 with ⟨h2, _⟩ | ⟨g', cap', cur, hv, hg, hc, _⟩
  · cases h2
  · cases hv; exact ⟨cur, hc⟩

/-- a thing and the row in which it lies -/
theorem RRep.at2 {w : World} {rb : Nat} {H : HM} {rs : List RT} {own : Own} (h : RRep w rb H rs own) {i : Nat} {t : Thing} (ht : H.things[i]? = some t) :
    ∃ tg cap r, w.heap[rb]? = some (.cells #[.int .i64 H.room, .int .i64 H.used, .slice (some ⟨tg, 0, none⟩) H.things.length cap] 40 (0, 0)) ∧ rs[i]? = some r ∧
      w.cell? ⟨tg, i * 4 + 2, none⟩ = some r.sv ∧ w.cell? ⟨tg, i * 4 + 3, none⟩ = some r.vv ∧ RTIs w own i t r ∧ (∃ cur, w.heap[tg]? = some (.cells cur 85 (0, 0))) ∧
      Row w own (0, 1) 85 4 (.slice (some ⟨tg, 0, none⟩) H.things.length cap) H.things.length (rs.flatMap RT.cells) := by
  obtain ⟨tg, cap, r, h1, h2, h3, c0, c1, c2, c3, hi⟩ := h.at ht
  obtain ⟨sa, cap', g1, g2⟩ := h.row
  rw [h1] at g1
  simp only [Option.some.injEq, Obj.cells.injEq, Array.mk.injEq, List.cons.injEq, Value.slice.injEq, and_true, true_and] at g1
  obtain ⟨rfl, rfl⟩ := g1
  exact ⟨tg, cap, r, h1, h3, c2, c3, hi, g2.block, g2⟩

theorem Wf.more {H : HM} (h : H.Wf) (hf : H.used < H.room) : HM.Wf ⟨H.room, H.used + 1, H.things⟩ :=
  ⟨Int.le_trans h.room0 (by show H.used ≤ H.used + 1; omega), hf, h.roomM, Int.le_trans h.few (by show H.used ≤ H.used + 1; omega), h.things⟩

end Go.Proofs.YtmbipadiaggolaaGreatDoor
