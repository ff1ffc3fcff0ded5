import Derived.Test.YtmbipadiaggolaaGreatDoorOurs
import Derived.Outline
/- Walks: Show; known. -/
namespace Go.Proofs.YtmbipadiaggolaaGreatDoor
open Go.RowKit
set_option linter.unusedSimpArgs false
attribute [local go_sem] ta_aa ta_ao ta_an ta_oa ta_oo ta_on m_kind_a m_kind_o m_behind_a m_behind_o m_own_a m_own_o

set_option maxRecDepth 100000 in
set_option maxHeartbeats 4000000 in
theorem Show_text (q : ByteArray → ByteArray) (hv : Value) (H : HM) (tvs : List Value) (own : Own) (k n : Int) (s : ByteArray) (w : World) (h : HRep w hv H tvs own) (pn : Int) (ps : ByteArray) (hp : plainS H ⟨k, n, s⟩ = ⟨4, pn, ps⟩) :
    Calls Tryz.prog 12 #[hv, .agg #[.int .i64 k, .int .i64 n, .string s]] w fun e w' => e = .returned (.string (H.show q ⟨k, n, s⟩)) ∧ Up w w' := by
  have hs : Hid (H.show q ⟨k, n, s⟩ = ps) := by unfold HM.show; rw [hp]; exact if_pos rfl
  have hh := Lib.hid h
  have HP := Lib.hid hp
  clear h hp
  go_enter Tryz.func12, Tryz.ntmps12
  go_wp2_with (first | (go_at_call 35; refine (plain_any hv H tvs own _ _ _ _ (hh.out.up (by repeat (first | with_reducible exact Up.refl _ | with_reducible assumption | with_reducible refine Up.drewN ?_ _ | with_reducible refine Up.drew ?_ | with_reducible refine Up.alloc ?_ _ | with_reducible refine Up.setCell ?_ (by first | omega | (simp; done) | (simp; omega)) _ | with_reducible refine Up.trans ?_ (by assumption))))).mono ?_; rintro e w' ⟨rfl, hu⟩; simp only [HP.out]; obtain ⟨hc, hf⟩ := And.intro hu.cells hu.ice; have hz := hu.size; (try simp only [World.size_alloc] at hz); (try (have hz0 : w.heap.size < w'.heap.size := by omega))))
  go_ret
  exact ⟨ret_v (congrArg Value.string hs.out.symm), (by repeat (first | with_reducible exact Up.refl _ | with_reducible assumption | with_reducible refine Up.drewN ?_ _ | with_reducible refine Up.drew ?_ | with_reducible refine Up.alloc ?_ _ | with_reducible refine Up.setCell ?_ (by first | omega | (simp; done) | (simp; omega)) _ | with_reducible refine Up.trans ?_ (by assumption)))⟩

theorem HRep.form {w : World} {hv : Value} {H : HM} {tvs : List Value} {own : Own} (h : HRep w hv H tvs own) : ∃ a, hv = .pointer a := by
  cases h <;> exact ⟨_, rfl⟩

theorem say_empty {s : ByteArray} (h : (say [] s).1 = true) (hs : s.data.toList ≠ []) : (say [] s).2 ≠ [] := by
  unfold say at h ⊢
  simp only [laid] at h ⊢
  rw [if_pos h]
  simpa using hs

theorem itoa_ne (n : Int) : Lib.itoa n ≠ [] := by
  unfold Lib.itoa
  split
  · simp
  · unfold Lib.decDigits
    split <;> simp

theorem textOf_ne (x : Val) (h4 : ¬ x.k = 4) (h5 : ¬ x.k = 5) : (textOf x).data.toList ≠ [] := by
  have h : (plainV x).k ≠ 4 ∧ (plainV x).k ≠ 5 := by
    unfold plainV
    split
    · simp
    · split
      · simp
      · split
        · simp
        · first | (rw [if_neg h4, if_neg h5]; simp; done) | simp
  unfold textOf
  split
  · decide
  · split
    · split <;> decide
    · split
      · simpa using itoa_ne _
      · rw [if_neg h.1, if_neg h.2]; decide

theorem showV_top {H : HM} (q : ByteArray → ByteArray) (f : Nat) (v : Val) (h4 : ¬ v.k = 4) (h5 : v.k = 5 → H.there v.n = true) (h : (H.showV q (f + 1) v []).1 = true) : (H.showV q (f + 1) v []).2 ≠ [] := by
  cases hat : H.at v with
  | none =>
    rw [showV_none _ _ _ h4 hat] at h ⊢
    refine say_empty h (textOf_ne v h4 fun e => ?_)
    have h1 := at_none (k := v.k) (n := v.n) (s := v.s) hat e
    rw [h5 e] at h1; cases h1
  | some t =>
    by_cases k3 : t.kind = 3
    · rw [showV_function _ _ _ h4 hat k3] at h ⊢; exact say_empty h (by decide)
    · by_cases k4 : t.kind = 4
      · rw [showV_class _ _ _ h4 hat k4] at h ⊢; exact say_empty h (by decide)
      · rw [showV_thing _ _ _ h4 hat k3 k4]
        unfold shownThing
        dsimp only
        have h0 : laid [] (opens t) ≠ [] := by
          unfold opens
          split <;> decide
        have h1 := showParts_ne (showV_ne H q f) (partsOf t) h0
        split
        · exact laid_ne _ h1
        · exact h1

theorem ShowIn.start' {w W : World} {hv : Value} {H : HM} {tvs : List Value} {own : Own} {sb : Nat} (h : HRep w hv H tvs own) (hu : Up w W) (hz : sb = W.heap.size) : ShowIn w.heap.size sb hv H tvs own [] (W.alloc (.cells #[hv, .pointer none, .slice none 0 0] ShT)) := by
  subst hz
  exact ShowIn.start h hu

theorem plainS_there {H : HM} {x y : Val} (h : plainS H x = y) : y.k = 5 → H.there y.n = true := fun h5 => by
  subst h
  obtain ⟨h1, h2⟩ := plainS_ref h5
  rw [h1]; exact h2

set_option maxRecDepth 100000 in
set_option maxHeartbeats 4000000 in
theorem Show_else (q : ByteArray → ByteArray) (hv : Value) (H : HM) (tvs : List Value) (own : Own) (k n : Int) (s : ByteArray) (w : World) (h : HRep w hv H tvs own) (pk pn : Int) (ps : ByteArray) (hp : plainS H ⟨k, n, s⟩ = ⟨pk, pn, ps⟩) (hk : (pk == 4) = false)
    (hH : H.Okay q w.heap.size w) (hx : Okay q w.heap.size w ⟨pk, pn, ps⟩) :
    Calls Tryz.prog 12 #[hv, .agg #[.int .i64 k, .int .i64 n, .string s]] w fun e w' => e = .returned (.string (H.show q ⟨k, n, s⟩)) ∧ Up w w' := by
  obtain ⟨a, rfl⟩ := h.form
  have hh := Lib.hid h
  have HP := Lib.hid hp
  have HX := Lib.hid (And.intro hH hx)
  clear h hp hH hx
  have hsz : ∀ W : World, ∀ p1 p2 p3 v1 v2 v3, (((W.setCell p1 v1).setCell p2 v2).setCell p3 v3).heap.size = W.heap.size := fun W _ _ _ _ _ _ => by simp [setCell_size]
  have HZ := Lib.hid hsz
  clear hsz
  rcases hr : H.showV q 3 ⟨pk, pn, ps⟩ [] with ⟨b, l⟩
  have HR := Lib.hid hr
  have HS : Hid (H.show q ⟨k, n, s⟩ = if b = true then ⟨l.toArray⟩ else dotsS) := by
    unfold HM.show
    rw [HP.out, if_neg (by simpa using hk), hr]
    rfl
  have HL : Hid (b = true → l ≠ []) := fun hb => by
    have := showV_top q 2 ⟨pk, pn, ps⟩ (by simpa using hk) (plainS_there HP.out) (by rw [hr]; exact hb)
    rw [hr] at this
    exact this
  clear hr
  cases b
  · go_enter Tryz.func12, Tryz.ntmps12
    go_wp2_with (first | (go_at_call 35; refine (plain_any _ H tvs own _ _ _ _ (hh.out.up (by repeat (first | with_reducible exact Up.refl _ | with_reducible assumption | with_reducible refine Up.drewN ?_ _ | with_reducible refine Up.drew ?_ | with_reducible refine Up.alloc ?_ _ | with_reducible refine Up.setCell ?_ (by first | omega | (simp; done) | (simp; omega)) _ | with_reducible refine Up.trans ?_ (by assumption))))).mono ?_; rintro e w' ⟨rfl, hu⟩; simp only [HP.out]; obtain ⟨hc, hf⟩ := And.intro hu.cells hu.ice; have hz := hu.size; (try simp only [World.size_alloc] at hz); (try (have hz0 : w.heap.size < w'.heap.size := by omega))) | (go_at_call 36; refine (value_any q w.heap.size w'.heap.size _ H tvs own w HX.out.1 3 0 ⟨pk, pn, ps⟩ [] _ (by omega) (by omega) (ShowIn.start' hh.out (by repeat (first | with_reducible exact Up.refl _ | with_reducible assumption | with_reducible refine Up.drewN ?_ _ | with_reducible refine Up.drew ?_ | with_reducible refine Up.alloc ?_ _ | with_reducible refine Up.setCell ?_ (by first | omega | (simp; done) | (simp; omega)) _ | with_reducible refine Up.trans ?_ (by assumption))) (HZ.out _ _ _ _ _ _ _).symm) HX.out.2 (show Up w _ from (by repeat (first | with_reducible exact Up.refl _ | with_reducible assumption | with_reducible refine Up.drewN ?_ _ | with_reducible refine Up.drew ?_ | with_reducible refine Up.alloc ?_ _ | with_reducible refine Up.setCell ?_ (by first | omega | (simp; done) | (simp; omega)) _ | with_reducible refine Up.trans ?_ (by assumption))))).mono ?_; rintro e w2 ⟨rfl, hI, hS⟩; simp only [HR.out] at hI ⊢))
    go_ret
    have hb : Below w.heap.size w w2 := Below.trans (show Up w _ from (by repeat (first | with_reducible exact Up.refl _ | with_reducible assumption | with_reducible refine Up.drewN ?_ _ | with_reducible refine Up.drew ?_ | with_reducible refine Up.alloc ?_ _ | with_reducible refine Up.setCell ?_ (by first | omega | (simp; done) | (simp; omega)) _ | with_reducible refine Up.trans ?_ (by assumption)))) (hS.belowB (ShowIn.start' hh.out (by repeat (first | with_reducible exact Up.refl _ | with_reducible assumption | with_reducible refine Up.drewN ?_ _ | with_reducible refine Up.drew ?_ | with_reducible refine Up.alloc ?_ _ | with_reducible refine Up.setCell ?_ (by first | omega | (simp; done) | (simp; omega)) _ | with_reducible refine Up.trans ?_ (by assumption))) (HZ.out _ _ _ _ _ _ _).symm).at_)
    exact ⟨ret_v (congrArg Value.string HS.out.symm), hb⟩
  · go_enter Tryz.func12, Tryz.ntmps12
    go_wp2_with (first | (go_at_call 35; refine (plain_any _ H tvs own _ _ _ _ (hh.out.up (by repeat (first | with_reducible exact Up.refl _ | with_reducible assumption | with_reducible refine Up.drewN ?_ _ | with_reducible refine Up.drew ?_ | with_reducible refine Up.alloc ?_ _ | with_reducible refine Up.setCell ?_ (by first | omega | (simp; done) | (simp; omega)) _ | with_reducible refine Up.trans ?_ (by assumption))))).mono ?_; rintro e w' ⟨rfl, hu⟩; simp only [HP.out]; obtain ⟨hc, hf⟩ := And.intro hu.cells hu.ice; have hz := hu.size; (try simp only [World.size_alloc] at hz); (try (have hz0 : w.heap.size < w'.heap.size := by omega))) | (go_at_call 36; refine (value_any q w.heap.size w'.heap.size _ H tvs own w HX.out.1 3 0 ⟨pk, pn, ps⟩ [] _ (by omega) (by omega) (ShowIn.start' hh.out (by repeat (first | with_reducible exact Up.refl _ | with_reducible assumption | with_reducible refine Up.drewN ?_ _ | with_reducible refine Up.drew ?_ | with_reducible refine Up.alloc ?_ _ | with_reducible refine Up.setCell ?_ (by first | omega | (simp; done) | (simp; omega)) _ | with_reducible refine Up.trans ?_ (by assumption))) (HZ.out _ _ _ _ _ _ _).symm) HX.out.2 (show Up w _ from (by repeat (first | with_reducible exact Up.refl _ | with_reducible assumption | with_reducible refine Up.drewN ?_ _ | with_reducible refine Up.drew ?_ | with_reducible refine Up.alloc ?_ _ | with_reducible refine Up.setCell ?_ (by first | omega | (simp; done) | (simp; omega)) _ | with_reducible refine Up.trans ?_ (by assumption))))).mono ?_; rintro e w2 ⟨rfl, hI, hS⟩; simp only [HR.out] at hI ⊢) | (go_at_call 37; refine (String_any w.heap.size _ _ l _ hI.at_ (HL.out rfl)).mono ?_; rintro e w3 ⟨rfl, hb3⟩))
    go_ret
    have hb : Below w.heap.size w w3 := Below.trans (Below.trans (show Up w _ from (by repeat (first | with_reducible exact Up.refl _ | with_reducible assumption | with_reducible refine Up.drewN ?_ _ | with_reducible refine Up.drew ?_ | with_reducible refine Up.alloc ?_ _ | with_reducible refine Up.setCell ?_ (by first | omega | (simp; done) | (simp; omega)) _ | with_reducible refine Up.trans ?_ (by assumption)))) (hS.belowB (ShowIn.start' hh.out (by repeat (first | with_reducible exact Up.refl _ | with_reducible assumption | with_reducible refine Up.drewN ?_ _ | with_reducible refine Up.drew ?_ | with_reducible refine Up.alloc ?_ _ | with_reducible refine Up.setCell ?_ (by first | omega | (simp; done) | (simp; omega)) _ | with_reducible refine Up.trans ?_ (by assumption))) (HZ.out _ _ _ _ _ _ _).symm).at_)) hb3
    exact ⟨ret_v (congrArg Value.string HS.out.symm), hb⟩

theorem Show_any (q : ByteArray → ByteArray) (hv : Value) (H : HM) (tvs : List Value) (own : Own) (k n : Int) (s : ByteArray) (w : World) (h : HRep w hv H tvs own)
    (hH : H.Okay q w.heap.size w) (hx : Okay q w.heap.size w (plainS H ⟨k, n, s⟩)) :
    Calls Tryz.prog 12 #[hv, .agg #[.int .i64 k, .int .i64 n, .string s]] w fun e w' => e = .returned (.string (H.show q ⟨k, n, s⟩)) ∧ Up w w' := by
  rcases e : plainS H ⟨k, n, s⟩ with ⟨pk, pn, ps⟩
  rw [e] at hx
  by_cases h4 : pk = 4
  · subst h4
    exact Show_text q hv H tvs own k n s w h pn ps e
  · exact Show_else q hv H tvs own k n s w h pk pn ps e (by simpa using h4) hH hx

end Go.Proofs.YtmbipadiaggolaaGreatDoor
