import Derived.Outline
import Derived.Test.YtmbipadiaggolaaGreatDoorM35
/- YtmbipadiaggolaaGreatDoorM37: lemmas of the proof, in order: Known, Know. -/
/- Walks: Show; known. -/
namespace Go.Proofs.YtmbipadiaggolaaGreatDoor
open Go.RowKit
set_option linter.unusedSimpArgs false
attribute [local go_sem] ta_aa ta_ao ta_an ta_oa ta_oo ta_on m_kind_a m_kind_o m_behind_a m_behind_o m_own_a m_own_o

set_option maxRecDepth 100000 in
set_option maxHeartbeats 4000000 in
theorem Show_text (q : ByteArray → ByteArray) (hv : Value) (H : HM) (tvs : List Value) (own : Own) (k n : Int) (s : ByteArray) (w : World) (h : HRep w hv H tvs own) (pn : Int) (ps : ByteArray) (hp : plainS H ⟨k, n, s⟩ = ⟨4, pn, ps⟩) :
    Calls Tryz.prog 12 #[hv, .agg #[.int .i64 k, .int .i64 n, .string s]] w fun e w' => e = .returned (.string (H.show q ⟨k, n, s⟩)) ∧ Up w w' := by
  have hs : Hid (H.show q ⟨k, n, s⟩ = ps) := by unfold HM.show; rw [hp]; exact if_pos rfl
  have hh := Lib.hid h
  have HP := Lib.hid hp
  clear h hp
  go_enter Tryz.func12, Tryz.ntmps12
  go_wp2_with (first | (go_at_call 35; refine (plain_any hv H tvs own _ _ _ _ (hh.out.up uq)).mono ?_; rintro e w' ⟨rfl, hu⟩; simp only [HP.out]; obtain ⟨hc, hf⟩ := And.intro hu.cells hu.ice; have hz := hu.size; (try simp only [World.size_alloc] at hz); (try (have hz0 : w.heap.size < w'.heap.size := by omega))))
  go_ret
  exact ⟨ret_v (congrArg Value.string hs.out.symm), uq⟩

theorem HRep.form {w : World} {hv : Value} {H : HM} {tvs : List Value} {own : Own} (h : HRep w hv H tvs own) : ∃ a, hv = .pointer a := by
  cases h <;> exact ⟨_, rfl⟩

theorem say_empty {s : ByteArray} (h : (say [] s).1 = true) (hs : s.data.toList ≠ []) : (say [] s).2 ≠ [] := by
  unfold say at h ⊢
  simp only [laid] at h ⊢
  rw [if_pos h]
  simpa using hs

theorem itoa_ne (n : Int) : Lib.itoa n ≠ [] := by
  unfold Lib.itoa
  split
  · simp
  · unfold Lib.decDigits
    split <;> simp

theorem textOf_ne (x : Val) (h4 : ¬ x.k = 4) (h5 : ¬ x.k = 5) : (textOf x).data.toList ≠ [] := by
  have h : (plainV x).k ≠ 4 ∧ (plainV x).k ≠ 5 := by
    unfold plainV
    split
    · simp
    · split
      · simp
      · split
        · simp
        · first | (rw [if_neg h4, if_neg h5]; simp; done) | simp
  unfold textOf
  split
  · decide
  · split
    · split <;> decide
    · split
      · simpa using itoa_ne _
      · rw [if_neg h.1, if_neg h.2]; decide

theorem showV_top {H : HM} (q : ByteArray → ByteArray) (f : Nat) (v : Val) (h4 : ¬ v.k = 4) (h5 : v.k = 5 → H.there v.n = true) (h : (H.showV q (f + 1) v []).1 = true) : (H.showV q (f + 1) v []).2 ≠ [] := by
  cases hat : H.at v with
  | none =>
    rw [showV_none _ _ _ h4 hat] at h ⊢
    refine say_empty h (textOf_ne v h4 fun e => ?_)
    have h1 := at_none (k := v.k) (n := v.n) (s := v.s) hat e
    rw [h5 e] at h1; cases h1
  | some t =>
    by_cases k3 : t.kind = 3
    · rw [showV_function _ _ _ h4 hat k3] at h ⊢; exact say_empty h (by decide)
    · by_cases k4 : t.kind = 4
      · rw [showV_class _ _ _ h4 hat k4] at h ⊢; exact say_empty h (by decide)
      · rw [showV_thing _ _ _ h4 hat k3 k4]
        unfold shownThing
        dsimp only
        have h0 : laid [] (opens t) ≠ [] := by
          unfold opens
          split <;> decide
        have h1 := showParts_ne (showV_ne H q f) (partsOf t) h0
        split
        · exact laid_ne _ h1
        · exact h1

theorem ShowIn.start' {w W : World} {hv : Value} {H : HM} {tvs : List Value} {own : Own} {sb : Nat} (h : HRep w hv H tvs own) (hu : Up w W) (hz : sb = W.heap.size) : ShowIn w.heap.size sb hv H tvs own [] (W.alloc (.cells #[hv, .pointer none, .slice none 0 0] ShT)) := by
  subst hz
  exact ShowIn.start h hu

theorem plainS_there {H : HM} {x y : Val} (h : plainS H x = y) : y.k = 5 → H.there y.n = true := fun h5 => by
  subst h
  obtain ⟨h1, h2⟩ := plainS_ref h5
  rw [h1]; exact h2

set_option maxRecDepth 100000 in
set_option maxHeartbeats 4000000 in
theorem Show_else (q : ByteArray → ByteArray) (hv : Value) (H : HM) (tvs : List Value) (own : Own) (k n : Int) (s : ByteArray) (w : World) (h : HRep w hv H tvs own) (pk pn : Int) (ps : ByteArray) (hp : plainS H ⟨k, n, s⟩ = ⟨pk, pn, ps⟩) (hk : (pk == 4) = false)
    (hH : H.Okay q w.heap.size w) (hx : Okay q w.heap.size w ⟨pk, pn, ps⟩) :
    Calls Tryz.prog 12 #[hv, .agg #[.int .i64 k, .int .i64 n, .string s]] w fun e w' => e = .returned (.string (H.show q ⟨k, n, s⟩)) ∧ Up w w' := by
  obtain ⟨a, rfl⟩ := h.form
  have hh := Lib.hid h
  have HP := Lib.hid hp
  have HX := Lib.hid (And.intro hH hx)
  clear h hp hH hx
  have hsz : ∀ W : World, ∀ p1 p2 p3 v1 v2 v3, (((W.setCell p1 v1).setCell p2 v2).setCell p3 v3).heap.size = W.heap.size := fun W _ _ _ _ _ _ => by simp [setCell_size]
  have HZ := Lib.hid hsz
  clear hsz
  rcases hr : H.showV q 3 ⟨pk, pn, ps⟩ [] with ⟨b, l⟩
  have HR := Lib.hid hr
  have HS : Hid (H.show q ⟨k, n, s⟩ = if b = true then ⟨l.toArray⟩ else dotsS) := by
    unfold HM.show
    rw [HP.out, if_neg (by simpa using hk), hr]
    rfl
  have HL : Hid (b = true → l ≠ []) := fun hb => by
    have := showV_top q 2 ⟨pk, pn, ps⟩ (by simpa using hk) (plainS_there HP.out) (by rw [hr]; exact hb)
    rw [hr] at this
    exact this
  clear hr
  cases b
  · go_enter Tryz.func12, Tryz.ntmps12
    go_wp2_with (first | (go_at_call 35; refine (plain_any _ H tvs own _ _ _ _ (hh.out.up uq)).mono ?_; rintro e w' ⟨rfl, hu⟩; simp only [HP.out]; obtain ⟨hc, hf⟩ := And.intro hu.cells hu.ice; have hz := hu.size; (try simp only [World.size_alloc] at hz); (try (have hz0 : w.heap.size < w'.heap.size := by omega))) | (go_at_call 36; refine (value_any q w.heap.size w'.heap.size _ H tvs own w HX.out.1 3 0 ⟨pk, pn, ps⟩ [] _ (by omega) (by omega) (ShowIn.start' hh.out uq (HZ.out _ _ _ _ _ _ _).symm) HX.out.2 (show Up w _ from uq)).mono ?_; rintro e w2 ⟨rfl, hI, hS⟩; simp only [HR.out] at hI ⊢))
    go_ret
    have hb : Below w.heap.size w w2 := Below.trans (show Up w _ from uq) (hS.belowB (ShowIn.start' hh.out uq (HZ.out _ _ _ _ _ _ _).symm).at_)
    exact ⟨ret_v (congrArg Value.string HS.out.symm), hb⟩
  · go_enter Tryz.func12, Tryz.ntmps12
    go_wp2_with (first | (go_at_call 35; refine (plain_any _ H tvs own _ _ _ _ (hh.out.up uq)).mono ?_; rintro e w' ⟨rfl, hu⟩; simp only [HP.out]; obtain ⟨hc, hf⟩ := And.intro hu.cells hu.ice; have hz := hu.size; (try simp only [World.size_alloc] at hz); (try (have hz0 : w.heap.size < w'.heap.size := by omega))) | (go_at_call 36; refine (value_any q w.heap.size w'.heap.size _ H tvs own w HX.out.1 3 0 ⟨pk, pn, ps⟩ [] _ (by omega) (by omega) (ShowIn.start' hh.out uq (HZ.out _ _ _ _ _ _ _).symm) HX.out.2 (show Up w _ from uq)).mono ?_; rintro e w2 ⟨rfl, hI, hS⟩; simp only [HR.out] at hI ⊢) | (go_at_call 37; refine (String_any w.heap.size _ _ l _ hI.at_ (HL.out rfl)).mono ?_; rintro e w3 ⟨rfl, hb3⟩))
    go_ret
    have hb : Below w.heap.size w w3 := Below.trans (Below.trans (show Up w _ from uq) (hS.belowB (ShowIn.start' hh.out uq (HZ.out _ _ _ _ _ _ _).symm).at_)) hb3
    exact ⟨ret_v (congrArg Value.string HS.out.symm), hb⟩

theorem Show_any (q : ByteArray → ByteArray) (hv : Value) (H : HM) (tvs : List Value) (own : Own) (k n : Int) (s : ByteArray) (w : World) (h : HRep w hv H tvs own)
    (hH : H.Okay q w.heap.size w) (hx : Okay q w.heap.size w (plainS H ⟨k, n, s⟩)) :
    Calls Tryz.prog 12 #[hv, .agg #[.int .i64 k, .int .i64 n, .string s]] w fun e w' => e = .returned (.string (H.show q ⟨k, n, s⟩)) ∧ Up w w' := by
  rcases e : plainS H ⟨k, n, s⟩ with ⟨pk, pn, ps⟩
  rw [e] at hx
  by_cases h4 : pk = 4
  · subst h4
    exact Show_text q hv H tvs own k n s w h pn ps e
  · exact Show_else q hv H tvs own k n s w h pk pn ps e (by simpa using h4) hH hx

end Go.Proofs.YtmbipadiaggolaaGreatDoor

/- Walk: known. -/
namespace Go.Proofs.YtmbipadiaggolaaGreatDoor
open Go.RowKit
set_option linter.unusedSimpArgs false
attribute [local go_sem] ta_aa ta_ao ta_an ta_oa ta_oo ta_on m_kind_a m_kind_o m_behind_a m_behind_o m_own_a m_own_o

theorem Show_ours (q : ByteArray → ByteArray) {w0 w : World} {hb : Nat} {H : HM} (k n : Int) (s : ByteArray) (h : Ours w0 hb H w) (hH : H.Okay q w.heap.size w) (hx : Okay q w.heap.size w (plainS H ⟨k, n, s⟩)) :
    Calls Tryz.prog 12 #[.pointer (some ⟨hb, 0, none⟩), .agg #[.int .i64 k, .int .i64 n, .string s]] w fun e w' => e = .returned (.string (H.show q ⟨k, n, s⟩)) ∧ Ours w0 hb H w' :=
  let ⟨tvs, own, h1, h2, h3⟩ := h
  (Show_any q _ H tvs own k n s w (.some hb _ _ _ h1) hH hx).mono fun _ _ ⟨g1, g2⟩ => ⟨g1, tvs, own, h1.up g2, h2.trans g2, h3⟩

def aS : ByteArray := ⟨#[97]⟩
def kH1 : HM := ⟨9, 1, [⟨1, -1, [], []⟩]⟩
def kH2 : HM := ⟨9, 2, [⟨1, -1, [(aS, ⟨3, 3, ⟨#[]⟩⟩)], []⟩]⟩
theorem kmake : (⟨9, 0, []⟩ : HM).make 1 (-1) = kH1 := rfl
theorem kset : kH1.set 5 0 aS ⟨3, 3, ⟨#[]⟩⟩ = (kH2, ⟨#[]⟩, 0) := rfl
theorem kplain : plainS kH2 ⟨5, 0, ⟨#[]⟩⟩ = ⟨5, 0, ⟨#[]⟩⟩ := rfl
theorem kitoa : Lib.itoa 3 = [51] := by
  unfold Lib.itoa
  rw [if_neg (by omega)]
  unfold Lib.decDigits
  rfl
theorem ktext : textOf ⟨3, 3, ⟨#[]⟩⟩ = ⟨#[51]⟩ := by
  have e : plainV ⟨3, 3, ⟨#[]⟩⟩ = ⟨3, 3, ⟨#[]⟩⟩ := rfl
  unfold textOf
  rw [e]
  simp [kitoa]
theorem kshowV (q : ByteArray → ByteArray) : kH2.showV q 3 ⟨5, 0, ⟨#[]⟩⟩ [] = (true, [123, 97, 58, 32, 51, 125]) := by
  have hat : kH2.at ⟨5, 0, ⟨#[]⟩⟩ = some ⟨1, -1, [(aS, ⟨3, 3, ⟨#[]⟩⟩)], []⟩ := rfl
  have hn : kH2.at ⟨3, 3, ⟨#[]⟩⟩ = none := rfl
  rw [showV_thing 2 _ _ (by decide) hat (by decide) (by decide)]
  have hp : partsOf ⟨1, -1, [(aS, ⟨3, 3, ⟨#[]⟩⟩)], []⟩ = [⟨0, aS, true, ⟨3, 3, ⟨#[]⟩⟩⟩] := rfl
  have ho : opens ⟨1, -1, [(aS, ⟨3, 3, ⟨#[]⟩⟩)], []⟩ = ⟨#[123]⟩ := rfl
  have hc : closes ⟨1, -1, [(aS, ⟨3, 3, ⟨#[]⟩⟩)], []⟩ = ⟨#[125]⟩ := rfl
  have hl : laid [] ⟨#[123]⟩ = [123] := by decide
  have hk : say [123] (aS ++ colonS) = (true, [123, 97, 58, 32]) := by decide
  have hs : kH2.showV q 2 ⟨3, 3, ⟨#[]⟩⟩ [123, 97, 58, 32] = (true, [123, 97, 58, 32, 51]) := by
    rw [showV_none 2 _ _ (by decide) hn, ktext]
    decide
  have h1 : showParts (kH2.showV q 2) [⟨0, aS, true, ⟨3, 3, ⟨#[]⟩⟩⟩] [123] = (true, [123, 97, 58, 32, 51]) := by
    simp [showParts, stepPart, hk, hs]
  unfold shownThing
  rw [hp, ho, hc, hl]
  dsimp only
  rw [h1]
  decide
theorem kshow (q : ByteArray → ByteArray) : kH2.show q ⟨5, 0, ⟨#[]⟩⟩ = ⟨#[123, 97, 58, 32, 51, 125]⟩ := by
  unfold HM.show
  rw [kplain, kshowV]
  rfl
def noQ (_ : ByteArray) : ByteArray := ⟨#[]⟩
theorem kokay (B : Nat) (w0 : World) : kH2.Okay noQ B w0 := fun i t ht x hx => by
  have : i = 0 := by
    rcases Nat.lt_or_ge i 1 with h | h
    · omega
    · rw [List.getElem?_eq_none (by simpa [kH2] using h)] at ht; cases ht
  subst this
  simp only [kH2, List.getElem?_cons_zero, Option.some.injEq] at ht
  subst ht
  simp only [partsOf, objParts, List.mapIdx_cons, List.mapIdx_nil, List.mem_singleton] at hx
  rw [if_neg (by decide), List.mem_singleton] at hx
  subst hx
  exact ⟨⟨fun h => (by cases h), fun _ => .inl ⟨by decide, by decide⟩⟩, by decide⟩
theorem kokay0 (B : Nat) (w0 : World) : Okay noQ B w0 (plainS kH2 ⟨5, 0, ⟨#[]⟩⟩) := by
  rw [kplain]
  exact ⟨fun h => (by cases h), fun h => (by cases h)⟩

set_option maxRecDepth 100000 in
set_option maxHeartbeats 4000000 in
theorem known_any (w : World) : Calls Tryz.prog 7 #[] w fun e w' => e = .returned (.bool true) ∧ Up w w' := by
  go_enter Tryz.func7, Tryz.ntmps7
  go_wp2_with (first | (go_at_call 8; refine (New_good 9 _ (by omega) (by omega)).mono ?_; rintro e w1 ⟨rfl, rfl⟩; have o1 := Ours.fresh 9 (Up.refl w) (by omega) (by omega)) | (go_at_call 19; refine (Make_ours 1 (-1) o1).mono ?_; rintro e w2 ⟨rfl, o2⟩; rw [kmake] at o2) | (go_at_call 20; refine (Set_ours 5 0 _ aS 3 3 ⟨#[]⟩ (o2.up uq)).mono ?_; rintro e w3 ⟨rfl, o3⟩; rw [kset] at o3 ⊢) | (go_at_call 12; refine (Show_ours noQ 5 0 _ o3 (kokay _ _) (kokay0 _ _)).mono ?_; rintro e w4 ⟨rfl, o4⟩; rw [kshow]) | (go_at_call 11; refine (Used_ours o4).mono ?_; rintro e w5 ⟨rfl, rfl⟩; simp only [kH2]))
  go_ret
  exact ⟨rfl, o4.base⟩

end Go.Proofs.YtmbipadiaggolaaGreatDoor
