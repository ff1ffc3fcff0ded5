import Derived.Test.YtmbipadiaggolaaGreatDoorShowI
/- Show, whole. -/
namespace Go.Proofs.YtmbipadiaggolaaGreatDoor
open Go.RowKit
set_option linter.unusedSimpArgs false
attribute [local go_sem] ta_aa ta_ao ta_an ta_oa ta_oo ta_on m_kind_a m_kind_o m_behind_a m_behind_o m_own_a m_own_o

/-- a value that can be shown: what is asked of its text, and of its number -/
structure Okay (q : ByteArray → ByteArray) (B : Nat) (w0 : World) (v : Val) : Prop where
  str : v.k = 4 → ∀ w, Calls Tryz.prog 57 #[.string v.s] w fun e w' => e = .returned (.string (q v.s)) ∧ Up w w'
  num : v.k = 3 → (0 ≤ v.n ∧ v.n < 100) ∨ ∀ w, Below B w0 w → Tab w

/-- all that lies in a heap can be shown -/
def HM.Okay (H : HM) (q : ByteArray → ByteArray) (B : Nat) (w0 : World) : Prop := ∀ (i : Nat) (t : Thing), H.things[i]? = some t → ∀ x ∈ partsOf t, YtmbipadiaggolaaGreatDoor.Okay q B w0 x.v ∧ x.key.size ≤ 140737488351232

theorem Shown.said {B sb : Nat} {hv : Value} {H : HM} {tvs : List Value} {own : Own} {bs : List UInt8} {r : Bool × List UInt8} {w : World} (h : ShowIn B sb hv H tvs own bs w) (hl : r.2.length ≤ 65536) (e : Ending) (w' : World) (k : Shown B sb hv r w e w') : SaidIn B sb hv H tvs own r w e w' :=
  ⟨k.1, h.on k.2.2 k.2.1 hl, k.2.2⟩

theorem parts_few {w : World} {hv : Value} {H : HM} {tvs : List Value} {own : Own} (h : HRep w hv H tvs own) {i : Nat} {t : Thing} (ht : H.things[i]? = some t) : (partsOf t).length ≤ 1048576 := by
  cases h with
  | nil => simp at ht
  | some hb _ _ _ h =>
    have h1 := sizes_at _ _ _ ht
    have h2 := h.few
    have h3 := h.roomU
    have h4 := h.roomM
    unfold partsOf arrParts objParts
    unfold Thing.size at h1
    split
    · rw [List.length_mapIdx]; omega
    · rw [List.length_mapIdx]; omega

theorem at_none {H : HM} {k n : Int} {s : ByteArray} (h : H.at ⟨k, n, s⟩ = none) : k = 5 → H.there n = false := fun hk => by
  cases ht : H.there n with
  | false => rfl
  | true =>
    exfalso
    simp only [HM.at, hk, ht, and_self, if_true] at h
    simp only [HM.there, Bool.and_eq_true, decide_eq_true_eq] at ht
    rw [List.getElem?_eq_none_iff] at h
    omega
theorem at_some {H : HM} {k n : Int} {s : ByteArray} {t : Thing} (h : H.at ⟨k, n, s⟩ = some t) : k = 5 ∧ H.there n = true ∧ H.things[n.toNat]? = some t := by
  simp only [HM.at] at h
  split at h
  · rename_i h1; exact ⟨h1.1, h1.2, h⟩
  · cases h

theorem showV_string {H : HM} {q : ByteArray → ByteArray} (f : Nat) (v : Val) (bs : List UInt8) (h : v.k = 4) : H.showV q f v bs = say bs (q v.s) := by
  cases f <;> simp [HM.showV, h]
theorem showV_none {H : HM} {q : ByteArray → ByteArray} (f : Nat) (v : Val) (bs : List UInt8) (h : ¬ v.k = 4) (h2 : H.at v = none) : H.showV q f v bs = say bs (textOf v) := by
  cases f <;> simp [HM.showV, h, h2]
theorem showV_function {H : HM} {q : ByteArray → ByteArray} (f : Nat) (v : Val) (bs : List UInt8) (h : ¬ v.k = 4) {t : Thing} (h2 : H.at v = some t) (h3 : t.kind = 3) : H.showV q f v bs = say bs functionS := by
  cases f <;> simp [HM.showV, h, h2, h3]
theorem showV_class {H : HM} {q : ByteArray → ByteArray} (f : Nat) (v : Val) (bs : List UInt8) (h : ¬ v.k = 4) {t : Thing} (h2 : H.at v = some t) (h3 : t.kind = 4) : H.showV q f v bs = say bs classS := by
  cases f <;> simp [HM.showV, h, h2, h3]
theorem showV_dots {H : HM} {q : ByteArray → ByteArray} (v : Val) (bs : List UInt8) (h : ¬ v.k = 4) {t : Thing} (h2 : H.at v = some t) (h3 : t.kind ≠ 3) (h4 : t.kind ≠ 4) : H.showV q 0 v bs = say bs dotsS := by
  simp [HM.showV, h, h2, h3, h4]
theorem showV_thing {H : HM} {q : ByteArray → ByteArray} (f : Nat) (v : Val) (bs : List UInt8) (h : ¬ v.k = 4) {t : Thing} (h2 : H.at v = some t) (h3 : t.kind ≠ 3) (h4 : t.kind ≠ 4) : H.showV q (f + 1) v bs = shownThing (H.showV q f) t bs := by
  rw [HM.showV]
  simp only [h, h2, h3, h4, if_false]
  rfl

theorem value_any (q : ByteArray → ByteArray) (B sb : Nat) (hv : Value) (H : HM) (tvs : List Value) (own : Own) (w0 : World) (hH : H.Okay q B w0) : ∀ (f : Nat) (d : Int) (v : Val) (bs : List UInt8) (w : World), d = 3 - f → 0 ≤ d → ShowIn B sb hv H tvs own bs w → Okay q B w0 v → Below B w0 w →
    Calls Tryz.prog 36 #[.pointer (some ⟨sb, 0, none⟩), .agg #[.int .i64 (v).k, .int .i64 (v).n, .string (v).s], .int .i64 d] w (SaidIn B sb hv H tvs own (H.showV q f v bs) w) := by
  intro f
  induction f with
  | zero =>
    intro d v bs w hd hd0 h hok hB
    have hl := HM.showV_len H q 0 v h.len
    obtain ⟨k, n, s⟩ := v
    by_cases h4 : k = 4
    · rw [showV_string 0 _ _ h4] at hl ⊢
      subst h4
      exact (value_string B sb hv H tvs own bs n d s w h _ (hok.str rfl)).mono (Shown.said h hl)
    · cases hat : H.at ⟨k, n, s⟩ with
      | none =>
        rw [showV_none 0 _ _ h4 hat] at hl ⊢
        exact (value_none B sb hv H tvs own bs k n d (by simpa using h4) (at_none hat) s w h (fun e => (hok.num e).imp id (fun g => g w hB))).mono (Shown.said h hl)
      | some t =>
        obtain ⟨rfl, hth, ht⟩ := at_some hat
        obtain ⟨h0, tv, t', ht', htv, hti⟩ := there_get h.heap hth
        rw [ht] at ht'
        cases ht'
        cases hti with
        | arr vals b av hb hc hr =>
          rw [showV_dots _ _ h4 hat (by simp) (by simp)] at hl ⊢
          exact (value_deep B sb hv H tvs own bs n d s w h h0 _ htv (by omega)).mono (Shown.said h hl)
        | obj k' p l b mv kv hk' hp hpi hb hc hm hr hn =>
          have hpv := proto_form h.heap p
          rcases hk' with rfl | rfl | rfl
          · rw [showV_dots _ _ h4 hat (by simp) (by simp)] at hl ⊢
            exact (value_word B sb hv H tvs own bs n d s w h h0 _ _ 1 htv hpv ⟨_, rfl⟩ (.inr (.inr ⟨rfl, by omega⟩))).mono (Shown.said h hl)
          · rw [showV_function _ _ _ h4 hat rfl] at hl ⊢
            exact (value_word B sb hv H tvs own bs n d s w h h0 _ _ 3 htv hpv ⟨_, rfl⟩ (.inl rfl)).mono (Shown.said h hl)
          · rw [showV_class _ _ _ h4 hat rfl] at hl ⊢
            exact (value_word B sb hv H tvs own bs n d s w h h0 _ _ 4 htv hpv ⟨_, rfl⟩ (.inr (.inl rfl))).mono (Shown.said h hl)
  | succ f ih =>
    intro d v bs w hd hd0 h hok hB
    have hl := HM.showV_len H q (f + 1) v h.len
    obtain ⟨k, n, s⟩ := v
    by_cases h4 : k = 4
    · rw [showV_string _ _ _ h4] at hl ⊢
      subst h4
      exact (value_string B sb hv H tvs own bs n d s w h _ (hok.str rfl)).mono (Shown.said h hl)
    · cases hat : H.at ⟨k, n, s⟩ with
      | none =>
        rw [showV_none _ _ _ h4 hat] at hl ⊢
        exact (value_none B sb hv H tvs own bs k n d (by simpa using h4) (at_none hat) s w h (fun e => (hok.num e).imp id (fun g => g w hB))).mono (Shown.said h hl)
      | some t =>
        obtain ⟨rfl, hth, ht⟩ := at_some hat
        obtain ⟨h0, tv, t', ht', htv, hti⟩ := there_get h.heap hth
        rw [ht] at ht'
        cases ht'
        have hfew := parts_few h.heap ht
        have hrec : ∀ (x : Part) (bs' : List UInt8) (W : World), (Okay q B w0 x.v ∧ x.key.size ≤ 140737488351232) → ShowIn B sb hv H tvs own bs' W → Below B w W → Calls Tryz.prog 36 #[.pointer (some ⟨sb, 0, none⟩), .agg #[.int .i64 (x.v).k, .int .i64 (x.v).n, .string (x.v).s], .int .i64 (d + 1)] W (SaidIn B sb hv H tvs own (H.showV q f x.v bs') W) :=
          fun x bs' W hx hW hb => ih (d + 1) x.v bs' W (by omega) (by omega) hW hx.1 (hB.trans hb)
        have hd3 : (d == 3) = false := by rw [beq_eq_false_iff_ne]; omega
        have hd4 : d ≤ 3 := by omega
        have hokt := hH _ _ ht
        cases hti with
        | arr vals b av hb hc hr =>
          rw [showV_thing _ _ _ h4 hat (by simp) (by simp)]
          exact value_arr B sb hv H tvs own bs n d s w h h0 _ _ htv ht rfl hd3 hd0 hd4 (H.showV q f) _ hokt hfew (fun x hx => hx.2) hrec
        | obj k' p l b mv kv hk' hp hpi hb hc hm hr hn =>
          have hpv := proto_form h.heap p
          rcases hk' with rfl | rfl | rfl
          · rw [showV_thing _ _ _ h4 hat (by simp) (by simp)]
            exact value_obj B sb hv H tvs own bs n d s w h h0 _ _ _ hpv htv ht rfl hd3 hd0 hd4 (H.showV q f) _ hokt hfew (fun x hx => hx.2) hrec
          · rw [showV_function _ _ _ h4 hat rfl] at hl ⊢
            exact (value_word B sb hv H tvs own bs n d s w h h0 _ _ 3 htv hpv ⟨_, rfl⟩ (.inl rfl)).mono (Shown.said h hl)
          · rw [showV_class _ _ _ h4 hat rfl] at hl ⊢
            exact (value_word B sb hv H tvs own bs n d s w h h0 _ _ 4 htv hpv ⟨_, rfl⟩ (.inr (.inl rfl))).mono (Shown.said h hl)

/-- what is laid is never taken back -/
theorem laid_ne {bs : List UInt8} (s : ByteArray) (h : bs ≠ []) : laid bs s ≠ [] := by
  unfold laid
  split
  · simp [h]
  · exact h
theorem stepPart_ne {rec : Val → List UInt8 → Bool × List UInt8} (hr : ∀ v bs, bs ≠ [] → (rec v bs).2 ≠ []) (x : Part) {bs : List UInt8} (h : bs ≠ []) : (stepPart rec x bs).2 ≠ [] := by
  unfold stepPart
  dsimp only
  have h1 : (if 0 < x.i then say bs commaS else (true, bs)).2 ≠ [] := by split; exact laid_ne _ h; exact h
  generalize (if 0 < x.i then say bs commaS else (true, bs)) = a at h1 ⊢
  split
  · exact h1
  · have h2 : (if x.keyed = true then say a.2 (x.key ++ colonS) else (true, a.2)).2 ≠ [] := by split; exact laid_ne _ h1; exact h1
    generalize (if x.keyed = true then say a.2 (x.key ++ colonS) else (true, a.2)) = b at h2 ⊢
    split
    · exact h2
    · exact hr _ _ h2
theorem showParts_ne {rec : Val → List UInt8 → Bool × List UInt8} (hr : ∀ v bs, bs ≠ [] → (rec v bs).2 ≠ []) : ∀ (l : List Part) {bs : List UInt8}, bs ≠ [] → (showParts rec l bs).2 ≠ []
  | [], _, h => h
  | x :: l, bs, h => by
    unfold showParts
    split
    · exact stepPart_ne hr x h
    · exact showParts_ne hr l (stepPart_ne hr x h)
theorem showV_ne (H : HM) (q : ByteArray → ByteArray) (f : Nat) : ∀ (v : Val) (bs : List UInt8), bs ≠ [] → (H.showV q f v bs).2 ≠ [] := by
  induction f with
  | zero =>
    intro v bs h
    by_cases h4 : v.k = 4
    · rw [showV_string _ _ _ h4]; exact laid_ne _ h
    · cases hat : H.at v with
      | none => rw [showV_none _ _ _ h4 hat]; exact laid_ne _ h
      | some t =>
        by_cases k3 : t.kind = 3
        · rw [showV_function _ _ _ h4 hat k3]; exact laid_ne _ h
        · by_cases k4 : t.kind = 4
          · rw [showV_class _ _ _ h4 hat k4]; exact laid_ne _ h
          · rw [showV_dots _ _ h4 hat k3 k4]; exact laid_ne _ h
  | succ f ih =>
    intro v bs h
    by_cases h4 : v.k = 4
    · rw [showV_string _ _ _ h4]; exact laid_ne _ h
    · cases hat : H.at v with
      | none => rw [showV_none _ _ _ h4 hat]; exact laid_ne _ h
      | some t =>
        by_cases k3 : t.kind = 3
        · rw [showV_function _ _ _ h4 hat k3]; exact laid_ne _ h
        · by_cases k4 : t.kind = 4
          · rw [showV_class _ _ _ h4 hat k4]; exact laid_ne _ h
          · rw [showV_thing _ _ _ h4 hat k3 k4]
            unfold shownThing
            dsimp only
            have h1 := showParts_ne ih (partsOf t) (laid_ne (opens t) h)
            split
            · exact laid_ne _ h1
            · exact h1

/-- a value for people -/
def HM.show (H : HM) (q : ByteArray → ByteArray) (x : Val) : ByteArray :=
  if (plainS H x).k = 4 then (plainS H x).s else
  if (H.showV q 3 (plainS H x) []).1 = true then ⟨(H.showV q 3 (plainS H x) []).2.toArray⟩ else dotsS

theorem ShowIn.start {w W : World} {hv : Value} {H : HM} {tvs : List Value} {own : Own} (h : HRep w hv H tvs own) (hu : Up w W) : ShowIn w.heap.size W.heap.size hv H tvs own [] (W.alloc (.cells #[hv, .pointer none, .slice none 0 0] ShT)) :=
  ⟨(h.up hu).up ((Up.refl W).alloc _), fun b m hm => by
    cases h with
    | nil => cases hm
    | some hb _ _ _ h => exact h.lt b m hm,
   ⟨hu.size, by have := hu.size; simp; omega, _, _, alloc_get _ _, .inl rfl, ⟨rfl, .inl ⟨rfl, rfl⟩⟩, by simp [Value.ownBlock]⟩, by simp⟩

end Go.Proofs.YtmbipadiaggolaaGreatDoor
