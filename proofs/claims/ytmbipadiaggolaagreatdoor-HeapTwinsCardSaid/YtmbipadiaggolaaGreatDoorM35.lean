import Derived.Test.YtmbipadiaggolaaGreatDoorM34
import Derived.Test.YtmbipadiaggolaaGreatDoorM11
import Derived.Test.YtmbipadiaggolaaGreatDoorM31
/- YtmbipadiaggolaaGreatDoorM35: lemmas of the proof, in order: ShowJ, Ours, Both, Good. -/
/- Show, whole. -/
namespace Go.Proofs.YtmbipadiaggolaaGreatDoor
open Go.RowKit
set_option linter.unusedSimpArgs false
attribute [local go_sem] ta_aa ta_ao ta_an ta_oa ta_oo ta_on m_kind_a m_kind_o m_behind_a m_behind_o m_own_a m_own_o

/-- a value that can be shown: what is asked of its text, and of its number -/
structure Okay (q : ByteArray → ByteArray) (B : Nat) (w0 : World) (v : Val) : Prop where
  str : v.k = 4 → ∀ w, Below B w0 w → Calls Tryz.prog 57 #[.string v.s] w fun e w' => e = .returned (.string (q v.s)) ∧ Up w w'
  num : v.k = 3 → (0 ≤ v.n ∧ v.n < 100) ∨ ∀ w, Below B w0 w → Tab w

/-- all that lies in a heap can be shown -/
def HM.Okay (H : HM) (q : ByteArray → ByteArray) (B : Nat) (w0 : World) : Prop := ∀ (i : Nat) (t : Thing), H.things[i]? = some t → ∀ x ∈ partsOf t, YtmbipadiaggolaaGreatDoor.Okay q B w0 x.v ∧ x.key.size ≤ 140737488351232

theorem Shown.said {B sb : Nat} {hv : Value} {H : HM} {tvs : List Value} {own : Own} {bs : List UInt8} {r : Bool × List UInt8} {w : World} (h : ShowIn B sb hv H tvs own bs w) (hl : r.2.length ≤ 65536) (e : Ending) (w' : World) (k : Shown B sb hv r w e w') : SaidIn B sb hv H tvs own r w e w' :=
  ⟨k.1, h.on k.2.2 k.2.1 hl, k.2.2⟩

theorem parts_few {w : World} {hv : Value} {H : HM} {tvs : List Value} {own : Own} (h : HRep w hv H tvs own) {i : Nat} {t : Thing} (ht : H.things[i]? = some t) : (partsOf t).length ≤ 1048576 := by
  cases h with
  | nil => simp at ht
  | some hb _ _ _ h =>
    have h1 := sizes_at _ _ _ ht
    have h2 := h.few
    have h3 := h.roomU
    have h4 := h.roomM
    unfold partsOf arrParts objParts
    unfold Thing.size at h1
    split
    · rw [List.length_mapIdx]; omega
    · rw [List.length_mapIdx]; omega

theorem at_none {H : HM} {k n : Int} {s : ByteArray} (h : H.at ⟨k, n, s⟩ = none) : k = 5 → H.there n = false := fun hk => by
  cases ht : H.there n with
  | false => rfl
  | true =>
    exfalso
    simp only [HM.at, hk, ht, and_self, if_true] at h
    simp only [HM.there, Bool.and_eq_true, decide_eq_true_eq] at ht
    rw [List.getElem?_eq_none_iff] at h
    omega
theorem at_some {H : HM} {k n : Int} {s : ByteArray} {t : Thing} (h : H.at ⟨k, n, s⟩ = some t) : k = 5 ∧ H.there n = true ∧ H.things[n.toNat]? = some t := by
  simp only [HM.at] at h
  split at h
  · rename_i h1; exact ⟨h1.1, h1.2, h⟩
  · cases h

theorem showV_string {H : HM} {q : ByteArray → ByteArray} (f : Nat) (v : Val) (bs : List UInt8) (h : v.k = 4) : H.showV q f v bs = say bs (q v.s) := by
  cases f <;> simp [HM.showV, h]
theorem showV_none {H : HM} {q : ByteArray → ByteArray} (f : Nat) (v : Val) (bs : List UInt8) (h : ¬ v.k = 4) (h2 : H.at v = none) : H.showV q f v bs = say bs (textOf v) := by
  cases f <;> simp [HM.showV, h, h2]
theorem showV_function {H : HM} {q : ByteArray → ByteArray} (f : Nat) (v : Val) (bs : List UInt8) (h : ¬ v.k = 4) {t : Thing} (h2 : H.at v = some t) (h3 : t.kind = 3) : H.showV q f v bs = say bs functionS := by
  cases f <;> simp [HM.showV, h, h2, h3]
theorem showV_class {H : HM} {q : ByteArray → ByteArray} (f : Nat) (v : Val) (bs : List UInt8) (h : ¬ v.k = 4) {t : Thing} (h2 : H.at v = some t) (h3 : t.kind = 4) : H.showV q f v bs = say bs classS := by
  cases f <;> simp [HM.showV, h, h2, h3]
theorem showV_dots {H : HM} {q : ByteArray → ByteArray} (v : Val) (bs : List UInt8) (h : ¬ v.k = 4) {t : Thing} (h2 : H.at v = some t) (h3 : t.kind ≠ 3) (h4 : t.kind ≠ 4) : H.showV q 0 v bs = say bs dotsS := by
  simp [HM.showV, h, h2, h3, h4]
theorem showV_thing {H : HM} {q : ByteArray → ByteArray} (f : Nat) (v : Val) (bs : List UInt8) (h : ¬ v.k = 4) {t : Thing} (h2 : H.at v = some t) (h3 : t.kind ≠ 3) (h4 : t.kind ≠ 4) : H.showV q (f + 1) v bs = shownThing (H.showV q f) t bs := by
  rw [HM.showV]
  simp only [h, h2, h3, h4, if_false]
  rfl

theorem value_any (q : ByteArray → ByteArray) (B sb : Nat) (hv : Value) (H : HM) (tvs : List Value) (own : Own) (w0 : World) (hH : H.Okay q B w0) : ∀ (f : Nat) (d : Int) (v : Val) (bs : List UInt8) (w : World), d = 3 - f → 0 ≤ d → ShowIn B sb hv H tvs own bs w → Okay q B w0 v → Below B w0 w →
    Calls Tryz.prog 36 #[.pointer (some ⟨sb, 0, none⟩), .agg #[.int .i64 (v).k, .int .i64 (v).n, .string (v).s], .int .i64 d] w (SaidIn B sb hv H tvs own (H.showV q f v bs) w) := by
  intro f
  induction f with
  | zero =>
    intro d v bs w hd hd0 h hok hB
    have hl := HM.showV_len H q 0 v h.len
    obtain ⟨k, n, s⟩ := v
    by_cases h4 : k = 4
    · rw [showV_string 0 _ _ h4] at hl ⊢
      subst h4
      exact (value_string B sb hv H tvs own bs n d s w h _ (fun W hu => hok.str rfl W (hB.trans (Below.mono hu h.at_.room)))).mono (Shown.said h hl)
    · cases hat : H.at ⟨k, n, s⟩ with
      | none =>
        rw [showV_none 0 _ _ h4 hat] at hl ⊢
        exact (value_none B sb hv H tvs own bs k n d (by simpa using h4) (at_none hat) s w h (fun e => (hok.num e).imp id (fun g => g w hB))).mono (Shown.said h hl)
      | some t =>
        obtain ⟨rfl, hth, ht⟩ := at_some hat
        obtain ⟨h0, tv, t', ht', htv, hti⟩ := there_get h.heap hth
        rw [ht] at ht'
        cases ht'
        cases hti with
        | arr vals b av hb hc hr =>
          rw [showV_dots _ _ h4 hat (by simp) (by simp)] at hl ⊢
          exact (value_deep B sb hv H tvs own bs n d s w h h0 _ htv (by omega)).mono (Shown.said h hl)
        | obj k' p l b mv kv hk' hp hpi hb hc hm hr hn =>
          have hpv := proto_form h.heap p
          rcases hk' with rfl | rfl | rfl
          · rw [showV_dots _ _ h4 hat (by simp) (by simp)] at hl ⊢
            exact (value_word B sb hv H tvs own bs n d s w h h0 _ _ 1 htv hpv ⟨_, rfl⟩ (.inr (.inr ⟨rfl, by omega⟩))).mono (Shown.said h hl)
          · rw [showV_function _ _ _ h4 hat rfl] at hl ⊢
            exact (value_word B sb hv H tvs own bs n d s w h h0 _ _ 3 htv hpv ⟨_, rfl⟩ (.inl rfl)).mono (Shown.said h hl)
          · rw [showV_class _ _ _ h4 hat rfl] at hl ⊢
            exact (value_word B sb hv H tvs own bs n d s w h h0 _ _ 4 htv hpv ⟨_, rfl⟩ (.inr (.inl rfl))).mono (Shown.said h hl)
  | succ f ih =>
    intro d v bs w hd hd0 h hok hB
    have hl := HM.showV_len H q (f + 1) v h.len
    obtain ⟨k, n, s⟩ := v
    by_cases h4 : k = 4
    · rw [showV_string _ _ _ h4] at hl ⊢
      subst h4
      exact (value_string B sb hv H tvs own bs n d s w h _ (fun W hu => hok.str rfl W (hB.trans (Below.mono hu h.at_.room)))).mono (Shown.said h hl)
    · cases hat : H.at ⟨k, n, s⟩ with
      | none =>
        rw [showV_none _ _ _ h4 hat] at hl ⊢
        exact (value_none B sb hv H tvs own bs k n d (by simpa using h4) (at_none hat) s w h (fun e => (hok.num e).imp id (fun g => g w hB))).mono (Shown.said h hl)
      | some t =>
        obtain ⟨rfl, hth, ht⟩ := at_some hat
        obtain ⟨h0, tv, t', ht', htv, hti⟩ := there_get h.heap hth
        rw [ht] at ht'
        cases ht'
        have hfew := parts_few h.heap ht
        have hrec : ∀ (x : Part) (bs' : List UInt8) (W : World), (Okay q B w0 x.v ∧ x.key.size ≤ 140737488351232) → ShowIn B sb hv H tvs own bs' W → Below B w W → Calls Tryz.prog 36 #[.pointer (some ⟨sb, 0, none⟩), .agg #[.int .i64 (x.v).k, .int .i64 (x.v).n, .string (x.v).s], .int .i64 (d + 1)] W (SaidIn B sb hv H tvs own (H.showV q f x.v bs') W) :=
          fun x bs' W hx hW hb => ih (d + 1) x.v bs' W (by omega) (by omega) hW hx.1 (hB.trans hb)
        have hd3 : (d == 3) = false := by rw [beq_eq_false_iff_ne]; omega
        have hd4 : d ≤ 3 := by omega
        have hokt := hH _ _ ht
        cases hti with
        | arr vals b av hb hc hr =>
          rw [showV_thing _ _ _ h4 hat (by simp) (by simp)]
          exact value_arr B sb hv H tvs own bs n d s w h h0 _ _ htv ht rfl hd3 hd0 hd4 (H.showV q f) _ hokt hfew (fun x hx => hx.2) hrec
        | obj k' p l b mv kv hk' hp hpi hb hc hm hr hn =>
          have hpv := proto_form h.heap p
          rcases hk' with rfl | rfl | rfl
          · rw [showV_thing _ _ _ h4 hat (by simp) (by simp)]
            exact value_obj B sb hv H tvs own bs n d s w h h0 _ _ _ hpv htv ht rfl hd3 hd0 hd4 (H.showV q f) _ hokt hfew (fun x hx => hx.2) hrec
          · rw [showV_function _ _ _ h4 hat rfl] at hl ⊢
            exact (value_word B sb hv H tvs own bs n d s w h h0 _ _ 3 htv hpv ⟨_, rfl⟩ (.inl rfl)).mono (Shown.said h hl)
          · rw [showV_class _ _ _ h4 hat rfl] at hl ⊢
            exact (value_word B sb hv H tvs own bs n d s w h h0 _ _ 4 htv hpv ⟨_, rfl⟩ (.inr (.inl rfl))).mono (Shown.said h hl)

/-- what is laid is never taken back -/
theorem laid_ne {bs : List UInt8} (s : ByteArray) (h : bs ≠ []) : laid bs s ≠ [] := by
  unfold laid
  split
  · simp [h]
  · exact h
theorem stepPart_ne {rec : Val → List UInt8 → Bool × List UInt8} (hr : ∀ v bs, bs ≠ [] → (rec v bs).2 ≠ []) (x : Part) {bs : List UInt8} (h : bs ≠ []) : (stepPart rec x bs).2 ≠ [] := by
  unfold stepPart
  dsimp only
  have h1 : (if 0 < x.i then say bs commaS else (true, bs)).2 ≠ [] := by split; exact laid_ne _ h; exact h
  generalize (if 0 < x.i then say bs commaS else (true, bs)) = a at h1 ⊢
  split
  · exact h1
  · have h2 : (if x.keyed = true then say a.2 (x.key ++ colonS) else (true, a.2)).2 ≠ [] := by split; exact laid_ne _ h1; exact h1
    generalize (if x.keyed = true then say a.2 (x.key ++ colonS) else (true, a.2)) = b at h2 ⊢
    split
    · exact h2
    · exact hr _ _ h2
theorem showParts_ne {rec : Val → List UInt8 → Bool × List UInt8} (hr : ∀ v bs, bs ≠ [] → (rec v bs).2 ≠ []) : ∀ (l : List Part) {bs : List UInt8}, bs ≠ [] → (showParts rec l bs).2 ≠ []
  | [], _, h => h
  | x :: l, bs, h => by
    unfold showParts
    split
    · exact stepPart_ne hr x h
    · exact showParts_ne hr l (stepPart_ne hr x h)
theorem showV_ne (H : HM) (q : ByteArray → ByteArray) (f : Nat) : ∀ (v : Val) (bs : List UInt8), bs ≠ [] → (H.showV q f v bs).2 ≠ [] := by
  induction f with
  | zero =>
    intro v bs h
    by_cases h4 : v.k = 4
    · rw [showV_string _ _ _ h4]; exact laid_ne _ h
    · cases hat : H.at v with
      | none => rw [showV_none _ _ _ h4 hat]; exact laid_ne _ h
      | some t =>
        by_cases k3 : t.kind = 3
        · rw [showV_function _ _ _ h4 hat k3]; exact laid_ne _ h
        · by_cases k4 : t.kind = 4
          · rw [showV_class _ _ _ h4 hat k4]; exact laid_ne _ h
          · rw [showV_dots _ _ h4 hat k3 k4]; exact laid_ne _ h
  | succ f ih =>
    intro v bs h
    by_cases h4 : v.k = 4
    · rw [showV_string _ _ _ h4]; exact laid_ne _ h
    · cases hat : H.at v with
      | none => rw [showV_none _ _ _ h4 hat]; exact laid_ne _ h
      | some t =>
        by_cases k3 : t.kind = 3
        · rw [showV_function _ _ _ h4 hat k3]; exact laid_ne _ h
        · by_cases k4 : t.kind = 4
          · rw [showV_class _ _ _ h4 hat k4]; exact laid_ne _ h
          · rw [showV_thing _ _ _ h4 hat k3 k4]
            unfold shownThing
            dsimp only
            have h1 := showParts_ne ih (partsOf t) (laid_ne (opens t) h)
            split
            · exact laid_ne _ h1
            · exact h1

/-- a value for people -/
def HM.show (H : HM) (q : ByteArray → ByteArray) (x : Val) : ByteArray :=
  if (plainS H x).k = 4 then (plainS H x).s else
  if (H.showV q 3 (plainS H x) []).1 = true then ⟨(H.showV q 3 (plainS H x) []).2.toArray⟩ else dotsS

theorem ShowIn.start {w W : World} {hv : Value} {H : HM} {tvs : List Value} {own : Own} (h : HRep w hv H tvs own) (hu : Up w W) : ShowIn w.heap.size W.heap.size hv H tvs own [] (W.alloc (.cells #[hv, .pointer none, .slice none 0 0] ShT)) :=
  ⟨(h.up hu).up ((Up.refl W).alloc _), fun b m hm => by
    cases h with
    | nil => cases hm
    | some hb _ _ _ h => exact h.lt b m hm,
   ⟨hu.size, by have := hu.size; simp; omega, _, _, alloc_get _ _, .inl rfl, ⟨rfl, .inl ⟨rfl, rfl⟩⟩, by simp [Value.ownBlock]⟩, by simp⟩

end Go.Proofs.YtmbipadiaggolaaGreatDoor

/- A heap that the caller made itself: what each call leaves, in one word. -/
namespace Go.Proofs.YtmbipadiaggolaaGreatDoor
open Go.RowKit
set_option linter.unusedSimpArgs false
attribute [local go_sem] ta_aa ta_ao ta_an ta_oa ta_oo ta_on m_kind_a m_kind_o m_behind_a m_behind_o m_own_a m_own_o

/-- a heap that was made behind w0, at hb -/
def Ours (w0 : World) (hb : Nat) (H : HM) (w : World) : Prop := ∃ tvs own, Rep w hb H tvs own ∧ Up w0 w ∧ ∀ b, b < w0.heap.size → own b = none

theorem Ours.base {w0 w : World} {hb : Nat} {H : HM} (h : Ours w0 hb H w) : Up w0 w := let ⟨_, _, _, h2, _⟩ := h; h2
theorem Ours.up {w0 w w' : World} {hb : Nat} {H : HM} (h : Ours w0 hb H w) (k : Up w w') : Ours w0 hb H w' := let ⟨tvs, own, h1, h2, h3⟩ := h; ⟨tvs, own, h1.up k, h2.trans k, h3⟩
theorem Ours.fresh {w0 w : World} (n : Int) (h : Up w0 w) (h0 : 0 ≤ n) (h1 : n ≤ 1048576) : Ours w0 w.heap.size ⟨n, 0, []⟩ (w.alloc (.cells #[.int .i64 n, .int .i64 0, .slice none 0 0] 46)) :=
  ⟨[], _, Rep.fresh n w h0 h1, uq, fun b hb => by have := h.size; exact if_neg (by omega)⟩
/-- an old world: a heap that is handed in is as one's own, seen from later -/
theorem Ours.later {w0 w1 w : World} {hb : Nat} {H : HM} (k : Up w0 w1) (h : Ours w1 hb H w) : Ours w0 hb H w := let ⟨tvs, own, h1, h2, h3⟩ := h; ⟨tvs, own, h1, k.trans h2, fun b hb => h3 b (Nat.lt_of_lt_of_le hb k.size)⟩

theorem Mut.base {w0 w w' : World} {own own' : Own} (h : Up w0 w) (hn : ∀ b, b < w0.heap.size → own b = none) (k : Mut own own' w w') : Up w0 w' ∧ ∀ b, b < w0.heap.size → own' b = none :=
  ⟨⟨k.os.trans h.os, k.tape.trans h.tape, k.output.trans h.output, Nat.le_trans h.size k.size, fun b hb => (k.block b (Nat.lt_of_lt_of_le hb h.size) (hn b hb)).trans (h.block b hb)⟩,
   fun b hb => (k.ext b (Nat.lt_of_lt_of_le hb h.size)).trans (hn b hb)⟩

theorem wrote_ours {w0 w : World} {hb : Nat} {H' : HM} {own : Own} {v : Value} (h : Up w0 w) (hn : ∀ b, b < w0.heap.size → own b = none) (e : Ending) (w' : World) (k : Wrote hb H' own w v e w') : e = .returned v ∧ Ours w0 hb H' w' :=
  let ⟨h1, tvs', own', h2, h3⟩ := k
  let ⟨h4, h5⟩ := Mut.base h hn h3
  ⟨h1, tvs', own', h2, h4, h5⟩

theorem Used_ours {w0 w : World} {hb : Nat} {H : HM} (h : Ours w0 hb H w) : Calls Tryz.prog 11 #[.pointer (some ⟨hb, 0, none⟩)] w fun e w' => e = .returned (.int .i64 H.used) ∧ w = w' :=
  let ⟨tvs, own, h1, _, _⟩ := h
  Used_any _ H tvs own w (.some hb _ _ _ h1)

theorem Make_ours {w0 w : World} {hb : Nat} {H : HM} (k p : Int) (h : Ours w0 hb H w) :
    Calls Tryz.prog 19 #[.pointer (some ⟨hb, 0, none⟩), .int .i64 k, .int .i64 p] w fun e w' => e = .returned (.tuple #[.int .i64 (if H.used < H.room then H.things.length else -1), .int .i64 (if H.used < H.room then 0 else 3)]) ∧ Ours w0 hb (H.make k p) w' :=
  let ⟨tvs, own, h1, h2, h3⟩ := h
  (Make_any hb H tvs own k p w h1).mono (wrote_ours h2 h3)

theorem Set_ours {w0 w : World} {hb : Nat} {H : HM} (k n : Int) (s key : ByteArray) (xk xn : Int) (xs : ByteArray) (h : Ours w0 hb H w) :
    Calls Tryz.prog 20 #[.pointer (some ⟨hb, 0, none⟩), .agg #[.int .i64 k, .int .i64 n, .string s], .string key, .agg #[.int .i64 xk, .int .i64 xn, .string xs]] w
      fun e w' => e = .returned (.tuple #[.string (H.set k n key ⟨xk, xn, xs⟩).2.1, .int .i64 (H.set k n key ⟨xk, xn, xs⟩).2.2]) ∧ Ours w0 hb (H.set k n key ⟨xk, xn, xs⟩).1 w' :=
  let ⟨tvs, own, h1, h2, h3⟩ := h
  (Set_any hb H tvs own k n s key ⟨xk, xn, xs⟩ w h1).mono (wrote_ours h2 h3)

theorem Get_ours {w0 w : World} {hb : Nat} {H : HM} (k n : Int) (s key : ByteArray) (h : Ours w0 hb H w) (hl : (plainS H ⟨k, n, s⟩).k = 4 → (key.toList == lengthS) = false) :
    Calls Tryz.prog 22 #[.pointer (some ⟨hb, 0, none⟩), .agg #[.int .i64 k, .int .i64 n, .string s], .string key] w
      fun e w' => e = .returned (.tuple #[.agg #[.int .i64 ((H.get ⟨k, n, s⟩ key 0).1).k, .int .i64 ((H.get ⟨k, n, s⟩ key 0).1).n, .string ((H.get ⟨k, n, s⟩ key 0).1).s], .string (H.get ⟨k, n, s⟩ key 0).2.1, .int .i64 (H.get ⟨k, n, s⟩ key 0).2.2]) ∧ Ours w0 hb H w' :=
  let ⟨tvs, own, h1, h2, h3⟩ := h
  (Get_any _ H tvs own k n s key w (.some hb _ _ _ h1) hl).mono fun _ _ ⟨g1, g2⟩ => ⟨g1, tvs, own, h1.up g2, h2.trans g2, h3⟩

end Go.Proofs.YtmbipadiaggolaaGreatDoor

/- The program's heap and the document's, side by side over one model. -/
namespace Go.Proofs.YtmbipadiaggolaaGreatDoor
open Go.RowKit
set_option linter.unusedSimpArgs false

theorem Rep.off {w w' : World} {hb : Nat} {H : HM} {tvs : List Value} {own : Own} (h : Rep w hb H tvs own) (hk : ∀ b m, own b = some m → w'.heap[b]? = w.heap[b]?) (hs : w.heap.size ≤ w'.heap.size) : Rep w' hb H tvs own where
  lt b m hm := Nat.lt_of_lt_of_le (h.lt b m hm) hs
  mine := h.mine
  head := let ⟨tv, h1, h2⟩ := h.head; ⟨tv, by rw [hk hb _ h.mine]; exact h1, h2.keep fun b hb => ⟨hk b _ hb, rfl⟩⟩
  len := h.len
  things i t ht := let ⟨tv, h1, h2⟩ := h.things i t ht; ⟨tv, h1, h2.keep (by have := (List.getElem?_eq_some_iff.1 h1).1; omega) (fun _ _ => rfl) fun b m hm _ => ⟨hk b m hm, rfl⟩⟩
  room0 := h.room0
  roomU := h.roomU
  roomM := h.roomM
  few := h.few

structure Both (w : World) (hb rb : Nat) (H : HM) (tvs : List Value) (rs : List RT) (o1 o2 : Own) : Prop where
  p : Rep w hb H tvs o1
  r : RRep w rb H rs o2
  apart : ∀ b, o1 b ≠ none → o2 b = none
  behind : H.Behind

/-- what both heaps leave alone -/
structure Mut2 (o1 o2 o1' o2' : Own) (w w' : World) : Prop where
  os : w'.os = w.os
  tape : w'.tape = w.tape
  output : w'.output = w.output
  size : w.heap.size ≤ w'.heap.size
  block : ∀ b, b < w.heap.size → o1 b = none → o2 b = none → w'.heap[b]? = w.heap[b]?
  ext1 : ∀ b, b < w.heap.size → o1' b = o1 b
  ext2 : ∀ b, b < w.heap.size → o2' b = o2 b

theorem Both.up {w w' : World} {hb rb : Nat} {H : HM} {tvs : List Value} {rs : List RT} {o1 o2 : Own} (h : Both w hb rb H tvs rs o1 o2) (k : Up w w') : Both w' hb rb H tvs rs o1 o2 := ⟨h.p.up k, h.r.up k, h.apart, h.behind⟩
theorem Up.mut2 {w w' : World} (k : Up w w') (o1 o2 : Own) : Mut2 o1 o2 o1 o2 w w' := ⟨k.os, k.tape, k.output, k.size, fun b hb _ _ => k.block b hb, fun _ _ => rfl, fun _ _ => rfl⟩
theorem Mut2.trans {o1 o2 p1 p2 q1 q2 : Own} {a b c : World} (h : Mut2 o1 o2 p1 p2 a b) (k : Mut2 p1 p2 q1 q2 b c) : Mut2 o1 o2 q1 q2 a c :=
  ⟨k.os.trans h.os, k.tape.trans h.tape, k.output.trans h.output, Nat.le_trans h.size k.size,
   fun x hx h1 h2 => (k.block x (Nat.lt_of_lt_of_le hx h.size) (by rw [h.ext1 x hx]; exact h1) (by rw [h.ext2 x hx]; exact h2)).trans (h.block x hx h1 h2),
   fun x hx => (k.ext1 x (Nat.lt_of_lt_of_le hx h.size)).trans (h.ext1 x hx), fun x hx => (k.ext2 x (Nat.lt_of_lt_of_le hx h.size)).trans (h.ext2 x hx)⟩

/-- the document's heap, where the program's has been written -/
theorem Both.late {w W w2 : World} {hb rb : Nat} {H : HM} {tvs : List Value} {rs : List RT} {o1 o2 o1' : Own} (h : Both w hb rb H tvs rs o1 o2) (k1 : Up w W) (hM : Mut o1 o1' W w2) : RRep w2 rb H rs o2 ∧ (∀ b m, o2 b = some m → o1 b = none) :=
  have hn : ∀ b m, o2 b = some m → o1 b = none := fun b m hm => by
    cases ho : o1 b with
    | none => rfl
    | some q => have := h.apart b (by rw [ho]; simp); rw [hm] at this; cases this
  ⟨(h.r.up k1).off (fun b m hm => hM.block b ((h.r.up k1).lt b m hm) (hn b m hm)) hM.size, hn⟩

theorem both_two {w W w2 W2 w3 w4 : World} {hb rb : Nat} {H H' : HM} {tvs tvs' : List Value} {rs rs' : List RT} {o1 o2 o1' o2' : Own} (h : Both w hb rb H tvs rs o1 o2) (k1 : Up w W) (hR2 : Rep w2 hb H' tvs' o1') (hM2 : Mut o1 o1' W w2) (k2 : Up w2 W2)
    (hR3 : RRep w3 rb H' rs' o2') (hM3 : Mut o2 o2' W2 w3) (k3 : Up w3 w4) (hB : H'.Behind) : Both w4 hb rb H' tvs' rs' o1' o2' ∧ Mut2 o1 o2 o1' o2' w w4 := by
  have hl2 : w2.heap.size ≤ W2.heap.size := k2.size
  have hl1 : W.heap.size ≤ w2.heap.size := hM2.size
  have hl0 : w.heap.size ≤ W.heap.size := k1.size
  have ha : ∀ b, o1' b ≠ none → o2 b = none := fun b hb => by
    rcases Nat.lt_or_ge b W.heap.size with q | q
    · rw [hM2.ext b q] at hb; exact h.apart b hb
    · cases ho : o2 b with
      | none => rfl
      | some m => have := h.r.lt b m ho; omega
  have ha2 : ∀ b, o1' b ≠ none → o2' b = none := fun b hb => by
    have hb2 : b < w2.heap.size := by
      cases ho : o1' b with
      | none => exact absurd ho hb
      | some m => exact hR2.lt b m ho
    rw [hM3.ext b (by omega)]
    exact ha b hb
  have hp : Rep w3 hb H' tvs' o1' := (hR2.up k2).off (fun b m hm => hM3.block b ((hR2.up k2).lt b m hm) (ha b (by rw [hm]; simp))) hM3.size
  refine ⟨⟨hp.up k3, hR3.up k3, ha2, hB⟩, ?_⟩
  have m1 := Mut.after k1 hM2
  have m2 := Mut.after k2 hM3
  exact ⟨k3.os.trans (m2.os.trans m1.os), k3.tape.trans (m2.tape.trans m1.tape), k3.output.trans (m2.output.trans m1.output), Nat.le_trans m1.size (Nat.le_trans m2.size k3.size),
    fun b hb' n1 n2 => (k3.block b (by have := m1.size; have := m2.size; omega)).trans ((m2.block b (by have := m1.size; omega) n2).trans (m1.block b hb' n1)),
    fun b hb' => m1.ext b hb', fun b hb' => m2.ext b (by have := m1.size; omega)⟩

theorem Both.new1 {w : World} {hb rb : Nat} {H : HM} {tvs : List Value} {rs : List RT} {o1 o2 : Own} (h : Both w hb rb H tvs rs o1 o2) {b : Nat} (hb : w.heap.size ≤ b) : o1 b = none := by
  cases ho : o1 b with
  | none => rfl
  | some m => have := h.p.lt b m ho; omega
theorem Both.new2 {w : World} {hb rb : Nat} {H : HM} {tvs : List Value} {rs : List RT} {o1 o2 : Own} (h : Both w hb rb H tvs rs o1 o2) {b : Nat} (hb : w.heap.size ≤ b) : o2 b = none := by
  cases ho : o2 b with
  | none => rfl
  | some m => have := h.r.lt b m ho; omega

theorem behind_set {H : HM} (h : H.Behind) {N : Nat} {t t' : Thing} (ht : H.things[N]? = some t) (hk : t'.kind = t.kind) (hp : t'.proto = t.proto) (a b : Int) : HM.Behind ⟨a, b, H.things.set N t'⟩ := by
  have hall : ∀ (j : Nat) (u : Thing), H.things[j]? = some u → ∃ u', (H.things.set N t')[j]? = some u' ∧ u'.kind = u.kind := fun j u hu => by
    rw [List.getElem?_set]
    by_cases e : N = j
    · subst e
      have hl := (List.getElem?_eq_some_iff.1 hu).1
      rw [ht] at hu
      cases hu
      exact ⟨t', by simp [hl], hk⟩
    · rw [if_neg e]
      exact ⟨u, hu, rfl⟩
  intro i u hu
  have hu : (H.things.set N t')[i]? = some u := hu
  have key : ∃ v, H.things[i]? = some v ∧ v.proto = u.proto := by
    rcases getSet _ _ _ _ _ hu with ⟨rfl, rfl⟩ | ⟨_, hu⟩
    · exact ⟨t, ht, hp.symm⟩
    · exact ⟨u, hu, rfl⟩
  obtain ⟨v, hv, hvp⟩ := key
  rw [← hvp]
  rcases h i v hv with h1 | ⟨x, h1, h2⟩
  · exact .inl h1
  · obtain ⟨x', h3, h4⟩ := hall _ _ h1
    exact .inr ⟨x', h3, by rw [h4]; exact h2⟩
theorem behind_push {H : HM} (h : H.Behind) (n : Int) (x : Val) : (H.push n x).1.Behind := by
  unfold HM.push
  split
  · split
    · exact h
    · rename_i t ht
      split
      · split
        · rename_i hk _
          exact fun i u hu => by
            have hw := hu
            unfold HM.pushAt at hw
            rcases getSet _ _ _ _ _ hw with ⟨_, rfl⟩ | ⟨hne, hu2⟩
            · exact .inl (show (-1 : Int) < 0 by decide)
            · rcases h i u hu2 with h1 | ⟨y, h1, h2⟩
              · exact .inl h1
              · refine .inr ⟨y, ?_, h2⟩
                show (H.things.set n.toNat _)[u.proto.toNat]? = some y
                rw [List.getElem?_set, if_neg]
                · exact h1
                · intro e
                  rw [← e, ht] at h1
                  cases h1
                  exact h2 hk
        · exact h
      · exact h
  · exact h
theorem behind_setAt {H : HM} (h : H.Behind) (n : Nat) (key : ByteArray) (x : Val) (m : Int) : (H.setAt n key x m).Behind := by
  unfold HM.setAt
  split
  · rename_i t ht; exact behind_set (t' := ⟨t.kind, t.proto, setSlot t.slots key (plainS H x), t.vals⟩) h ht rfl rfl _ _
  · exact h
theorem behind_mset {H : HM} (h : H.Behind) (k n : Int) (key : ByteArray) (x : Val) : (H.set k n key x).1.Behind := by
  unfold HM.set
  split
  · split
    · exact h
    · split
      · exact h
      · split
        · exact behind_setAt h _ _ _ _
        · split
          · exact behind_setAt h _ _ _ _
          · exact h
  · exact h
theorem behind_put {H : HM} (h : H.Behind) (v i x : Val) : (H.put v i x).1.Behind := by
  unfold HM.put
  split
  · split
    · exact h
    · rename_i t ht
      split
      · exact behind_set (t' := ⟨t.kind, t.proto, t.slots, t.vals.set (plainS H i).n.toNat (plainS H x)⟩) h ht rfl rfl _ _
      · split
        · exact behind_push h _ _
        · exact h
  · split
    · exact behind_mset h _ _ _ _
    · exact h
theorem behind_make {H : HM} (h : H.Behind) (k p : Int) : (H.make k p).Behind := by
  unfold HM.make
  split
  · intro i u hu
    have hu : (H.things ++ [⟨mkKind k, H.mkProto k p, [], []⟩])[i]? = some u := hu
    have old : ∀ (j : Nat) (y : Thing), H.things[j]? = some y → (H.things ++ [⟨mkKind k, H.mkProto k p, [], []⟩])[j]? = some y := fun j y hy => by
      rw [List.getElem?_append_left (List.getElem?_eq_some_iff.1 hy).1]; exact hy
    rcases Nat.lt_or_ge i H.things.length with hi | hi
    · rw [List.getElem?_append_left hi] at hu
      rcases h i u hu with h1 | ⟨y, h1, h2⟩
      · exact .inl h1
      · exact .inr ⟨y, old _ _ h1, h2⟩
    · rw [List.getElem?_append_right hi] at hu
      have : u = ⟨mkKind k, H.mkProto k p, [], []⟩ := by
        cases hj : i - H.things.length with
        | zero => rw [hj] at hu; simpa using hu.symm
        | succ m => rw [hj] at hu; simp at hu
      subst this
      have hmk : H.mkProto k p = -1 ∨ (H.mkProto k p = p ∧ H.there p = true ∧ (H.kindOf p = 1 ∨ H.kindOf p = 4)) := by
        unfold HM.mkProto
        split
        · exact .inl rfl
        · split
          · rename_i hc; exact .inr ⟨rfl, hc.1, hc.2⟩
          · exact .inl rfl
      rcases hmk with hm | ⟨hm, hc1, hc2⟩
      · exact .inl (by show H.mkProto k p < 0; rw [hm]; decide)
      · obtain ⟨h0, y, hy⟩ := there_things hc1
        have hk : H.kindOf p = y.kind := by simp [HM.kindOf, hc1, hy]
        exact .inr ⟨y, old _ _ (by show H.things[(H.mkProto k p).toNat]? = some y; rw [hm]; exact hy), by rw [hk] at hc2; omega⟩
  · exact h

/-- the heap behind a step -/
def HM.step (H : HM) (K N M : Int) (v x z : Val) (key : ByteArray) : HM :=
  if K = 1 then H.make N M else if K = 3 then (H.set v.k v.n key x).1 else if K = 6 then (H.put v x z).1 else if K = 7 then (H.push N v).1 else H

/-- what a step of both leaves -/
def Stepped (hb rb : Nat) (H' : HM) (o1 o2 : Own) (w : World) (e : Ending) (w' : World) : Prop :=
  e = .returned (.bool true) ∧ ∃ tvs' rs' o1' o2', Both w' hb rb H' tvs' rs' o1' o2' ∧ Mut2 o1 o2 o1' o2' w w'

end Go.Proofs.YtmbipadiaggolaaGreatDoor

/- What is so of every heap that is played: short texts, references that stand for things. -/
namespace Go.Proofs.YtmbipadiaggolaaGreatDoor
open Go.RowKit
set_option linter.unusedSimpArgs false

structure Val.Good (n B : Nat) (x : Val) : Prop where
  short : x.s.size ≤ B
  ref : x.k = 5 → 0 ≤ x.n ∧ x.n < n
  kinds : x.k = 0 ∨ x.k = 1 ∨ x.k = 2 ∨ x.k = 3 ∨ x.k = 4 ∨ x.k = 5
  num : x.k = 3 → -9007199254740991 ≤ x.n ∧ x.n ≤ 9007199254740991

def Thing.Good (n B : Nat) (t : Thing) : Prop := (∀ y ∈ t.slots, y.1.size ≤ B ∧ y.2.Good n B) ∧ (∀ y ∈ t.vals, y.Good n B)
def HM.Good (H : HM) (B : Nat) : Prop := ∀ (i : Nat) (t : Thing), H.things[i]? = some t → t.Good H.things.length B

theorem Val.Good.more {n m B : Nat} {x : Val} (h : x.Good n B) (hm : n ≤ m) : x.Good m B := ⟨h.short, fun k => ⟨(h.ref k).1, by have := (h.ref k).2; omega⟩, h.kinds, h.num⟩
theorem Thing.Good.more {n m B : Nat} {t : Thing} (h : t.Good n B) (hm : n ≤ m) : t.Good m B := ⟨fun y hy => ⟨(h.1 y hy).1, (h.1 y hy).2.more hm⟩, fun y hy => (h.2 y hy).more hm⟩

theorem clampN_in (n : Int) : -9007199254740991 ≤ clampN n ∧ clampN n ≤ 9007199254740991 := by
  unfold clampN
  split
  · omega
  · split <;> omega

theorem plain_short (H : HM) (x : Val) : (plainS H x).s.size ≤ x.s.size := by
  unfold plainS
  repeat' split
  all_goals first | exact Nat.le_refl _ | exact Nat.zero_le _
theorem plain_good (H : HM) (x : Val) {B : Nat} (hs : x.s.size ≤ B) : (plainS H x).Good H.things.length B where
  short := Nat.le_trans (plain_short H x) hs
  ref h := by
    obtain ⟨e, ht⟩ := plainS_ref h
    rw [e]
    simpa [HM.there] using ht
  kinds := plainS_kinds H x
  num h := by
    unfold plainS at h ⊢
    repeat' split at h
    all_goals simp_all [clampN_in]

theorem good_set {H : HM} {B : Nat} (h : H.Good B) {N : Nat} {t' : Thing} (ht : t'.Good H.things.length B) (a b : Int) : HM.Good ⟨a, b, H.things.set N t'⟩ B := by
  intro i u hu
  have hu : (H.things.set N t')[i]? = some u := hu
  show u.Good (H.things.set N t').length B
  rw [List.length_set]
  rcases getSet _ _ _ _ _ hu with ⟨rfl, rfl⟩ | ⟨_, hu⟩
  · exact ht
  · exact h i u hu

theorem good_make {H : HM} {B : Nat} (h : H.Good B) (k p : Int) : (H.make k p).Good B := by
  unfold HM.make
  split
  · intro i u hu
    have hu : (H.things ++ [⟨mkKind k, H.mkProto k p, [], []⟩])[i]? = some u := hu
    show u.Good (H.things ++ [_]).length B
    rcases Nat.lt_or_ge i H.things.length with hi | hi
    · rw [List.getElem?_append_left hi] at hu
      exact (h i u hu).more (by simp)
    · rw [List.getElem?_append_right hi] at hu
      have : u = ⟨mkKind k, H.mkProto k p, [], []⟩ := by
        cases hj : i - H.things.length with
        | zero => rw [hj] at hu; simpa using hu.symm
        | succ m => rw [hj] at hu; simp at hu
      subst this
      exact ⟨fun y hy => by simp at hy, fun y hy => by simp at hy⟩
  · exact h
theorem good_push {H : HM} {B : Nat} (h : H.Good B) (n : Int) (x : Val) (hx : x.s.size ≤ B) : (H.push n x).1.Good B := by
  unfold HM.push
  split
  · split
    · exact h
    · rename_i t ht
      split
      · split
        · refine good_set h ⟨fun y hy => by simp at hy, fun y hy => ?_⟩ _ _
          rcases List.mem_append.1 hy with hy | hy
          · exact (h _ t ht).2 y hy
          · rw [List.mem_singleton] at hy
            subst hy
            exact plain_good H x hx
        · exact h
      · exact h
  · exact h
theorem setSlot_mem {l : List (ByteArray × Val)} {s : ByteArray} {x : Val} {y : ByteArray × Val} (h : y ∈ setSlot l s x) : y ∈ l ∨ y = (s, x) := by
  unfold setSlot at h
  split at h
  · exact List.mem_or_eq_of_mem_set h
  · rcases List.mem_append.1 h with h | h
    · exact .inl h
    · exact .inr (List.mem_singleton.1 h)
theorem good_setAt {H : HM} {B : Nat} (h : H.Good B) (n : Nat) (key : ByteArray) (x : Val) (m : Int) (hk : key.size ≤ B) (hx : x.s.size ≤ B) : (H.setAt n key x m).Good B := by
  unfold HM.setAt
  split
  · rename_i t ht
    refine good_set (t' := ⟨t.kind, t.proto, setSlot t.slots key (plainS H x), t.vals⟩) h ⟨fun y hy => ?_, (h _ t ht).2⟩ _ _
    rcases setSlot_mem hy with hy | rfl
    · exact (h _ t ht).1 y hy
    · exact ⟨hk, plain_good H x hx⟩
  · exact h
theorem good_mset {H : HM} {B : Nat} (h : H.Good B) (k n : Int) (key : ByteArray) (x : Val) (hk : key.size ≤ B) (hx : x.s.size ≤ B) : (H.set k n key x).1.Good B := by
  unfold HM.set
  split
  · split
    · exact h
    · split
      · exact h
      · split
        · exact good_setAt h _ _ _ _ hk hx
        · split
          · exact good_setAt h _ _ _ _ hk hx
          · exact h
  · exact h
theorem good_put {H : HM} {B : Nat} (h : H.Good B) (v i x : Val) (hi : i.s.size ≤ B) (hx : x.s.size ≤ B) : (H.put v i x).1.Good B := by
  unfold HM.put
  split
  · split
    · exact h
    · rename_i t ht
      split
      · refine good_set (t' := ⟨t.kind, t.proto, t.slots, t.vals.set (plainS H i).n.toNat (plainS H x)⟩) h ⟨(h _ t ht).1, fun y hy => ?_⟩ _ _
        rcases List.mem_or_eq_of_mem_set hy with hy | rfl
        · exact (h _ t ht).2 y hy
        · exact plain_good H x hx
      · split
        · exact good_push h _ _ hx
        · exact h
  · split
    · exact good_mset h _ _ _ _ (Nat.le_trans (plain_short H i) hi) hx
    · exact h

/-- a step keeps a heap good -/
theorem good_step {H : HM} {B : Nat} (h : H.Good B) (K N M : Int) (v x z : Val) (key : ByteArray) (hv : v.s.size ≤ B) (hx : x.s.size ≤ B) (hz : z.s.size ≤ B) (hk : key.size ≤ B) : (H.step K N M v x z key).Good B := by
  unfold HM.step
  split
  · exact good_make h _ _
  · split
    · exact good_mset h _ _ _ _ hk hx
    · split
      · exact good_put h _ _ _ hx hz
      · split
        · exact good_push h _ _ hv
        · exact h
theorem good_none (r u : Int) (B : Nat) : HM.Good ⟨r, u, []⟩ B := fun i t ht => by simp at ht

theorem mem_things {H : HM} {B : Nat} (h : H.Good B) {i : Nat} {t : Thing} (ht : H.things[i]? = some t) {y : Val} (hy : y ∈ t.vals ∨ ∃ k, (k, y) ∈ t.slots) : y.Good H.things.length B := by
  rcases hy with hy | ⟨k, hy⟩
  · exact (h i t ht).2 y hy
  · exact ((h i t ht).1 _ hy).2

end Go.Proofs.YtmbipadiaggolaaGreatDoor
