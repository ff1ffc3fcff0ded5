import Derived.IntWalk
import Derived.Test.YtmbipadiaggolaaGreatDoorM20
import Derived.Test.YtmbipadiaggolaaGreatDoorM35
/- YtmbipadiaggolaaGreatDoorM36: lemmas of the proof, in order: CutS, InO, WithS. -/
/- Plain law: what the program shows of a value is what the document shows of it. -/
namespace Go.Proofs.YtmbipadiaggolaaGreatDoor
open Go.RowKit
set_option linter.unusedSimpArgs false

/-- a value within things, no text cut -/
def allA (rec : Val → ByteArray) : List Val → Bool → ByteArray → ByteArray
  | [], _, s => s
  | v :: l, first, s => allA rec l false ((if first then s else s ++ commaS) ++ rec v)
def allO (rec : Val → ByteArray) : List (ByteArray × Val) → Bool → ByteArray → ByteArray
  | [], _, s => s
  | x :: l, first, s => allO rec l false ((if first then s else s ++ commaS) ++ x.1 ++ colonS ++ rec x.2)
def HM.allV (H : HM) : Nat → Val → ByteArray
  | f, v =>
    if v.k = 4 then quoteS v.s
    else if v.k ≠ 5 then textOf v
    else match H.things[v.n.toNat]? with
    | none => ⟨#[]⟩
    | some t =>
      if t.kind = 3 then functionS
      else if t.kind = 4 then classS
      else match f with
      | 0 => dotsS
      | f + 1 => if t.kind = 2 then allA (H.allV f) t.vals true ⟨#[91]⟩ ++ ⟨#[93]⟩ else allO (H.allV f) t.slots true ⟨#[123]⟩ ++ ⟨#[125]⟩

def Cut (a b : ByteArray) : Prop := a = b ∨ (65536 < a.size ∧ 65536 < b.size)
theorem Cut.refl (a : ByteArray) : Cut a a := .inl rfl
theorem Cut.app {a b c d : ByteArray} (h : Cut a b) (k : Cut c d) : Cut (a ++ c) (b ++ d) := by
  rcases h with rfl | ⟨h1, h2⟩
  · rcases k with rfl | ⟨k1, k2⟩
    · exact .inl rfl
    · exact .inr ⟨by rw [ByteArray.size_append]; omega, by rw [ByteArray.size_append]; omega⟩
  · exact .inr ⟨by rw [ByteArray.size_append]; omega, by rw [ByteArray.size_append]; omega⟩

theorem allA_size (rec : Val → ByteArray) : ∀ (l : List Val) (b : Bool) (s : ByteArray), s.size ≤ (allA rec l b s).size
  | [], _, _ => Nat.le_refl _
  | v :: l, b, s => by
    unfold allA
    refine Nat.le_trans ?_ (allA_size rec l false _)
    cases b
    · rw [if_neg (by decide), ByteArray.size_append, ByteArray.size_append]; omega
    · rw [if_pos rfl, ByteArray.size_append]; omega
theorem allO_size (rec : Val → ByteArray) : ∀ (l : List (ByteArray × Val)) (b : Bool) (s : ByteArray), s.size ≤ (allO rec l b s).size
  | [], _, _ => Nat.le_refl _
  | v :: l, b, s => by
    unfold allO
    refine Nat.le_trans ?_ (allO_size rec l false _)
    cases b
    · rw [if_neg (by decide)]; simp only [ByteArray.size_append]; omega
    · rw [if_pos rfl]; simp only [ByteArray.size_append]; omega

theorem runA_cut (r1 r2 : Val → ByteArray) (h : ∀ v, Cut (r1 v) (r2 v)) : ∀ (l : List Val) (b : Bool) (s s' : ByteArray), Cut s s' → Cut (runA r1 l b s) (allA r2 l b s')
  | [], _, _, _, hs => hs
  | v :: l, b, s, s', hs => by
    unfold runA
    split
    · unfold allA
      exact runA_cut r1 r2 h l false _ _ (Cut.app (by cases b; exact Cut.app hs (Cut.refl _); exact hs) (h v))
    · rename_i hb
      refine .inr ⟨by omega, ?_⟩
      have h1 := allA_size r2 (v :: l) b s'
      rcases hs with rfl | ⟨_, h2⟩
      · omega
      · omega
theorem runO_cut (r1 r2 : Val → ByteArray) (h : ∀ v, Cut (r1 v) (r2 v)) : ∀ (l : List (ByteArray × Val)) (b : Bool) (s s' : ByteArray), Cut s s' → Cut (runO r1 l b s) (allO r2 l b s')
  | [], _, _, _, hs => hs
  | v :: l, b, s, s', hs => by
    unfold runO
    split
    · unfold allO
      exact runO_cut r1 r2 h l false _ _ (Cut.app (Cut.app (Cut.app (by cases b; exact Cut.app hs (Cut.refl _); exact hs) (Cut.refl _)) (Cut.refl _)) (h v.2))
    · rename_i hb
      refine .inr ⟨by omega, ?_⟩
      have h1 := allO_size r2 (v :: l) b s'
      rcases hs with rfl | ⟨_, h2⟩
      · omega
      · omega

theorem inV_cut (H : HM) : ∀ (f : Nat) (v : Val), Cut (H.inV f v) (H.allV f v)
  | 0, v => by
    unfold HM.inV HM.allV
    exact .inl rfl
  | f + 1, v => by
    unfold HM.inV HM.allV
    by_cases h4 : v.k = 4
    · rw [if_pos h4, if_pos h4]; exact .inl rfl
    rw [if_neg h4, if_neg h4]
    by_cases h5 : v.k ≠ 5
    · rw [if_pos h5, if_pos h5]; exact .inl rfl
    rw [if_neg h5, if_neg h5]
    cases ht : H.things[v.n.toNat]? with
    | none => exact .inl rfl
    | some t =>
      dsimp only
      by_cases k3 : t.kind = 3
      · rw [if_pos k3, if_pos k3]; exact .inl rfl
      rw [if_neg k3, if_neg k3]
      by_cases k4 : t.kind = 4
      · rw [if_pos k4, if_pos k4]; exact .inl rfl
      rw [if_neg k4, if_neg k4]
      by_cases k2 : t.kind = 2
      · rw [if_pos k2, if_pos k2]
        exact Cut.app (runA_cut _ _ (inV_cut H f) _ _ _ _ (Cut.refl _)) (Cut.refl _)
      · rw [if_neg k2, if_neg k2]
        exact Cut.app (runO_cut _ _ (inV_cut H f) _ _ _ _ (Cut.refl _)) (Cut.refl _)

/-- a text is laid behind another: all of it, or it does not fit -/
def Fits (bs : List UInt8) (t : ByteArray) (r : Bool × List UInt8) : Prop :=
  (bs.length + t.size ≤ 65536 ∧ r = (true, bs ++ t.data.toList)) ∨ (65536 < bs.length + t.size ∧ r.1 = false)

theorem say_fits (bs : List UInt8) (s : ByteArray) : Fits bs s (say bs s) := by
  unfold say laid
  by_cases h : fitsB bs s = true
  · left
    refine ⟨by unfold fitsB at h; simpa using h, ?_⟩
    rw [if_pos h, h]
  · right
    refine ⟨by unfold fitsB at h; simpa using h, by simpa using h⟩

theorem Fits.seq {bs : List UInt8} {t t2 : ByteArray} {r r2 : Bool × List UInt8} (h : Fits bs t r) (k : r.1 = true → r.2.length ≤ 65536 → Fits r.2 t2 r2) (k2 : r.1 = false → r2.1 = false) : Fits bs (t ++ t2) r2 := by
  rcases h with ⟨h1, rfl⟩ | ⟨h1, h2⟩
  · have hl : t.data.toList.length = t.size := by simp
    rcases k rfl (by simp only [List.length_append]; omega) with ⟨h3, h4⟩ | ⟨h3, h4⟩
    · simp only [List.length_append] at h3 h4
      refine .inl ⟨by rw [ByteArray.size_append]; omega, by rw [h4]; simp [ByteArray.data_append]⟩
    · simp only [List.length_append] at h3
      exact .inr ⟨by rw [ByteArray.size_append]; omega, h4⟩
  · exact .inr ⟨by rw [ByteArray.size_append]; omega, k2 h2⟩
theorem Fits.none {bs : List UInt8} (h : bs.length ≤ 65536) : Fits bs ⟨#[]⟩ (true, bs) := .inl ⟨by show bs.length + 0 ≤ 65536; omega, by simp⟩

theorem ba_nil (a : ByteArray) : (⟨#[]⟩ : ByteArray) ++ a = a := by
  apply ByteArray.ext
  simp [ByteArray.data_append]
theorem ba_nil2 (a : ByteArray) : a ++ (⟨#[]⟩ : ByteArray) = a := by
  apply ByteArray.ext
  simp [ByteArray.data_append]

/-- what a part adds -/
def partT (rec : Val → ByteArray) (x : Part) : ByteArray := (if 0 < x.i then commaS else ⟨#[]⟩) ++ ((if x.keyed = true then x.key ++ colonS else ⟨#[]⟩) ++ rec x.v)
def partsT (rec : Val → ByteArray) : List Part → ByteArray
  | [] => ⟨#[]⟩
  | x :: l => partT rec x ++ partsT rec l

theorem stepPart_fits (rec : Val → List UInt8 → Bool × List UInt8) (full : Val → ByteArray) (x : Part) (bs : List UInt8) (hb : bs.length ≤ 65536) (h : ∀ b : List UInt8, b.length ≤ 65536 → Fits b (full x.v) (rec x.v b)) : Fits bs (partT full x) (stepPart rec x bs) := by
  unfold stepPart partT
  dsimp only
  have h1 : Fits bs (if 0 < x.i then commaS else ⟨#[]⟩) (if 0 < x.i then say bs commaS else (true, bs)) := by
    split
    · exact say_fits _ _
    · exact Fits.none hb
  generalize (if 0 < x.i then say bs commaS else (true, bs)) = a at h1 ⊢
  refine h1.seq (fun ha hl => ?_) (fun ha => by rw [if_pos (show a.1 = false from ha)])
  rw [if_neg (show ¬ a.1 = false by rw [ha]; decide)]
  have h2 : Fits a.2 (if x.keyed = true then x.key ++ colonS else ⟨#[]⟩) (if x.keyed = true then say a.2 (x.key ++ colonS) else (true, a.2)) := by
    split
    · exact say_fits _ _
    · exact Fits.none hl
  generalize (if x.keyed = true then say a.2 (x.key ++ colonS) else (true, a.2)) = b at h2 ⊢
  refine h2.seq (fun hb2 hl2 => ?_) (fun hb2 => by rw [if_pos (show b.1 = false from hb2)])
  rw [if_neg (show ¬ b.1 = false by rw [hb2]; decide)]
  exact h _ hl2

theorem showParts_fits (rec : Val → List UInt8 → Bool × List UInt8) (full : Val → ByteArray) : ∀ (l : List Part) (bs : List UInt8), bs.length ≤ 65536 → (∀ x ∈ l, ∀ b : List UInt8, b.length ≤ 65536 → Fits b (full x.v) (rec x.v b)) → Fits bs (partsT full l) (showParts rec l bs)
  | [], bs, hb, _ => by unfold partsT showParts; exact Fits.none hb
  | x :: l, bs, hb, h => by
    unfold partsT showParts
    refine (stepPart_fits rec full x bs hb (h x (by simp))).seq (fun ha hl => ?_) (fun ha => by rw [if_pos ha])
    rw [if_neg (by rw [ha]; decide)]
    exact showParts_fits rec full l _ hl (fun y hy => h y (List.mem_cons_of_mem _ hy))

theorem partsT_cons (rec : Val → ByteArray) (x : Part) (l : List Part) : partsT rec (x :: l) = partT rec x ++ partsT rec l := rfl
theorem allA_parts (rec : Val → ByteArray) : ∀ (l : List Val) (k : Nat) (s : ByteArray), allA rec l (k == 0) s = s ++ partsT rec (l.mapIdx fun i v => ⟨i + k, ⟨#[]⟩, false, v⟩)
  | [], k, s => by simp only [allA, List.mapIdx_nil, partsT, ba_nil2]
  | v :: l, k, s => by
    have ih := allA_parts rec l (k + 1) ((if (k == 0) = true then s else s ++ commaS) ++ rec v)
    rw [show ((k + 1) == 0) = false by simp] at ih
    unfold allA
    rw [ih, List.mapIdx_cons, partsT_cons]
    unfold partT
    dsimp only
    rw [if_neg (show ¬ (false = true) by decide), ba_nil]
    have e : (fun i (v : Val) => (⟨i + (k + 1), ⟨#[]⟩, false, v⟩ : Part)) = (fun i v => ⟨i + 1 + k, ⟨#[]⟩, false, v⟩) := by
      funext i v
      rw [show i + (k + 1) = i + 1 + k by omega]
    rw [e]
    by_cases hk : k = 0
    · subst hk
      rw [if_pos (by decide), if_neg (by decide), ba_nil, ByteArray.append_assoc]
    · rw [if_neg (by simpa using hk), if_pos (by omega)]
      simp only [ByteArray.append_assoc]
theorem allO_parts (rec : Val → ByteArray) : ∀ (l : List (ByteArray × Val)) (k : Nat) (s : ByteArray), allO rec l (k == 0) s = s ++ partsT rec (l.mapIdx fun i x => ⟨i + k, x.1, true, x.2⟩)
  | [], k, s => by simp only [allO, List.mapIdx_nil, partsT, ba_nil2]
  | v :: l, k, s => by
    have ih := allO_parts rec l (k + 1) ((if (k == 0) = true then s else s ++ commaS) ++ v.1 ++ colonS ++ rec v.2)
    rw [show ((k + 1) == 0) = false by simp] at ih
    unfold allO
    rw [ih, List.mapIdx_cons, partsT_cons]
    unfold partT
    dsimp only
    rw [if_pos rfl]
    have e : (fun i (x : ByteArray × Val) => (⟨i + (k + 1), x.1, true, x.2⟩ : Part)) = (fun i x => ⟨i + 1 + k, x.1, true, x.2⟩) := by
      funext i x
      rw [show i + (k + 1) = i + 1 + k by omega]
    rw [e]
    by_cases hk : k = 0
    · subst hk
      rw [if_pos (by decide), if_neg (by decide), ba_nil]
      simp only [ByteArray.append_assoc]
    · rw [if_neg (by simpa using hk), if_pos (by omega)]
      simp only [ByteArray.append_assoc]

theorem shownThing_fits (rec : Val → List UInt8 → Bool × List UInt8) (full : Val → ByteArray) (t : Thing) (bs : List UInt8) (h : ∀ x ∈ partsOf t, ∀ b : List UInt8, b.length ≤ 65536 → Fits b (full x.v) (rec x.v b)) :
    Fits bs (opens t ++ (partsT full (partsOf t) ++ closes t)) (shownThing rec t bs) := by
  unfold shownThing
  dsimp only
  refine (say_fits bs (opens t)).seq (fun ha hl => ?_) (fun ha => ?_)
  · have ha : fitsB bs (opens t) = true := ha
    have hl : (laid bs (opens t)).length ≤ 65536 := hl
    rw [ha]
    refine (showParts_fits rec full (partsOf t) (laid bs (opens t)) hl h).seq (fun hb _ => ?_) (fun hb => ?_)
    · rw [if_pos (by rw [hb]; decide)]; exact say_fits _ _
    · rw [if_neg (by rw [hb]; decide)]
  · have ha : fitsB bs (opens t) = false := ha
    rw [if_neg (by rw [ha]; simp)]

theorem parts_mem {t : Thing} {x : Part} (h : x ∈ partsOf t) : x.v ∈ t.vals ∨ ∃ k, (k, x.v) ∈ t.slots ∧ x.key = k := by
  unfold partsOf at h
  split at h
  · obtain ⟨i, hi, rfl⟩ := List.mem_mapIdx.1 h
    exact .inl (List.getElem_mem hi)
  · obtain ⟨i, hi, rfl⟩ := List.mem_mapIdx.1 h
    exact .inr ⟨_, List.getElem_mem hi, rfl⟩
theorem parts_key {t : Thing} {x : Part} (h : x ∈ partsOf t) : x.key.size = 0 ∨ (x.key, x.v) ∈ t.slots := by
  unfold partsOf at h
  split at h
  · obtain ⟨i, hi, rfl⟩ := List.mem_mapIdx.1 h
    exact .inl rfl
  · obtain ⟨i, hi, rfl⟩ := List.mem_mapIdx.1 h
    exact .inr (List.getElem_mem hi)

theorem good_at {H : HM} {B : Nat} {v : Val} (hv : v.Good H.things.length B) (h5 : v.k = 5) : ∃ t, H.at v = some t ∧ H.things[v.n.toNat]? = some t := by
  obtain ⟨h0, h1⟩ := hv.ref h5
  have hl : v.n.toNat < H.things.length := by omega
  have ht : H.there v.n = true := by unfold HM.there; simp; omega
  refine ⟨H.things[v.n.toNat], ?_, List.getElem?_eq_getElem hl⟩
  unfold HM.at
  rw [if_pos ⟨h5, ht⟩, List.getElem?_eq_getElem hl]
theorem at_not {H : HM} {v : Val} (h5 : v.k ≠ 5) : H.at v = none := by
  unfold HM.at
  rw [if_neg (fun h => h5 h.1)]

theorem showV_fits {H : HM} {B : Nat} (hH : H.Good B) : ∀ (f : Nat) (v : Val) (bs : List UInt8), v.Good H.things.length B → Fits bs (H.allV f v) (H.showV quoteS f v bs) := by
  intro f
  induction f with
  | zero =>
    intro v bs hv
    by_cases h4 : v.k = 4
    · rw [showV_string _ _ _ h4]; unfold HM.allV; rw [if_pos h4]; exact say_fits _ _
    · by_cases h5 : v.k = 5
      · obtain ⟨t, hat, ht⟩ := good_at hv h5
        unfold HM.allV
        rw [if_neg h4, if_neg (by simpa using h5), ht]
        dsimp only
        by_cases k3 : t.kind = 3
        · rw [showV_function _ _ _ h4 hat k3, if_pos k3]; exact say_fits _ _
        · by_cases k4 : t.kind = 4
          · rw [showV_class _ _ _ h4 hat k4, if_neg k3, if_pos k4]; exact say_fits _ _
          · rw [showV_dots _ _ h4 hat k3 k4, if_neg k3, if_neg k4]; exact say_fits _ _
      · rw [showV_none _ _ _ h4 (at_not h5)]; unfold HM.allV; rw [if_neg h4, if_pos h5]; exact say_fits _ _
  | succ f ih =>
    intro v bs hv
    by_cases h4 : v.k = 4
    · rw [showV_string _ _ _ h4]; unfold HM.allV; rw [if_pos h4]; exact say_fits _ _
    · by_cases h5 : v.k = 5
      · obtain ⟨t, hat, ht⟩ := good_at hv h5
        unfold HM.allV
        rw [if_neg h4, if_neg (by simpa using h5), ht]
        dsimp only
        by_cases k3 : t.kind = 3
        · rw [showV_function _ _ _ h4 hat k3, if_pos k3]; exact say_fits _ _
        · by_cases k4 : t.kind = 4
          · rw [showV_class _ _ _ h4 hat k4, if_neg k3, if_pos k4]; exact say_fits _ _
          · rw [showV_thing _ _ _ h4 hat k3 k4, if_neg k3, if_neg k4]
            have key := shownThing_fits (H.showV quoteS f) (H.allV f) t bs (fun x hx b _ => ih x.v b (mem_things hH ht ((parts_mem hx).imp id fun ⟨k, h, _⟩ => ⟨k, h⟩)))
            by_cases k2 : t.kind = 2
            · rw [if_pos k2]
              have e := allA_parts (H.allV f) t.vals 0 ⟨#[91]⟩
              have e2 : (t.vals.mapIdx fun i v => (⟨i + 0, ⟨#[]⟩, false, v⟩ : Part)) = partsOf t := by unfold partsOf arrParts; rw [if_pos k2]; rfl
              rw [e2] at e
              rw [show allA (H.allV f) t.vals true ⟨#[91]⟩ = _ from e, ByteArray.append_assoc]
              unfold opens closes at key
              rw [if_pos k2, if_pos k2] at key
              exact key
            · rw [if_neg k2]
              have e := allO_parts (H.allV f) t.slots 0 ⟨#[123]⟩
              have e2 : (t.slots.mapIdx fun i x => (⟨i + 0, x.1, true, x.2⟩ : Part)) = partsOf t := by unfold partsOf objParts; rw [if_neg k2]; rfl
              rw [e2] at e
              rw [show allO (H.allV f) t.slots true ⟨#[123]⟩ = _ from e, ByteArray.append_assoc]
              unfold opens closes at key
              rw [if_neg k2, if_neg k2] at key
              exact key
      · rw [showV_none _ _ _ h4 (at_not h5)]; unfold HM.allV; rw [if_neg h4, if_pos h5]; exact say_fits _ _

/-- the document's Show -/
def HM.says (H : HM) (x : Val) : ByteArray :=
  if (plainS H x).k = 4 then (plainS H x).s else if 65536 < (H.inV 3 (plainS H x)).size then dotsS else H.inV 3 (plainS H x)

theorem show_says {H : HM} {B : Nat} (hH : H.Good B) (x : Val) (hx : x.s.size ≤ B) : H.show quoteS x = H.says x := by
  unfold HM.show HM.says
  split
  · rfl
  · have hc := inV_cut H 3 (plainS H x)
    rcases showV_fits hH 3 (plainS H x) [] (plain_good H x hx) with ⟨h1, h2⟩ | ⟨h1, h2⟩
    · rw [List.length_nil, Nat.zero_add] at h1
      rw [h2, if_pos rfl]
      rcases hc with hc | ⟨_, hc⟩
      · rw [hc, if_neg (by omega)]
        rfl
      · omega
    · rw [List.length_nil, Nat.zero_add] at h1
      rw [h2, if_neg (by decide)]
      rcases hc with hc | ⟨hc, _⟩
      · rw [hc, if_pos (by omega)]
      · rw [if_pos (by omega)]

end Go.Proofs.YtmbipadiaggolaaGreatDoor

/- Walks: the document's heap: a value within things (3): objects. -/
namespace Go.Proofs.YtmbipadiaggolaaGreatDoor
open Go.RowKit
set_option linter.unusedSimpArgs false

set_option maxRecDepth 100000 in
set_option maxHeartbeats 16000000 in
theorem s_in_obj (rb : Nat) (H : HM) (rs : List RT) (own : Own) (N : Nat) (d : Int) (s : ByteArray) (w : World) (h : RRep w rb H rs own) (hw : H.Wf) (t : Thing) (hti : H.things[N]? = some t) (hk : t.kind = 1) (hd : d < 3) (hd0 : 0 ≤ d) (rec : Val → ByteArray) (K : Nat) (hKb : K ≤ 1000000000) (hK : ∀ y ∈ t.slots, y.1.size + (rec y.2).size ≤ K)
    (hrec : ∀ (ky : ByteArray) (v : Val), (ky, v) ∈ t.slots → ∀ W, RRep W rb H rs own → Calls Tryz.prog 39 #[.pointer (some ⟨rb, 0, none⟩), .agg #[.int .i64 (v).k, .int .i64 (v).n, .string (v).s], .int .i64 (d + 1)] W fun e w' => e = .returned (.string (rec v)) ∧ Up W w') :
    Calls Tryz.prog 39 #[.pointer (some ⟨rb, 0, none⟩), .agg #[.int .i64 5, .int .i64 N, .string s], .int .i64 d] w fun e w' => e = .returned (.string (runO rec t.slots true ⟨#[123]⟩ ++ ⟨#[125]⟩)) ∧ Up w w' := by
  have hwd : Hid (IntKind.i64.wrap (d + 1) = d + 1) := IntWalk.i64_in _ (by omega)
  have HR := Lib.hid h
  have HRC := Lib.hid hrec
  have HK := Lib.hid hK
  have hNl : (N : Int) < H.things.length := by have := (List.getElem?_eq_some_iff.1 hti).1; omega
  have hll := wf_len hw
  have hvl : t.slots.length ≤ 1048576 := by have := sizes_at _ _ _ hti; have q1 := hw.few; have q2 := hw.roomU; have q3 := hw.roomM; simp only [Thing.size] at this; omega
  obtain ⟨tg, cap, r, h1, _, _, c0, c1, c2, c3, hi⟩ := h.at hti
  obtain ⟨sa, sc, hsv⟩ := ownsRow_form hi.slots.1
  obtain ⟨va, vc, hvv⟩ := ownsRow_form hi.vals.1
  rw [hsv] at c2
  rw [hvv] at c3
  rw [hk] at c0
  have HV := Lib.hid hi.slots
  rw [hsv] at HV
  obtain ⟨tot, htot⟩ : ∃ tot, Hid (runO rec t.slots true ⟨#[123]⟩ = tot) := ⟨_, rfl⟩
  rw [htot.out]
  have s0 := h1
  have a0 := cell_of s0 0; have a1 := cell_of s0 1; have a2 := cell_of s0 2; have f0 := ice_of s0 0; have f1 := ice_of s0 1; have f2 := ice_of s0 2; have a4 := lt_of_heap s0; (try simp only [World.size_alloc, List.getElem?_toArray, List.getElem?_cons_zero, List.getElem?_cons_succ] at a0 a1 a2 f0 f1 f2 a4); clear s0
  have lt0 := cell_lt3 c0
  clear h hw hti h1 hk hi hsv hvv hrec hK
  go_enter Tryz.func39, Tryz.ntmps39
  go_wp2_with fail
  go_region_held3 (fun W => W.cell? ⟨rb, 2, none⟩ = some (.slice (some ⟨tg, 0, none⟩) H.things.length cap) ∧ W.cell? ⟨w.heap.size, 1, none⟩ = some (.int .i64 N) ∧ W.cell? ⟨tg, N * 4, none⟩ = some (.int .i64 1) ∧ W.cell? ⟨tg, N * 4 + 1, none⟩ = some (.int .i64 r.proto) ∧ W.cell? ⟨tg, N * 4 + 2, none⟩ = some (.slice sa t.slots.length sc) ∧ W.cell? ⟨tg, N * 4 + 3, none⟩ = some (.slice va t.vals.length vc)) (go_keep) (fail)
  go_wp2_with fail
  refine range_named fun A W hA hW => ?_
  have hUW : Up w W := by subst hW; exact uq
  have hbx : W.cell? ⟨w.heap.size + 1, 2, none⟩ = some (.slice sa t.slots.length sc) := by subst hW; simp [*]
  have hbl := cell_lt3 hbx
  clear hW
  subst hA
  go_loopw [10, 11] (fun out i wr => ∃ (j : Nat) (acc : ByteArray), j ≤ t.slots.length ∧ i = .int .i64 j ∧ out = .string acc ∧ Hid (runO rec (t.slots.drop j) (j == 0) acc = tot) ∧ acc.size ≤ 65540 + K ∧ Up W wr) (fun _ i _ => t.slots.length - (intOf i).toNat)
  case atStart => exact ⟨0, ⟨#[123]⟩, Nat.zero_le _, rfl, rfl, htot, by show 1 ≤ _; omega, Up.refl _⟩
  case round =>
    obtain ⟨j, acc, hj, rfl, rfl, hq, hsz, hup⟩ := hrel
    have c3 := (hup.cells (w.heap.size + 1) 2 hbl).trans hbx
    have hwr : Up w wr := hUW.trans hup
    have hfin : ∀ (acc' : ByteArray), acc' = tot → acc'.size ≤ 65540 + K → Hid (acc' = tot ∧ acc'.size ≤ 65540 + K) := fun _ h1 h2 => ⟨h1, h2⟩
    by_cases hlt : j < t.slots.length
    · have hji : (j : Int) < t.slots.length := by omega
      obtain ⟨⟨ky, v⟩, hv⟩ : ∃ v, t.slots[j]? = some v := ⟨_, List.getElem?_eq_getElem hlt⟩
      have hmem := List.mem_of_getElem? hv
      have hcons : t.slots.drop j = (ky, v) :: t.slots.drop (j + 1) := by
        rw [List.drop_eq_getElem_cons hlt, (List.getElem?_eq_some_iff.1 hv).2]
      by_cases hbig : acc.size ≤ 65536
      · have hbi : (acc.size : Int) ≤ 65536 := by omega
        have e := fun q hq => flat_get slotCells 4 (fun _ => rfl) t.slots j _ q hv hq
        have hrow := HV.out.up hwr
        obtain ⟨vg, rfl, d0⟩ := row_at hrow (j * 4 + 0) _ (e 0 (by omega))
        obtain ⟨_, hg, d1⟩ := row_at hrow (j * 4 + 1) _ (e 1 (by omega)); cases hg
        obtain ⟨_, hg, d2⟩ := row_at hrow (j * 4 + 2) _ (e 2 (by omega)); cases hg
        obtain ⟨_, hg, d3⟩ := row_at hrow (j * 4 + 3) _ (e 3 (by omega)); cases hg
        rw [Nat.add_zero] at d0
        dsimp only at d0 d1 d2 d3
        have lvg := cell_lt3 d0
        have HD := Lib.hid (And.intro d0 (And.intro d1 (And.intro d2 d3)))
        have lbx := cell_lt3 c3
        have hnext : Hid (runO rec (t.slots.drop (j + 1)) false ((if (j == 0) = true then acc else acc ++ commaS) ++ ky ++ colonS ++ rec v) = tot) := by
          unfold Hid
          rw [← hq.out, hcons]
          conv => rhs; unfold runO
          rw [if_pos hbig]
        have hrs : ky.size + (rec v).size ≤ K := HK.out (ky, v) hmem
        have hcs : colonS.size = 2 := rfl
        have hcm : commaS.size = 2 := rfl
        have HM2 := Lib.hid (And.intro hmem hv)
        clear hq hmem hv hcons e hrow hfin hlt hbig
        by_cases hj0 : j = 0
        · subst hj0
          have f1 : ¬ 9223372036854775807 < acc.size + ky.size := by omega
          have f2 : ¬ 9223372036854775807 < acc.size + ky.size + 2 := by omega
          have f3 : ¬ 9223372036854775807 < acc.size + ky.size + 2 + (rec v).size := by omega
          go_wp2_with fail
          go_region_held3 (fun W => W.cell? ⟨w.heap.size + 1, 2, none⟩ = some (.slice (some ⟨vg, 0, none⟩) t.slots.length sc) ∧ W.cell? ⟨vg, 0 * 4, none⟩ = some (.string ky) ∧ W.cell? ⟨vg, 0 * 4 + 1, none⟩ = some (.int .i64 v.k) ∧ W.cell? ⟨vg, 0 * 4 + 2, none⟩ = some (.int .i64 v.n) ∧ W.cell? ⟨vg, 0 * 4 + 3, none⟩ = some (.string v.s)) (go_keep) (first | (go_at_call 39; rw [hwd.out]; refine (HRC.out ky v HM2.out.1 _ (HR.out.up uq)).mono ?_; rintro e w3 ⟨rfl, hu3⟩; have c3 := (hu3.cells _ _ lbx).trans c3; have d0 := (hu3.cells _ _ lvg).trans HD.out.1; have d1 := (hu3.cells _ _ lvg).trans HD.out.2.1; have d2 := (hu3.cells _ _ lvg).trans HD.out.2.2.1; have d3 := (hu3.cells _ _ lvg).trans HD.out.2.2.2))
          go_wp2_with fail
          go_roundw
          case rel => exact ⟨1, acc ++ ky ++ colonS ++ rec v, by omega, by simp, rfl, hnext, by rw [ByteArray.size_append, ByteArray.size_append, ByteArray.size_append]; omega, uq⟩
          case measure => simp [intOf]; omega
        · have hjp : 0 < (j : Int) := by omega
          have hjb : (j == 0) = false := by simpa using hj0
          rw [hjb] at hnext
          clear hj0 hjb
          have f1 : ¬ 9223372036854775807 < acc.size + 2 + ky.size := by omega
          have f2 : ¬ 9223372036854775807 < acc.size + 2 + ky.size + 2 := by omega
          have f3 : ¬ 9223372036854775807 < acc.size + 2 + ky.size + 2 + (rec v).size := by omega
          go_wp2_with fail
          go_region_held3 (fun W => W.cell? ⟨w.heap.size + 1, 2, none⟩ = some (.slice (some ⟨vg, 0, none⟩) t.slots.length sc) ∧ W.cell? ⟨vg, j * 4, none⟩ = some (.string ky) ∧ W.cell? ⟨vg, j * 4 + 1, none⟩ = some (.int .i64 v.k) ∧ W.cell? ⟨vg, j * 4 + 2, none⟩ = some (.int .i64 v.n) ∧ W.cell? ⟨vg, j * 4 + 3, none⟩ = some (.string v.s)) (go_keep) (first | (go_at_call 39; rw [hwd.out]; refine (HRC.out ky v HM2.out.1 _ (HR.out.up uq)).mono ?_; rintro e w3 ⟨rfl, hu3⟩; have c3 := (hu3.cells _ _ lbx).trans c3; have d0 := (hu3.cells _ _ lvg).trans HD.out.1; have d1 := (hu3.cells _ _ lvg).trans HD.out.2.1; have d2 := (hu3.cells _ _ lvg).trans HD.out.2.2.1; have d3 := (hu3.cells _ _ lvg).trans HD.out.2.2.2))
          go_wp2_with fail
          go_roundw
          case rel => exact ⟨j + 1, acc ++ commaS ++ ky ++ colonS ++ rec v, by omega, by simp, rfl, hnext, by rw [ByteArray.size_append, ByteArray.size_append, ByteArray.size_append, ByteArray.size_append]; omega, uq⟩
          case measure => simp [intOf]; omega
      · have hbi : ¬ (acc.size : Int) ≤ 65536 := by omega
        have hend : Hid (acc = tot) := by
          unfold Hid
          rw [← hq.out, hcons]
          unfold runO
          rw [if_neg hbig]
        clear hq hv hmem hcons hfin hbig hlt
        go_wp2_with fail
        refine bodyPost_eq (by (simp [results, Tryz.results39, go_sem, *]) <;> rfl) rfl rfl ?_
        exact ⟨by rw [hend.out], uq⟩
    · obtain rfl : j = t.slots.length := by omega
      have hend : Hid (acc = tot) := by
        unfold Hid
        rw [← hq.out, List.drop_length]
        rfl
      clear hq hfin
      go_wp2_with fail
      refine bodyPost_eq (by (simp [results, Tryz.results39, go_sem, *]) <;> rfl) rfl rfl ?_
      exact ⟨by rw [hend.out], uq⟩

end Go.Proofs.YtmbipadiaggolaaGreatDoor

/- Walks: the document's heap: a value within things, Show. -/
namespace Go.Proofs.YtmbipadiaggolaaGreatDoor
open Go.RowKit
set_option linter.unusedSimpArgs false

theorem quoteL_size : ∀ (l : List (Nat × Nat)) (acc : ByteArray), (quoteL acc l).size ≤ acc.size + 6 * l.length
  | [], acc => by simp [quoteL]
  | x :: l, acc => by
    have h := quoteL_size l (acc ++ quoteR x.2)
    have h2 := quoteR_size x.2
    rw [ByteArray.size_append] at h
    show (quoteL (acc ++ quoteR x.2) l).size ≤ _
    simp only [List.length_cons]
    omega
theorem quoteS_size (s : ByteArray) : (quoteS s).size ≤ 2 + 6 * s.size := by
  unfold quoteS
  have h := quoteL_size (runesOf s.data.toList) ⟨#[34]⟩
  have h2 := runesOf_le s.data.toList
  have h3 : s.data.toList.length = s.size := by simp
  have h4 : (⟨#[34]⟩ : ByteArray).size = 1 := rfl
  rw [ByteArray.size_append, h4]
  rw [h4] at h
  omega

theorem runA_size {rec : Val → ByteArray} {K : Nat} : ∀ (l : List Val) (b : Bool) (s : ByteArray), (∀ v ∈ l, (rec v).size ≤ K) → s.size ≤ 65538 + K → (runA rec l b s).size ≤ 65538 + K
  | [], _, _, _, hs => hs
  | v :: l, b, s, h, hs => by
    unfold runA
    split
    · refine runA_size l false _ (fun y hy => h y (List.mem_cons_of_mem _ hy)) ?_
      have h1 := h v (by simp)
      have h2 : commaS.size = 2 := rfl
      split
      · rw [ByteArray.size_append]; omega
      · rw [ByteArray.size_append, ByteArray.size_append]; omega
    · exact hs
theorem runO_size {rec : Val → ByteArray} {K : Nat} : ∀ (l : List (ByteArray × Val)) (b : Bool) (s : ByteArray), (∀ y ∈ l, y.1.size + (rec y.2).size ≤ K) → s.size ≤ 65540 + K → (runO rec l b s).size ≤ 65540 + K
  | [], _, _, _, hs => hs
  | v :: l, b, s, h, hs => by
    unfold runO
    split
    · refine runO_size l false _ (fun y hy => h y (List.mem_cons_of_mem _ hy)) ?_
      have h1 := h v (by simp)
      have h2 : commaS.size = 2 := rfl
      have h3 : colonS.size = 2 := rfl
      split
      · simp only [ByteArray.size_append]; omega
      · simp only [ByteArray.size_append]; omega
    · exact hs

theorem leaf_size {v : Val} (h4 : ¬ v.k = 4) : (textOf v).size ≤ 48002 := by
  have := textOf_few v (by unfold plainV; (repeat' split) <;> simp_all)
  omega

theorem inV_size {H : HM} (hg : H.Good 8000) : ∀ (f : Nat) (v : Val), v.Good H.things.length 8000 → (H.inV f v).size ≤ 48002 + f * 80000 := by
  intro f
  induction f with
  | zero =>
    intro v hv
    by_cases h4 : v.k = 4
    · rw [in_string h4]; have := quoteS_size v.s; have := hv.short; omega
    · by_cases h5 : v.k = 5
      · unfold HM.inV
        rw [if_neg h4, if_neg (by simpa using h5)]
        cases ht : H.things[v.n.toNat]? with
        | none => exact Nat.zero_le _
        | some t =>
          dsimp only
          by_cases k3 : t.kind = 3
          · rw [if_pos k3]; decide
          rw [if_neg k3]
          by_cases k4 : t.kind = 4
          · rw [if_pos k4]; decide
          rw [if_neg k4]
          decide
      · rw [in_text h4 h5]; have := leaf_size h4; omega
  | succ f ih =>
    intro v hv
    by_cases h4 : v.k = 4
    · rw [in_string h4]; have := quoteS_size v.s; have := hv.short; omega
    · by_cases h5 : v.k = 5
      · unfold HM.inV
        rw [if_neg h4, if_neg (by simpa using h5)]
        cases ht : H.things[v.n.toNat]? with
        | none => exact Nat.zero_le _
        | some t =>
          have hf : functionS.size = 8 := rfl
          have hc : classS.size = 5 := rfl
          dsimp only
          by_cases k3 : t.kind = 3
          · rw [if_pos k3]; omega
          rw [if_neg k3]
          by_cases k4 : t.kind = 4
          · rw [if_pos k4]; omega
          rw [if_neg k4]
          by_cases k2 : t.kind = 2
          · rw [if_pos k2]
            have h1 := runA_size (K := 48002 + f * 80000) t.vals true ⟨#[91]⟩ (fun y hy => ih y (mem_things hg ht (.inl hy))) (by show 1 ≤ _; omega)
            have h2 : (⟨#[93]⟩ : ByteArray).size = 1 := rfl
            rw [ByteArray.size_append, h2]; omega
          · rw [if_neg k2]
            have h1 := runO_size (K := 8000 + (48002 + f * 80000)) (rec := H.inV f) t.slots true ⟨#[123]⟩ (fun y hy => by
              have := ih y.2 (mem_things hg ht (.inr ⟨y.1, hy⟩))
              have := ((hg _ t ht).1 y hy).1
              omega) (by show 1 ≤ _; omega)
            have h2 : (⟨#[125]⟩ : ByteArray).size = 1 := rfl
            rw [ByteArray.size_append, h2]; omega
      · rw [in_text h4 h5]; have := leaf_size h4; omega

theorem in_thing {H : HM} {f N : Nat} {s : ByteArray} {t : Thing} (ht : H.things[N]? = some t) : H.inV (f + 1) ⟨5, N, s⟩ = if t.kind = 3 then functionS else if t.kind = 4 then classS else if t.kind = 2 then runA (H.inV f) t.vals true ⟨#[91]⟩ ++ ⟨#[93]⟩ else runO (H.inV f) t.slots true ⟨#[123]⟩ ++ ⟨#[125]⟩ := by
  conv => lhs; unfold HM.inV
  rw [if_neg (show ¬ ((5 : Int) = 4) by decide), if_neg (show ¬ ((5 : Int) ≠ 5) by decide)]
  dsimp only
  rw [Int.toNat_natCast, ht]
theorem in_thing0 {H : HM} {N : Nat} {s : ByteArray} {t : Thing} (ht : H.things[N]? = some t) : H.inV 0 ⟨5, N, s⟩ = if t.kind = 3 then functionS else if t.kind = 4 then classS else dotsS := by
  conv => lhs; unfold HM.inV
  rw [if_neg (show ¬ ((5 : Int) = 4) by decide), if_neg (show ¬ ((5 : Int) ≠ 5) by decide)]
  dsimp only
  rw [Int.toNat_natCast, ht]

theorem wf_kinds {H : HM} (hw : H.Wf) {N : Nat} {t : Thing} (ht : H.things[N]? = some t) : t.kind = 1 ∨ t.kind = 2 ∨ t.kind = 3 ∨ t.kind = 4 := by
  rcases hw.things N t ht with ⟨h, _⟩ | ⟨h, _⟩
  · exact .inr (.inl h)
  · rcases h with h | h | h
    · exact .inl h
    · exact .inr (.inr (.inl h))
    · exact .inr (.inr (.inr h))

theorem s_within (rb : Nat) (H : HM) (rs : List RT) (own : Own) (hw : H.Wf) (hg : H.Good 8000) : ∀ (f : Nat) (d : Int) (v : Val) (w : World), d = 3 - f → 0 ≤ d → RRep w rb H rs own → v.Good H.things.length 8000 →
    Calls Tryz.prog 39 #[.pointer (some ⟨rb, 0, none⟩), .agg #[.int .i64 (v).k, .int .i64 (v).n, .string (v).s], .int .i64 d] w fun e w' => e = .returned (.string (H.inV f v)) ∧ Up w w' := by
  intro f
  induction f with
  | zero =>
    rintro d ⟨k, n, s⟩ w hd hd0 h hv
    have hsh : s.size ≤ 8000 := hv.short
    by_cases h4 : k = 4
    · rw [in_string (v := ⟨k, n, s⟩) h4]
      exact s_in_string rb k n d s (by simpa using h4) (by omega) w
    · by_cases h5 : k = 5
      · subst h5
        obtain ⟨h0, h1⟩ := hv.ref rfl
        obtain ⟨N, rfl⟩ := Int.eq_ofNat_of_zero_le h0
        have hN : N < H.things.length := by have : ((N : Nat) : Int) < H.things.length := h1; omega
        have ht := List.getElem?_eq_getElem hN
        rw [in_thing0 ht]
        refine s_in_word rb H rs own N d s w h hw _ ht _ _ rfl ?_
        rcases wf_kinds hw ht with q | q | q | q
        · rw [q]; exact .inr (.inr (.inl ⟨rfl, by omega, rfl⟩))
        · rw [q]; exact .inr (.inr (.inr ⟨rfl, by omega, rfl⟩))
        · rw [q]; exact .inl ⟨rfl, rfl⟩
        · rw [q]; exact .inr (.inl ⟨rfl, rfl⟩)
      · rw [in_text (v := ⟨k, n, s⟩) h4 h5]
        exact s_in_text rb k n d s (by simpa using h4) (by simpa using h5) w
  | succ f ih =>
    rintro d ⟨k, n, s⟩ w hd hd0 h hv
    have hsh : s.size ≤ 8000 := hv.short
    by_cases h4 : k = 4
    · rw [in_string (v := ⟨k, n, s⟩) h4]
      exact s_in_string rb k n d s (by simpa using h4) (by omega) w
    · by_cases h5 : k = 5
      · subst h5
        obtain ⟨h0, h1⟩ := hv.ref rfl
        obtain ⟨N, rfl⟩ := Int.eq_ofNat_of_zero_le h0
        have hN : N < H.things.length := by have : ((N : Nat) : Int) < H.things.length := h1; omega
        have ht := List.getElem?_eq_getElem hN
        have hf3 : f < 3 := by omega
        rw [in_thing ht]
        rcases wf_kinds hw ht with q | q | q | q
        · rw [q, if_neg (by decide), if_neg (by decide), if_neg (by decide)]
          exact s_in_obj rb H rs own N d s w h hw _ ht q (by omega) hd0 (H.inV f) (8000 + (48002 + f * 80000)) (by omega)
            (fun y hy => by
              have := inV_size hg f y.2 (mem_things hg ht (.inr ⟨y.1, hy⟩))
              have := ((hg _ _ ht).1 y hy).1
              omega)
            (fun ky v hv W hW => ih (d + 1) v W (by omega) (by omega) hW (mem_things hg ht (.inr ⟨ky, hv⟩)))
        · rw [q, if_neg (by decide), if_neg (by decide), if_pos rfl]
          exact s_in_arr rb H rs own N d s w h hw _ ht q (by omega) hd0 (H.inV f) (48002 + f * 80000) (by omega)
            (fun y hy => inV_size hg f y (mem_things hg ht (.inl hy)))
            (fun v hv W hW => ih (d + 1) v W (by omega) (by omega) hW (mem_things hg ht (.inl hv)))
        · exact s_in_word rb H rs own N d s w h hw _ ht 3 _ q (.inl ⟨rfl, by rw [q]; rfl⟩)
        · exact s_in_word rb H rs own N d s w h hw _ ht 4 _ q (.inr (.inl ⟨rfl, by rw [q]; rfl⟩))
      · rw [in_text (v := ⟨k, n, s⟩) h4 h5]
        exact s_in_text rb k n d s (by simpa using h4) (by simpa using h5) w

set_option maxRecDepth 100000 in
set_option maxHeartbeats 1600000 in
theorem s_show (rb : Nat) (H : HM) (rs : List RT) (own : Own) (k n : Int) (s : ByteArray) (w : World) (h : RRep w rb H rs own) (hw : H.Wf) (hg : H.Good 8000) (hs : s.size ≤ 8000) :
    Calls Tryz.prog 13 #[.pointer (some ⟨rb, 0, none⟩), .agg #[.int .i64 k, .int .i64 n, .string s]] w fun e w' => e = .returned (.string (H.says ⟨k, n, s⟩)) ∧ Up w w' := by
  have HR := Lib.hid h
  have HW := Lib.hid (And.intro hw hg)
  have hgd := plain_good H ⟨k, n, s⟩ (B := 8000) hs
  have hsz := inV_size hg 3 _ hgd
  unfold HM.says
  rcases ex : plainS H ⟨k, n, s⟩ with ⟨pk, pn, ps⟩
  rw [ex] at hgd hsz
  dsimp only
  have HP := Lib.hid ex
  have HG := Lib.hid hgd
  clear ex h hw hg hs hgd
  by_cases h4 : pk = 4
  · subst h4
    rw [if_pos rfl]
    clear hsz
    go_enter Tryz.func13, Tryz.ntmps13
    go_wp2_with (first | (go_at_call 38; refine (s_sane rb H rs own _ _ _ _ (HR.out.up uq) HW.out.1).mono ?_; rintro e w' ⟨rfl, hu⟩; simp only [HP.out]))
    all_goals (refine bodyPost_eq (by (simp [results, Tryz.results13, go_sem, *]) <;> rfl) rfl rfl ⟨rfl, uq⟩)
  · rw [if_neg h4]
    have h4b : (pk == 4) = false := by simpa using h4
    obtain ⟨t, ht⟩ : ∃ t, Hid (H.inV 3 ⟨pk, pn, ps⟩ = t) := ⟨_, rfl⟩
    rw [ht.out] at hsz ⊢
    have htz : (t.size : Int) ≤ 9223372036854775807 := by omega
    clear h4 hsz
    by_cases hb : 65536 < t.size
    · rw [if_pos hb]
      have hbi : (65536 : Int) < t.size := by omega
      clear hb
      go_enter Tryz.func13, Tryz.ntmps13
      go_wp2_with (first | (go_at_call 38; refine (s_sane rb H rs own _ _ _ _ (HR.out.up uq) HW.out.1).mono ?_; rintro e w' ⟨rfl, hu⟩; simp only [HP.out]) | (go_at_call 39; refine (s_within rb H rs own HW.out.1 HW.out.2 3 0 ⟨pk, pn, ps⟩ _ (by omega) (by omega) (HR.out.up uq) HG.out).mono ?_; rintro e w2 ⟨rfl, hu2⟩; rw [ht.out]))
      all_goals (refine bodyPost_eq (by (simp [results, Tryz.results13, go_sem, *]) <;> rfl) rfl rfl ⟨rfl, uq⟩)
    · rw [if_neg hb]
      have hbi : ¬ (65536 : Int) < t.size := by omega
      clear hb
      go_enter Tryz.func13, Tryz.ntmps13
      go_wp2_with (first | (go_at_call 38; refine (s_sane rb H rs own _ _ _ _ (HR.out.up uq) HW.out.1).mono ?_; rintro e w' ⟨rfl, hu⟩; simp only [HP.out]) | (go_at_call 39; refine (s_within rb H rs own HW.out.1 HW.out.2 3 0 ⟨pk, pn, ps⟩ _ (by omega) (by omega) (HR.out.up uq) HG.out).mono ?_; rintro e w2 ⟨rfl, hu2⟩; rw [ht.out]))
      all_goals (refine bodyPost_eq (by (simp [results, Tryz.results13, go_sem, *]) <;> rfl) rfl rfl ⟨rfl, uq⟩)

end Go.Proofs.YtmbipadiaggolaaGreatDoor
