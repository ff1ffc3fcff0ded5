import Derived.BigRegion
import Derived.Test.YtbghpkoimbmijaaGreatDoorM03
/- YtbghpkoimbmijaaGreatDoorM04: lemmas of the proof, in order: KL, SO, SW. -/
/- Walks: slices.Contains, round, a part's text, cmp.Compare, the two functions that sorted makes. -/
namespace Go.Proofs.YtbghpkoimbmijaaGreatDoor
open Go.RowKit
set_option linter.unusedSimpArgs false

set_option maxHeartbeats 1600000 in
theorem Index_ints (zs : List Int) (g off cap : Nat) (v : Int) (w : World) (hc : ∀ j z, zs[j]? = some z → w.cell? ⟨g, off + j, none⟩ = some (.int .i64 z)) (hg : g < w.heap.size) (hlen : zs.length ≤ 1000000) :
    Calls Tryz.prog 85 #[.slice (some ⟨g, off, none⟩) zs.length cap, .int .i64 v] w fun e w' => Up w w' ∧ ((e = .returned (.int .i64 (-1)) ∧ v ∉ zs) ∨ ∃ j : Nat, e = .returned (.int .i64 j) ∧ v ∈ zs) := by
  have HC := Lib.hid hc
  clear hc
  go_enter Tryz.func85, Tryz.ntmps85
  go_wp2_with fail
  go_loopw [8] (fun i wr => ∃ j : Nat, j ≤ zs.length ∧ i = .int .i64 j ∧ v ∉ zs.take j ∧ Up w wr) (fun i _ => zs.length - (intOf i).toNat)
  case atStart => exact ⟨0, Nat.zero_le _, rfl, (by simp), uq⟩
  case round =>
    obtain ⟨j, hj, rfl, hno, hup⟩ := hrel
    have HN := Lib.hid hno
    clear hno
    by_cases hlt : j < zs.length
    · have hji : (j : Int) < zs.length := by omega
      obtain ⟨z, hz⟩ : ∃ z, zs[j]? = some z := ⟨_, List.getElem?_eq_getElem hlt⟩
      have y0 : wr.cell? ⟨g, off + j, none⟩ = some (.int .i64 z) := (hup.cells _ _ hg).trans (HC.out j z hz)
      have HZ := Lib.hid hz
      clear hz hlt
      by_cases he : v = z
      · subst he
        go_wp2_with fail
        refine bodyPost_ret (v := .int .i64 j) (by simp [results, Tryz.results85, go_sem]) rfl ?_
        exact ⟨uq, .inr ⟨j, rfl, List.mem_of_getElem? HZ.out⟩⟩
      · have hb : (v == z) = false := by simpa using he
        have HE := Lib.hid he
        clear he
        go_wp2_with fail
        refine ⟨⟨j + 1, by omega, by simp, fun hm => ?_, uq⟩, by simp [intOf]; omega⟩
        rw [List.take_add_one, HZ.out] at hm
        rcases List.mem_append.1 hm with hm | hm
        · exact HN.out hm
        · exact HE.out (by simpa using hm)
    · obtain rfl : j = zs.length := by omega
      clear hlt
      go_wp2_with fail
      refine bodyPost_ret (v := .int .i64 (-1)) (by simp [results, Tryz.results85, go_sem]) rfl ?_
      exact ⟨uq, .inl ⟨rfl, by have := HN.out; rwa [List.take_length] at this⟩⟩

theorem Contains_ints (zs : List Int) (g off cap : Nat) (v : Int) (w : World) (hc : ∀ j z, zs[j]? = some z → w.cell? ⟨g, off + j, none⟩ = some (.int .i64 z)) (hg : g < w.heap.size) (hlen : zs.length ≤ 1000000) :
    Calls Tryz.prog 70 #[.slice (some ⟨g, off, none⟩) zs.length cap, .int .i64 v] w fun e w' => e = .returned (.bool (decide (v ∈ zs))) ∧ Up w w' := by
  have HC := Lib.hid hc
  clear hc
  go_enter Tryz.func70, Tryz.ntmps70
  go_wp2_with (first | (go_at_call 85; refine (Index_ints zs g off cap v _ HC.out hg hlen).mono ?_; rintro e w2 ⟨hu2, ⟨rfl, hn⟩ | ⟨j, rfl, hn⟩⟩))
  · go_ret
    exact ⟨by simp [hn], uq⟩
  · go_ret
    exact ⟨by simp [hn], uq⟩

def roundS (zs : List Int) (k : Int) (s : ByteArray) : ByteArray := if k ∈ zs then ⟨#[40]⟩ ++ s ++ ⟨#[41]⟩ else s
def partS (k : Int) (s : ByteArray) : ByteArray := roundS [15] k s

theorem round_said (zs : List Int) (g cap x : Nat) (k : Int) (s : ByteArray) (w : World) (hx : Item w x k s) (hs : s.size ≤ 1000000000) (hc : ∀ j z, zs[j]? = some z → w.cell? ⟨g, 0 + j, none⟩ = some (.int .i64 z)) (hg : g < w.heap.size) (hlen : zs.length ≤ 1000000) :
    Calls Tryz.prog 51 #[.pointer (some ⟨x, 0, none⟩), .slice (some ⟨g, 0, none⟩) zs.length cap] w fun e w' => e = .returned (.string (roundS zs k s)) ∧ Up w w' := by
  have HC := Lib.hid hc
  have HX := Lib.hid hx
  obtain ⟨cs, h1, h2, h3, h4⟩ := hx
  have y0 := (cell_of h1 0).trans h2
  have yl := lt_of_heap h1
  have HN := Lib.hid h4
  clear hc h1 h2 h3 h4
  by_cases hk : k ∈ zs
  · have e : roundS zs k s = ⟨#[40]⟩ ++ s ++ ⟨#[41]⟩ := by unfold roundS; rw [if_pos hk]
    rw [e]
    have HK : Hid (decide (k ∈ zs) = true) := by unfold Hid; simp [hk]
    clear hk e
    go_enter Tryz.func51, Tryz.ntmps51
    go_wp2_with (first | (go_at_call 70; refine (Contains_ints zs g 0 cap k _ HC.out hg hlen).mono ?_; rintro e w2 ⟨rfl, hu2⟩; simp only [HK.out]) | (go_at_call 34; refine (text_said x s HN.out _ (HX.out.said.up uq).cell).mono ?_; rintro e w3 ⟨rfl, rfl⟩))
    go_ret
    exact ⟨rfl, uq⟩
  · have e : roundS zs k s = s := by unfold roundS; rw [if_neg hk]
    rw [e]
    have HK : Hid (decide (k ∈ zs) = false) := by unfold Hid; simp [hk]
    clear hk e
    go_enter Tryz.func51, Tryz.ntmps51
    go_wp2_with (first | (go_at_call 70; refine (Contains_ints zs g 0 cap k _ HC.out hg hlen).mono ?_; rintro e w2 ⟨rfl, hu2⟩; simp only [HK.out]) | (go_at_call 34; refine (text_said x s HN.out _ (HX.out.said.up uq).cell).mono ?_; rintro e w3 ⟨rfl, rfl⟩))
    go_ret
    exact ⟨rfl, uq⟩

abbrev byF : Nat := 50

theorem by_said (x : Nat) (k : Int) (s : ByteArray) (w : World) (hx : Item w x k s) (hs : s.size ≤ 1000000000) :
    Calls Tryz.prog 50 #[.pointer (some ⟨x, 0, none⟩)] w fun e w' => e = .returned (.string (partS k s)) ∧ Up w w' := by
  have HX := Lib.hid hx
  clear hx
  go_enter Tryz.func50, Tryz.ntmps50
  go_wp2_with (first | (go_at_call 51; refine (round_said [15] w.heap.size 1 x k s _ (HX.out.up uq) hs (by intro j z hz; cases j with | zero => simp at hz; subst hz; simp | succ j => simp at hz) (by simp) (by simp)).mono ?_; rintro e w2 ⟨rfl, hu2⟩))
  go_ret
  exact ⟨rfl, uq⟩

theorem isNaN_any (a : ByteArray) (w : World) : Calls Tryz.prog 80 #[.string a] w fun e w' => e = .returned (.bool false) ∧ Up w w' := by
  go_enter Tryz.func80, Tryz.ntmps80
  go_wp2_with fail
  go_ret
  exact ⟨by simp, uq⟩

def cmpS (a b : ByteArray) : Int := if Op.bytesLess a.toList b.toList = true then -1 else if (a.toList == b.toList) = true then 0 else 1

theorem Compare_any (a b : ByteArray) (w : World) : Calls Tryz.prog 60 #[.string a, .string b] w fun e w' => e = .returned (.int .i64 (cmpS a b)) ∧ Up w w' := by
  go_enter Tryz.func60, Tryz.ntmps60
  go_wp2_with (first | (go_at_call 80; refine (isNaN_any _ _).mono ?_; rintro e w2 ⟨rfl, hu2⟩))
  · rename_i h
    go_ret
    exact ⟨by simp [cmpS, h], uq⟩
  · have h1 : Op.bytesLess a.toList b.toList = false := by assumption
    have h2 : (!a.toList == b.toList) = true := by assumption
    go_ret
    refine ⟨?_, uq⟩
    have h2 : (a.toList == b.toList) = false := by simpa using h2
    unfold cmpS
    rw [h1, h2]
    rfl
  · have h1 : Op.bytesLess a.toList b.toList = false := by assumption
    have h2 : (!a.toList == b.toList) = false := by assumption
    go_ret
    refine ⟨?_, uq⟩
    have h2 : (a.toList == b.toList) = true := by simpa using h2
    unfold cmpS
    rw [h1, h2]
    rfl

abbrev FnT : TypeId := 108
/-- a box with the function that says a part's text -/
def ByAt (w : World) (b : Nat) : Prop := ∃ fz, w.heap[b]? = some (.cells #[.func (.func byF) #[] #[]] FnT fz)
theorem ByAt.up {w w' : World} {b : Nat} (h : ByAt w b) (k : Up w w') : ByAt w' b := let ⟨fz, h⟩ := h; ⟨fz, k.get h⟩

set_option maxRecDepth 100000 in
set_option maxHeartbeats 3200000 in
theorem less_said (x y b : Nat) (kx ky : Int) (s t : ByteArray) (w : World) (hb : ByAt w b) (hx : Item w x kx s) (hy : Item w y ky t) (hs : s.size ≤ 1000000000) (ht : t.size ≤ 1000000000) :
    Calls Tryz.prog 66 #[.pointer (some ⟨x, 0, none⟩), .pointer (some ⟨y, 0, none⟩), .pointer (some ⟨b, 0, none⟩)] w fun e w' => e = .returned (.int .i64 (cmpS (partS kx s) (partS ky t))) ∧ Up w w' := by
  obtain ⟨fz, hb⟩ := hb
  have HX := Lib.hid hx
  have HY := Lib.hid hy
  have b0 := cell_of hb 0
  have bl := lt_of_heap hb
  have HB := Lib.hid hb
  simp only [List.getElem?_toArray, List.getElem?_cons_zero] at b0
  clear hx hy hb
  go_enter Tryz.func66, Tryz.ntmps66
  go_wp2_with fail
  go_region_law (first | (go_simp; go_at_call 50; first | (refine (by_said x kx s _ (HX.out.up uq) hs).mono ?_; rintro e w2 ⟨rfl, hu2⟩; have b0 := cell_of (hu2.get (Up.get (w := w) uq HB.out)) 0; simp only [List.getElem?_toArray, List.getElem?_cons_zero] at b0) | (refine (by_said y ky t _ (HY.out.up uq) ht).mono ?_; rintro e w3 ⟨rfl, hu3⟩; have b0 := cell_of (hu3.get (Up.get (w := w) uq HB.out)) 0; simp only [List.getElem?_toArray, List.getElem?_cons_zero] at b0)) | (go_simp; go_at_call 60; refine (Compare_any _ _ _).mono ?_; rintro e w4 ⟨rfl, hu4⟩))
  all_goals (go_wp2_with fail)
  all_goals go_ret
  all_goals exact ⟨rfl, uq⟩

end Go.Proofs.YtbghpkoimbmijaaGreatDoor

/- Plain law: sorted rows: insertion, merging in place, blocks, adjacent ones that are alike. No program. -/
namespace Go.Proofs.YtbghpkoimbmijaaGreatDoor.SortL
variable {α : Type}

/-- a strict weak order -/
structure Swo (lt : α → α → Bool) : Prop where
  asymm : ∀ a b, lt a b = true → lt b a = false
  neg : ∀ a b c, lt a c = true → lt a b = true ∨ lt b c = true
theorem Swo.le_trans {lt : α → α → Bool} (h : Swo lt) {a b c : α} (h1 : lt b a = false) (h2 : lt c b = false) : lt c a = false := by
  cases hq : lt c a with
  | false => rfl
  | true => rcases h.neg c b a hq with q | q
            · rw [q] at h2; cases h2
            · rw [q] at h1; cases h1
theorem Swo.lt_le {lt : α → α → Bool} (h : Swo lt) {a b c : α} (h1 : lt a b = true) (h2 : lt c b = false) : lt a c = true := by
  rcases h.neg a c b h1 with q | q
  · exact q
  · rw [q] at h2; cases h2
theorem Swo.le_lt {lt : α → α → Bool} (h : Swo lt) {a b c : α} (h1 : lt b a = false) (h2 : lt b c = true) : lt a c = true := by
  rcases h.neg b a c h2 with q | q
  · rw [q] at h1; cases h1
  · exact q

abbrev Sorted (lt : α → α → Bool) (l : List α) : Prop := l.Pairwise fun x y => lt y x = false

theorem sorted_append {lt : α → α → Bool} {u v : List α} : Sorted lt (u ++ v) ↔ Sorted lt u ∧ Sorted lt v ∧ ∀ x ∈ u, ∀ y ∈ v, lt y x = false := List.pairwise_append

/-- an element found its place -/
theorem ins_done {lt : α → α → Bool} (h : Swo lt) {s1 s2 : List α} {v : α} (hs : Sorted lt (s1 ++ s2)) (h2 : ∀ y ∈ s2, lt v y = true) (h1 : ∀ s t, s1 = s ++ [t] → lt v t = false) : Sorted lt (s1 ++ v :: s2) := by
  obtain ⟨p1, p2, p3⟩ := sorted_append.1 hs
  have hle : ∀ x ∈ s1, lt v x = false := fun x hx => by
    rcases List.eq_nil_or_concat s1 with rfl | ⟨s, t, e⟩
    · cases hx
    · rw [List.concat_eq_append] at e
      subst e
      have ht := h1 s t rfl
      rcases List.mem_append.1 hx with hx | hx
      · exact h.le_trans ((List.pairwise_append.1 p1).2.2 x hx t (by simp)) ht
      · simp at hx; subst hx; exact ht
  refine sorted_append.2 ⟨p1, List.pairwise_cons.2 ⟨fun y hy => h.asymm _ _ (h2 y hy), p2⟩, fun x hx y hy => ?_⟩
  rcases List.mem_cons.1 hy with rfl | hy
  · exact hle x hx
  · exact p3 x hx y hy

/-- an element found its place from the left -/
theorem ins_left {lt : α → α → Bool} (h : Swo lt) {v1 v2 : List α} {x : α} (hs : Sorted lt (v1 ++ v2)) (h1 : ∀ y ∈ v1, lt y x = true) (h2 : ∀ y ∈ v2, lt y x = false) : Sorted lt (v1 ++ x :: v2) := by
  obtain ⟨p1, p2, p3⟩ := sorted_append.1 hs
  refine sorted_append.2 ⟨p1, List.pairwise_cons.2 ⟨h2, p2⟩, fun y hy z hz => ?_⟩
  rcases List.mem_cons.1 hz with rfl | hz
  · exact h.asymm _ _ (h1 y hy)
  · exact p3 y hy z hz
theorem ins_right {lt : α → α → Bool} (h : Swo lt) {u1 u2 : List α} {y : α} (hs : Sorted lt (u1 ++ u2)) (h1 : ∀ x ∈ u1, lt y x = false) (h2 : ∀ x ∈ u2, lt y x = true) : Sorted lt (u1 ++ y :: u2) := by
  obtain ⟨p1, p2, p3⟩ := sorted_append.1 hs
  refine sorted_append.2 ⟨p1, List.pairwise_cons.2 ⟨fun z hz => h.asymm _ _ (h2 z hz), p2⟩, fun x hx z hz => ?_⟩
  rcases List.mem_cons.1 hz with rfl | hz
  · exact h1 x hx
  · exact p3 x hx z hz

theorem sorted_get {lt : α → α → Bool} {l : List α} (h : Sorted lt l) {i j : Nat} {x y : α} (hij : i < j) (hx : l[i]? = some x) (hy : l[j]? = some y) : lt y x = false := by
  obtain ⟨hi, rfl⟩ := List.getElem?_eq_some_iff.1 hx
  obtain ⟨hj, rfl⟩ := List.getElem?_eq_some_iff.1 hy
  exact List.pairwise_iff_getElem.1 h i j hi hj hij
theorem sorted_le {lt : α → α → Bool} (ho : Swo lt) {l : List α} (h : Sorted lt l) {i j : Nat} {x y : α} (hij : i ≤ j) (hx : l[i]? = some x) (hy : l[j]? = some y) : lt y x = false := by
  rcases Nat.lt_or_ge i j with q | q
  · exact sorted_get h q hx hy
  · have : i = j := by omega
    subst this
    rw [hx] at hy
    cases hy
    cases hq : lt x x with
    | false => rfl
    | true => have := ho.asymm _ _ hq; rw [hq] at this; cases this

/-- two rows that were turned about stand as one, when what stands on the left goes ahead of what stands on the right -/
theorem glue {lt : α → α → Bool} {u1 u2 v1 v2 z1 z2 : List α} (ho : Swo lt) (hu : Sorted lt (u1 ++ u2)) (hv : Sorted lt (v1 ++ v2)) (h1 : Sorted lt z1) (h2 : Sorted lt z2) (p1 : z1.Perm (u1 ++ v1)) (p2 : z2.Perm (u2 ++ v2))
    (hc : ∀ x ∈ u1, ∀ y ∈ v2, lt y x = false) (hd : ∀ y ∈ v1, ∀ x ∈ u2, lt y x = true) : Sorted lt (z1 ++ z2) := by
  refine sorted_append.2 ⟨h1, h2, fun x hx y hy => ?_⟩
  rcases List.mem_append.1 (p1.mem_iff.1 hx) with hx | hx <;> rcases List.mem_append.1 (p2.mem_iff.1 hy) with hy | hy
  · exact (sorted_append.1 hu).2.2 x hx y hy
  · exact hc x hx y hy
  · exact ho.asymm _ _ (hd x hx y hy)
  · exact (sorted_append.1 hv).2.2 x hx y hy

theorem set_swap {p q : List α} {x y : α} : ((p ++ x :: y :: q).set p.length y).set (p.length + 1) x = p ++ y :: x :: q := by
  rw [List.set_append_right _ _ (Nat.le_refl _), Nat.sub_self, List.set_cons_zero, List.set_append_right _ _ (by omega)]
  have e : p.length + 1 - p.length = 1 := by omega
  rw [e]
  rfl
theorem set_swap' {p q : List α} {x y : α} : ((p ++ x :: y :: q).set (p.length + 1) x).set p.length y = p ++ y :: x :: q := by
  rw [List.set_comm _ _ (by omega)]
  exact set_swap
theorem set_far {a m c : List α} {x y : α} : ((a ++ x :: (m ++ y :: c)).set a.length y).set (a.length + 1 + m.length) x = a ++ y :: (m ++ x :: c) := by
  rw [List.set_append_right _ _ (Nat.le_refl _), Nat.sub_self, List.set_cons_zero, List.set_append_right _ _ (by omega)]
  have e : a.length + 1 + m.length - a.length = m.length + 1 := by omega
  rw [e, List.set_cons_succ, List.set_append_right _ _ (Nat.le_refl _), Nat.sub_self, List.set_cons_zero]
theorem set_far' {a m c : List α} {x y : α} : ((a ++ x :: (m ++ y :: c)).set (a.length + 1 + m.length) x).set a.length y = a ++ y :: (m ++ x :: c) := by
  rw [List.set_comm _ _ (by omega)]
  exact set_far

/-- blocks of one size, the last one perhaps shorter -/
def Blocks (s : Nat) : List (List α) → Prop
  | [] => True
  | b :: r => 0 < b.length ∧ b.length ≤ s ∧ (r ≠ [] → b.length = s) ∧ Blocks s r
theorem blocks_one {s : Nat} {bs : List (List α)} (h : Blocks s bs) (hl : bs.flatten.length ≤ s) : bs = [] ∨ ∃ b, bs = [b] := by
  match bs, h with
  | [], _ => exact .inl rfl
  | [b], _ => exact .inr ⟨b, rfl⟩
  | b :: c :: r, h =>
    exfalso
    have h1 := h.2.2.1 (by simp)
    have h2 := h.2.2.2.1
    simp at hl
    omega
theorem blocks_snoc {s : Nat} {b : List α} (hb : 0 < b.length) (hs : b.length ≤ s) : ∀ {bs : List (List α)}, (∀ x ∈ bs, x.length = s) → Blocks s (bs ++ [b])
  | [], _ => ⟨hb, hs, fun h => (h rfl).elim, trivial⟩
  | x :: bs, h => ⟨by have := h x (by simp); omega, by have := h x (by simp); omega, fun _ => h x (by simp), blocks_snoc hb hs fun y hy => h y (by simp [hy])⟩
theorem blocks_full {s : Nat} (hs : 0 < s) : ∀ {bs : List (List α)}, (∀ x ∈ bs, x.length = s) → Blocks s bs
  | [], _ => trivial
  | x :: bs, h => ⟨by have := h x (by simp); omega, by have := h x (by simp); omega, fun _ => h x (by simp), blocks_full hs fun y hy => h y (by simp [hy])⟩
theorem full_length {s : Nat} : ∀ {bs : List (List α)}, (∀ x ∈ bs, x.length = s) → bs.flatten.length = bs.length * s
  | [], _ => by simp
  | x :: bs, h => by
    have h1 := h x (by simp)
    have h2 := full_length (s := s) (bs := bs) fun y hy => h y (by simp [hy])
    simp only [List.flatten_cons, List.length_append, h1, h2, List.length_cons, Nat.add_mul, Nat.one_mul]
    omega
/-- two blocks stand ahead -/
theorem blocks_two {s : Nat} {bs : List (List α)} (h : Blocks s bs) (hl : 2 * s ≤ bs.flatten.length) (hs : 0 < s) : ∃ b c r, bs = b :: c :: r ∧ b.length = s ∧ c.length = s ∧ Blocks s r := by
  match bs, h with
  | [], _ => simp at hl; omega
  | [b], h =>
    have := h.2.1
    simp at hl
    omega
  | b :: c :: r, h =>
    refine ⟨b, c, r, rfl, h.2.2.1 (by simp), ?_, h.2.2.2.2.2.2⟩
    rcases r with _ | ⟨d, r⟩
    · have h1 := h.2.1
      have h2 := h.2.2.2.2.1
      simp at hl
      omega
    · exact h.2.2.2.2.2.1 (by simp)
/-- less than two blocks stand -/
theorem blocks_less {s : Nat} {bs : List (List α)} (h : Blocks s bs) (hl : bs.flatten.length < 2 * s) : bs = [] ∨ (∃ b, bs = [b] ∧ 0 < b.length ∧ b.length ≤ s) ∨ ∃ b c, bs = [b, c] ∧ b.length = s ∧ 0 < c.length ∧ c.length < s := by
  match bs, h with
  | [], _ => exact .inl rfl
  | [b], h => exact .inr (.inl ⟨b, rfl, h.1, h.2.1⟩)
  | [b, c], h =>
    have h1 := h.2.2.1 (by simp)
    have h2 := h.2.2.2.1
    have h3 := h.2.2.2.2.1
    simp at hl
    exact .inr (.inr ⟨b, c, rfl, h1, h2, by omega⟩)
  | b :: c :: d :: r, h =>
    exfalso
    have h1 := h.2.2.1 (by simp)
    have h2 := h.2.2.2.2.2.1 (by simp)
    simp at hl
    omega

/-- what stays when each that is like the one ahead of it goes -/
def keepL (eq : α → α → Bool) (prev : α) : List α → List α
  | [] => []
  | x :: r => if eq x prev = true then keepL eq x r else x :: keepL eq x r
def compactL (eq : α → α → Bool) : List α → List α
  | [] => []
  | x :: r => x :: keepL eq x r
theorem keepL_mem {eq : α → α → Bool} : ∀ {l : List α} {p x : α}, x ∈ keepL eq p l → x ∈ l
  | [], _, _, h => by cases h
  | y :: r, p, x, h => by
    rw [keepL] at h
    split at h
    · exact List.mem_cons_of_mem _ (keepL_mem h)
    · rcases List.mem_cons.1 h with rfl | h
      · simp
      · exact List.mem_cons_of_mem _ (keepL_mem h)
theorem compactL_mem {eq : α → α → Bool} {l : List α} {x : α} (h : x ∈ compactL eq l) : x ∈ l := by
  cases l with
  | nil => cases h
  | cons y r =>
    rcases List.mem_cons.1 h with rfl | h
    · simp
    · exact List.mem_cons_of_mem _ (keepL_mem h)

section
/-- a total order on keys -/
structure Tot {β : Type} (lt : β → β → Bool) : Prop extends Swo lt where
  tri : ∀ a b, lt a b = false → lt b a = false → a = b

variable {β : Type} [DecidableEq β] {key : α → β} {lt : β → β → Bool}

theorem keepL_strict (ho : Tot lt) : ∀ {l : List α} {p : α}, Sorted (fun x y => lt (key x) (key y)) (p :: l) → (keepL (fun x y => decide (key x = key y)) p l).Pairwise (fun x y => lt (key x) (key y) = true) ∧ (∀ x ∈ keepL (fun x y => decide (key x = key y)) p l, lt (key p) (key x) = true) ∧ ∀ x ∈ l, key x = key p ∨ ∃ y ∈ keepL (fun x y => decide (key x = key y)) p l, key y = key x
  | [], p, _ => by simp [keepL]
  | y :: r, p, h => by
    obtain ⟨h1, h2⟩ := List.pairwise_cons.1 h
    obtain ⟨i1, i2, i3⟩ := keepL_strict ho (l := r) (p := y) h2
    rw [keepL]
    by_cases he : key y = key p
    · rw [if_pos (by simp [he])]
      refine ⟨i1, fun x hx => by rw [← he]; exact i2 x hx, fun x hx => ?_⟩
      rcases List.mem_cons.1 hx with rfl | hx
      · exact .inl he
      · rcases i3 x hx with q | q
        · exact .inl (q.trans he)
        · exact .inr q
    · rw [if_neg (by simp [he])]
      have hpy : lt (key p) (key y) = true := by
        cases hq : lt (key p) (key y) with
        | true => rfl
        | false => exact (he (ho.tri _ _ (h1 y (by simp)) hq)).elim
      refine ⟨List.pairwise_cons.2 ⟨i2, i1⟩, fun x hx => ?_, fun x hx => ?_⟩
      · rcases List.mem_cons.1 hx with rfl | hx
        · exact hpy
        · exact ho.lt_le hpy (by have := i2 x hx; exact ho.asymm _ _ this)
      · rcases List.mem_cons.1 hx with rfl | hx
        · exact .inr ⟨_, by simp, rfl⟩
        · rcases i3 x hx with q | ⟨z, hz, q⟩
          · exact .inr ⟨y, by simp, q.symm⟩
          · exact .inr ⟨z, by simp [hz], q⟩

theorem compactL_strict (ho : Tot lt) {l : List α} (h : Sorted (fun x y => lt (key x) (key y)) l) : (compactL (fun x y => decide (key x = key y)) l).Pairwise (fun x y => lt (key x) (key y) = true) ∧ ∀ x ∈ l, ∃ y ∈ compactL (fun x y => decide (key x = key y)) l, key y = key x := by
  cases l with
  | nil => simp [compactL]
  | cons p r =>
    obtain ⟨i1, i2, i3⟩ := keepL_strict ho h
    refine ⟨List.pairwise_cons.2 ⟨i2, i1⟩, fun x hx => ?_⟩
    rcases List.mem_cons.1 hx with rfl | hx
    · exact ⟨_, by simp [compactL], rfl⟩
    · rcases i3 x hx with q | ⟨z, hz, q⟩
      · exact ⟨p, by simp [compactL], q.symm⟩
      · exact ⟨z, by simp [compactL, hz], q⟩

end

section
variable {β : Type} {lt : β → β → Bool}
theorem lt_irrefl (ho : Tot lt) (a : β) : lt a a = false := by
  cases hq : lt a a with
  | false => rfl
  | true => have := ho.asymm _ _ hq; rw [hq] at this; cases this

/-- rows of keys that rise, with the same keys, are one -/
theorem strict_unique (ho : Tot lt) : ∀ {a b : List β}, a.Pairwise (fun x y => lt x y = true) → b.Pairwise (fun x y => lt x y = true) → (∀ x, x ∈ a ↔ x ∈ b) → a = b
  | [], [], _, _, _ => rfl
  | [], y :: b, _, _, h => by have := (h y).2 (by simp); cases this
  | x :: a, [], _, _, h => by have := (h x).1 (by simp); cases this
  | x :: a, y :: b, ha, hb, h => by
    obtain ⟨a1, a2⟩ := List.pairwise_cons.1 ha
    obtain ⟨b1, b2⟩ := List.pairwise_cons.1 hb
    have hxy : x = y := by
      rcases List.mem_cons.1 ((h x).1 (by simp)) with e | hx
      · exact e
      · rcases List.mem_cons.1 ((h y).2 (by simp)) with e | hy
        · exact e.symm
        · have q1 := b1 x hx
          have q2 := ho.asymm _ _ (a1 y hy)
          rw [q1] at q2
          cases q2
    subst hxy
    have hxa : x ∉ a := fun hm => by have := a1 x hm; rw [lt_irrefl ho] at this; cases this
    have hxb : x ∉ b := fun hm => by have := b1 x hm; rw [lt_irrefl ho] at this; cases this
    rw [strict_unique ho a2 b2 fun z => ⟨fun hz => ?_, fun hz => ?_⟩]
    · rcases List.mem_cons.1 ((h z).1 (by simp [hz])) with e | q
      · subst e; exact (hxa hz).elim
      · exact q
    · rcases List.mem_cons.1 ((h z).2 (by simp [hz])) with e | q
      · subst e; exact (hxb hz).elim
      · exact q
end

end Go.Proofs.YtbghpkoimbmijaaGreatDoor.SortL

/- Walks: rows of types that are turned about in place: swapRange, rotate. -/
namespace Go.Proofs.YtbghpkoimbmijaaGreatDoor
open Go.RowKit
set_option linter.unusedSimpArgs false

/-- a row of types in a block -/
def RowAt (w : World) (g off : Nat) (xs : List Nat) : Prop := ∃ cs : Array Value, w.heap[g]? = some (.cells cs TpT (0, 0)) ∧ ∀ j x, xs[j]? = some x → cs[off + j]? = some (ptrV x)
theorem RowAt.lt {w : World} {g off : Nat} {xs : List Nat} (h : RowAt w g off xs) : g < w.heap.size := let ⟨_, h, _⟩ := h; lt_of_heap h
theorem RowAt.cell {w : World} {g off : Nat} {xs : List Nat} (h : RowAt w g off xs) {j x : Nat} (hx : xs[j]? = some x) : w.cell? ⟨g, off + j, none⟩ = some (.pointer (some ⟨x, 0, none⟩)) := by
  obtain ⟨cs, h1, h2⟩ := h
  exact (cell_of h1 _).trans (h2 j x hx)
theorem RowAt.ice {w : World} {g off : Nat} {xs : List Nat} (h : RowAt w g off xs) (i : Nat) : w.frozen? ⟨g, i, none⟩ = false := by
  obtain ⟨cs, h1, _⟩ := h
  exact ice_of h1 i
theorem RowAt.keep {w w' : World} {g off : Nat} {xs : List Nat} (h : RowAt w g off xs) (k : w'.heap[g]? = w.heap[g]?) : RowAt w' g off xs := by
  obtain ⟨cs, h1, h2⟩ := h
  exact ⟨cs, by rw [k]; exact h1, h2⟩
theorem RowAt.set {w : World} {g off : Nat} {xs : List Nat} (h : RowAt w g off xs) {j : Nat} (x : Nat) (hj : j < xs.length) : RowAt (w.setCell ⟨g, off + j, none⟩ (.pointer (some ⟨x, 0, none⟩))) g off (xs.set j x) := by
  obtain ⟨cs, h1, h2⟩ := h
  refine ⟨_, setCell_block (i := off + j) h1 _, fun i y hy => ?_⟩
  rw [List.getElem?_set] at hy
  by_cases hij : j = i
  · subst hij
    rw [if_pos rfl, if_pos hj] at hy
    cases hy
    have := h2 j _ (List.getElem?_eq_getElem hj)
    have hl := (Array.getElem?_eq_some_iff.1 this).1
    rw [Array.getElem?_setIfInBounds_self_of_lt hl]
    rfl
  · rw [if_neg hij] at hy
    rw [Array.getElem?_setIfInBounds_ne (by omega)]
    exact h2 i y hy

abbrev pv (x : Nat) : Value := .pointer (some ⟨x, 0, none⟩)
theorem RowAt.drew {w : World} {g off : Nat} {xs : List Nat} (h : RowAt w g off xs) : RowAt w.drew g off xs := h
theorem RowAt.swap {w : World} {g off i j : Nat} {A M C : List Nat} {x y : Nat} (h : RowAt w g off (A ++ x :: (M ++ y :: C))) (hi : A.length = i) (hj : A.length + 1 + M.length = j) :
    RowAt ((w.setCell ⟨g, off + i, none⟩ (pv y)).setCell ⟨g, off + j, none⟩ (pv x)).drew g off (A ++ y :: (M ++ x :: C)) := by
  subst hi hj
  have q1 := (h.set (j := A.length) y (by simp)).set (j := A.length + 1 + M.length) x (by simp; omega)
  rw [SortL.set_far] at q1
  exact q1
theorem RowAt.swap' {w : World} {g off i j : Nat} {A M C : List Nat} {x y : Nat} (h : RowAt w g off (A ++ x :: (M ++ y :: C))) (hi : A.length = i) (hj : A.length + 1 + M.length = j) :
    RowAt ((w.setCell ⟨g, off + j, none⟩ (pv x)).setCell ⟨g, off + i, none⟩ (pv y)).drew g off (A ++ y :: (M ++ x :: C)) := by
  subst hi hj
  have q1 := (h.set (j := A.length + 1 + M.length) x (by simp; omega)).set (j := A.length) y (by simp)
  rw [SortL.set_far'] at q1
  exact q1
theorem RowAt.first {w : World} {g off i : Nat} {A C : List Nat} {x : Nat} (h : RowAt w g off (A ++ x :: C)) (hi : A.length = i) : w.cell? ⟨g, off + i, none⟩ = some (pv x) :=
  h.cell (by rw [← hi, List.getElem?_append_right (Nat.le_refl _), Nat.sub_self]; rfl)
theorem RowAt.second {w : World} {g off j : Nat} {A M C : List Nat} {x y : Nat} (h : RowAt w g off (A ++ x :: (M ++ y :: C))) (hj : A.length + 1 + M.length = j) : w.cell? ⟨g, off + j, none⟩ = some (pv y) :=
  h.cell (by
    rw [← hj, List.getElem?_append_right (by omega)]
    have e : A.length + 1 + M.length - A.length = M.length + 1 := by omega
    rw [e, List.getElem?_cons_succ, List.getElem?_append_right (Nat.le_refl _), Nat.sub_self]
    rfl)

/-- what is asked of the world besides the row: it stands whatever is laid into the row -/
structure Inv (g : Nat) (I : World → Prop) : Prop where
  set : ∀ (W : World) (i : Nat) (v : Value), I W → I (W.setCell ⟨g, i, none⟩ v)
  drew : ∀ W : World, I W → I W.drew

set_option maxRecDepth 100000 in
set_option maxHeartbeats 3200000 in
theorem swapRange_any (I : World → Prop) (g off n cap : Nat) (hI : Inv g I) (p u m v q : List Nat) (f : Value) (w : World) (huv : u.length = v.length) (h : RowAt w g off (p ++ u ++ m ++ v ++ q)) (hn : (p ++ u ++ m ++ v ++ q).length = n) (hc : n ≤ cap) (hb : n ≤ 1000000) (hi : I w) :
    Calls Tryz.prog 119 #[.slice (some ⟨g, off, none⟩) n cap, .int .i64 p.length, .int .i64 (p.length + u.length + m.length : Nat), .int .i64 u.length, f] w fun e w' => e = .returned (.tuple #[]) ∧ RowAt w' g off (p ++ v ++ m ++ u ++ q) ∧ I w' := by
  have H := Lib.hid (And.intro h (And.intro hI hi))
  have HL := Lib.hid (And.intro hn huv)
  obtain ⟨a, ha⟩ : ∃ a, Hid (p.length = a) := ⟨_, rfl⟩
  obtain ⟨b, hb'⟩ : ∃ b, Hid (p.length + u.length + m.length = b) := ⟨_, rfl⟩
  obtain ⟨k, hk⟩ : ∃ k, Hid (u.length = k) := ⟨_, rfl⟩
  have hsum : a + k + m.length = b ∧ b + k + q.length = n ∧ k = v.length := by
    have h1 := ha.out; have h2 := hb'.out; have h3 := hk.out
    simp only [List.length_append] at hn
    omega
  have e1 : p.length = a := ha.out
  have e2 : p.length + u.length + m.length = b := hb'.out
  have e3 : u.length = k := hk.out
  rw [e2, e1, e3]
  obtain ⟨s1, s2, s3⟩ := hsum
  have bi : (b : Int) + k ≤ n := by omega
  have ai : (a : Int) + k ≤ b := by omega
  have ni : (n : Int) ≤ 1000000 := by omega
  have ci : (n : Int) ≤ cap := by omega
  have S := Lib.hid (And.intro s1 (And.intro s2 s3))
  clear h hI hi hn huv e1 e2 e3 s1 s2 s3
  go_enter Tryz.func119, Tryz.ntmps119
  go_wp2_with fail
  go_loopw [10] (fun i wr => ∃ j : Nat, j ≤ k ∧ i = .int .i64 j ∧ RowAt wr g off (p ++ (v.take j ++ u.drop j) ++ m ++ (u.take j ++ v.drop j) ++ q) ∧ I wr) (fun i _ => k - (intOf i).toNat)
  case atStart => exact ⟨0, Nat.zero_le _, rfl, by simpa using H.out.1, H.out.2.2⟩
  case round =>
    obtain ⟨j, hj, rfl, hrow, hI⟩ := hrel
    by_cases hlt : j < k
    · have hji : (j : Int) < k := by omega
      obtain ⟨x, hx⟩ : ∃ x, u[j]? = some x := ⟨_, List.getElem?_eq_getElem (by have := hk.out; omega)⟩
      obtain ⟨y, hy⟩ : ∃ y, v[j]? = some y := ⟨_, List.getElem?_eq_getElem (by have := S.out.2.2; omega)⟩
      have hu1 : u.drop j = x :: u.drop (j + 1) := by rw [List.drop_eq_getElem_cons (List.getElem?_eq_some_iff.1 hx).1, (List.getElem?_eq_some_iff.1 hx).2]
      have hv1 : v.drop j = y :: v.drop (j + 1) := by rw [List.drop_eq_getElem_cons (List.getElem?_eq_some_iff.1 hy).1, (List.getElem?_eq_some_iff.1 hy).2]
      have hu2 : u.take (j + 1) = u.take j ++ [x] := by rw [List.take_add_one, hx]; rfl
      have hv2 : v.take (j + 1) = v.take j ++ [y] := by rw [List.take_add_one, hy]; rfl
      obtain ⟨A, hA⟩ : ∃ A, Hid (p ++ v.take j = A) := ⟨_, rfl⟩
      obtain ⟨M, hM⟩ : ∃ M, Hid (u.drop (j + 1) ++ m ++ u.take j = M) := ⟨_, rfl⟩
      obtain ⟨C, hC⟩ : ∃ C, Hid (v.drop (j + 1) ++ q = C) := ⟨_, rfl⟩
      have hrow2 : RowAt wr g off (A ++ x :: (M ++ y :: C)) := by
        rw [← hA.out, ← hM.out, ← hC.out]
        rw [hu1, hv1] at hrow
        simpa using hrow
      have hfin : Hid (p ++ (v.take (j + 1) ++ u.drop (j + 1)) ++ m ++ (u.take (j + 1) ++ v.drop (j + 1)) ++ q = A ++ y :: (M ++ x :: C)) := by
        unfold Hid
        rw [← hA.out, ← hM.out, ← hC.out, hu2, hv2]
        simp
      have hAl : Hid (A.length = a + j ∧ A.length + 1 + M.length = b + j) := by
        have h1 := ha.out; have h2 := hb'.out; have h3 := hk.out; have h4 := S.out
        rw [← hA.out, ← hM.out]
        constructor <;> simp only [List.length_append, List.length_take, List.length_drop] <;> omega
      have x0 := hrow2.first hAl.out.1
      have y0 := hrow2.second hAl.out.2
      have f0 := hrow2.ice (off + (a + j))
      have f1 := hrow2.ice (off + (b + j))
      have gl := hrow2.lt
      have hR2 := Lib.hid (hrow2.swap hAl.out.1 hAl.out.2)
      have hI2 : Hid (I (((wr.setCell ⟨g, off + (a + j), none⟩ (.pointer (some ⟨y, 0, none⟩))).setCell ⟨g, off + (b + j), none⟩ (.pointer (some ⟨x, 0, none⟩))).drew)) := H.out.2.1.drew _ (H.out.2.1.set _ _ _ (H.out.2.1.set _ _ _ hI))
      have t1 : ((a : Int) + j).toNat = a + j := by omega
      have t2 : ((b : Int) + j).toNat = b + j := by omega
      have b1 : (a : Int) + j < n := by omega
      have b2 : (b : Int) + j < n := by omega
      clear hx hy hu1 hv1 hu2 hv2 hrow hrow2 hI hlt
      go_wp2_with fail
      go_region
      go_wp2_with fail
      go_roundw
      case rel =>
        refine ⟨j + 1, by omega, by simp, ?_, hI2.out⟩
        rw [hfin.out]
        exact hR2.out
      case measure => simp [intOf]; omega
    · obtain rfl : k = j := by omega
      go_wp2_with fail
      go_end0
      refine ⟨rfl, ?_, hI⟩
      have e1 : v.take k = v := List.take_of_length_le (by have := S.out.2.2; omega)
      have e2 : u.take k = u := List.take_of_length_le (by have := hk.out; omega)
      have e3 : u.drop k = [] := List.drop_eq_nil_of_le (by have := hk.out; omega)
      have e4 : v.drop k = [] := List.drop_eq_nil_of_le (by have := S.out.2.2; omega)
      rw [e1, e2, e3, e4, List.append_nil, List.append_nil] at hrow
      exact hrow

theorem swapRange_int (I : World → Prop) (g off n cap : Nat) (hI : Inv g I) (p u m v q : List Nat) (f : Value) (w : World) (huv : u.length = v.length) (h : RowAt w g off (p ++ u ++ m ++ v ++ q)) (hn : (p ++ u ++ m ++ v ++ q).length = n) (hc : n ≤ cap) (hb : n ≤ 1000000) (hi : I w)
    (a b k : Int) (ea : a = p.length) (eb : b = (p.length + u.length + m.length : Nat)) (ek : k = u.length) :
    Calls Tryz.prog 119 #[.slice (some ⟨g, off, none⟩) n cap, .int .i64 a, .int .i64 b, .int .i64 k, f] w fun e w' => e = .returned (.tuple #[]) ∧ RowAt w' g off (p ++ v ++ m ++ u ++ q) ∧ I w' := by
  subst ea eb ek
  exact swapRange_any I g off n cap hI p u m v q f w huv h hn hc hb hi

set_option maxRecDepth 100000 in
set_option maxHeartbeats 3200000 in
theorem rotate_any (I : World → Prop) (g off n cap : Nat) (hI : Inv g I) (p u v q : List Nat) (f : Value) (w : World) (hu : u ≠ []) (hv : v ≠ []) (h : RowAt w g off (p ++ u ++ v ++ q)) (hn : (p ++ u ++ v ++ q).length = n) (hc : n ≤ cap) (hb : n ≤ 1000000) (hi : I w)
    (a m b : Int) (ea : a = p.length) (em : m = (p.length + u.length : Nat)) (eb : b = (p.length + u.length + v.length : Nat)) :
    Calls Tryz.prog 106 #[.slice (some ⟨g, off, none⟩) n cap, .int .i64 a, .int .i64 m, .int .i64 b, f] w fun e w' => e = .returned (.tuple #[]) ∧ RowAt w' g off (p ++ v ++ u ++ q) ∧ I w' := by
  have H := Lib.hid (And.intro h (And.intro hI hi))
  have hub := List.length_pos_iff.2 hu
  have hvb := List.length_pos_iff.2 hv
  have HN := Lib.hid hn
  have HU := Lib.hid (And.intro hu hv)
  simp only [List.length_append] at hn
  have d1 : m - a = u.length := by omega
  have d2 : b - m = v.length := by omega
  have b1 : 0 ≤ a := by omega
  have b2 : a ≤ m := by omega
  have b3 : m ≤ b := by omega
  have b4 : b ≤ 1000000 := by omega
  have E := Lib.hid (And.intro ea (And.intro em eb))
  have D := Lib.hid (And.intro d1 d2)
  clear h hI hi hu hv ea em eb hn d1 d2 hub hvb
  go_enter Tryz.func106, Tryz.ntmps106
  go_wp2_with fail
  go_loopw [10, 11] (fun i j wr => ∃ (P U V Q : List Nat), i = .int .i64 U.length ∧ j = .int .i64 V.length ∧ Hid (((P.length + U.length : Nat) : Int) = m ∧ (P ++ U ++ V ++ Q).length = n ∧ P ++ V ++ U ++ Q = p ++ v ++ u ++ q) ∧ 0 < U.length ∧ 0 < V.length ∧ RowAt wr g off (P ++ U ++ V ++ Q) ∧ I wr) (fun i j _ => (intOf i).toNat + (intOf j).toNat)
  case atStart => exact ⟨p, u, v, q, by rw [D.out.1], by rw [D.out.2], ⟨E.out.2.1.symm, HN.out, rfl⟩, List.length_pos_iff.2 HU.out.1, List.length_pos_iff.2 HU.out.2, H.out.1, H.out.2.2⟩
  case round =>
    obtain ⟨P, U, V, Q, rfl, rfl, hh, hU, hV, hrow, hIw⟩ := hrel
    have hl := hh.out.2.1
    simp only [List.length_append] at hl
    have hm := hh.out.1
    have c1 : (U.length : Int) ≤ m := by omega
    have c2 : (V.length : Int) ≤ 1000000 := by omega
    have c3 : m ≤ 1000000 := by omega
    have R := Lib.hid (And.intro hrow hIw)
    have hne : ∀ i j : Nat, i ≠ j → ((i : Int) == (j : Int)) = false := fun i j h => by simp only [beq_eq_false_iff_ne, ne_eq]; omega
    rcases Nat.lt_trichotomy U.length V.length with hlt | heq | hgt
    · -- the right one is longer
      obtain ⟨V1, hV1⟩ : ∃ V1, V1 = V.take (V.length - U.length) := ⟨_, rfl⟩
      obtain ⟨V2, hV2⟩ : ∃ V2, V2 = V.drop (V.length - U.length) := ⟨_, rfl⟩
      have hVV : V = V1 ++ V2 := by rw [hV1, hV2, List.take_append_drop]
      have l1 : V1.length = V.length - U.length := by rw [hV1, List.length_take]; omega
      have l2 : V2.length = U.length := by rw [hV2, List.length_drop]; omega
      have hi : (U.length : Int) < V.length := by omega
      have hq := hne U.length V.length (by omega)
      have K := Lib.hid (And.intro hVV (And.intro l1 (And.intro l2 (And.intro hm hl))))
      clear hVV l1 l2 hV1 hV2 hm hl hrow hIw hlt hne
      go_wp2_with fail
      refine (swapRange_int I g off n cap H.out.2.1 P U V1 V2 Q f _ (by have := K.out.2.2.1; omega) (by
        have := R.out.1
        have e := K.out.1
        rw [e] at this
        simpa using this) (by have := hh.out.2.1; have e := K.out.1; rw [e] at this; simpa using this) hc hb R.out.2 _ _ _ (by have := K.out; omega) (by have := K.out; omega) rfl).mono ?_
      rintro e w2 ⟨rfl, hr2, hi2⟩
      have R2 := Lib.hid (And.intro hr2 hi2)
      clear hr2 hi2
      go_wp2_with fail
      go_roundw
      case rel =>
        refine ⟨P, V2, V1, U ++ Q, by rw [K.out.2.2.1], ?_, ⟨by have := K.out; omega, ?_, ?_⟩, by have := K.out; omega, by have := K.out; omega, ?_, R2.out.2⟩
        · have := K.out.2.1
          have e : (V.length : Int) - U.length = V1.length := by omega
          rw [e]
        · have := hh.out.2.1
          have e := K.out.1
          rw [e] at this
          simp at this ⊢
          omega
        · have := hh.out.2.2
          rw [← this, K.out.1]
          simp
        · have := R2.out.1
          simpa using this
      case measure => simp [intOf]; omega
    · -- as long as one another
      have hq : ((U.length : Int) == (V.length : Int)) = true := by simp only [beq_iff_eq]; omega
      have hq2 : ((U.length : Int) != (V.length : Int)) = false := by simp only [bne_eq_false_iff_eq]; omega
      have K := Lib.hid (And.intro heq (And.intro hm hl))
      clear hm hl hrow hIw heq hne
      go_wp2_with fail
      refine (swapRange_int I g off n cap H.out.2.1 P U [] V Q f _ K.out.1 (by simpa using R.out.1) (by simpa using hh.out.2.1) hc hb R.out.2 _ _ _ (by have := K.out; omega) (by have := K.out; simp; omega) rfl).mono ?_
      rintro e w2 ⟨rfl, hr2, hi2⟩
      have R2 := Lib.hid (And.intro hr2 hi2)
      clear hr2 hi2
      go_wp2_with fail
      go_end0
      refine ⟨rfl, ?_, R2.out.2⟩
      have := R2.out.1
      rw [List.append_nil] at this
      rw [← hh.out.2.2]
      exact this
    · -- the left one is longer
      obtain ⟨U1, hU1⟩ : ∃ U1, U1 = U.take V.length := ⟨_, rfl⟩
      obtain ⟨U2, hU2⟩ : ∃ U2, U2 = U.drop V.length := ⟨_, rfl⟩
      have hUU : U = U1 ++ U2 := by rw [hU1, hU2, List.take_append_drop]
      have l1 : U1.length = V.length := by rw [hU1, List.length_take]; omega
      have l2 : U2.length = U.length - V.length := by rw [hU2, List.length_drop]
      have hi : (V.length : Int) < U.length := by omega
      have hq := hne U.length V.length (by omega)
      have K := Lib.hid (And.intro hUU (And.intro l1 (And.intro l2 (And.intro hm hl))))
      clear hUU l1 l2 hU1 hU2 hm hl hrow hIw hgt hne
      go_wp2_with fail
      refine (swapRange_int I g off n cap H.out.2.1 P U1 U2 V Q f _ K.out.2.1 (by
        have := R.out.1
        have e := K.out.1
        rw [e] at this
        simpa using this) (by have := hh.out.2.1; have e := K.out.1; rw [e] at this; simpa using this) hc hb R.out.2 _ _ _ (by have := K.out; omega) (by have := K.out; omega) (by have := K.out; omega)).mono ?_
      rintro e w2 ⟨rfl, hr2, hi2⟩
      have R2 := Lib.hid (And.intro hr2 hi2)
      clear hr2 hi2
      go_wp2_with fail
      go_roundw
      case rel =>
        refine ⟨P ++ V, U2, U1, Q, ?_, by rw [K.out.2.1], ⟨by have := K.out; simp; omega, ?_, ?_⟩, by have := K.out; omega, by have := K.out; omega, ?_, R2.out.2⟩
        · have := K.out.2.2.1
          have e : (U.length : Int) - V.length = U2.length := by omega
          rw [e]
        · have := hh.out.2.1
          have e := K.out.1
          rw [e] at this
          simp at this ⊢
          omega
        · have := hh.out.2.2
          rw [← this, K.out.1]
          simp
        · have := R2.out.1
          simpa using this
      case measure => simp [intOf]; omega

end Go.Proofs.YtbghpkoimbmijaaGreatDoor
