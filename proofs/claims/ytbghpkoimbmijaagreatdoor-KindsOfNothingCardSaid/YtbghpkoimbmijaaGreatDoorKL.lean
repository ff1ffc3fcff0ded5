import Derived.Test.YtbghpkoimbmijaaGreatDoorKK
/- Walks: slices.Contains, round, a part's text, cmp.Compare, the two functions that sorted makes. -/
namespace Go.Proofs.YtbghpkoimbmijaaGreatDoor
open Go.RowKit
set_option linter.unusedSimpArgs false

set_option maxHeartbeats 1600000 in
theorem Index_ints (zs : List Int) (g off cap : Nat) (v : Int) (w : World) (hc : ∀ j z, zs[j]? = some z → w.cell? ⟨g, off + j, none⟩ = some (.int .i64 z)) (hg : g < w.heap.size) (hlen : zs.length ≤ 1000000) :
    Calls Tryz.prog 85 #[.slice (some ⟨g, off, none⟩) zs.length cap, .int .i64 v] w fun e w' => Up w w' ∧ ((e = .returned (.int .i64 (-1)) ∧ v ∉ zs) ∨ ∃ j : Nat, e = .returned (.int .i64 j) ∧ v ∈ zs) := by
  have HC := Lib.hid hc
  clear hc
  go_enter Tryz.func85, Tryz.ntmps85
  go_wp2_with fail
  go_loopw [8] (fun i wr => ∃ j : Nat, j ≤ zs.length ∧ i = .int .i64 j ∧ v ∉ zs.take j ∧ Up w wr) (fun i _ => zs.length - (intOf i).toNat)
  case atStart => exact ⟨0, Nat.zero_le _, rfl, (by simp), uq⟩
  case round =>
    obtain ⟨j, hj, rfl, hno, hup⟩ := hrel
    have HN := Lib.hid hno
    clear hno
    by_cases hlt : j < zs.length
    · have hji : (j : Int) < zs.length := by omega
      obtain ⟨z, hz⟩ : ∃ z, zs[j]? = some z := ⟨_, List.getElem?_eq_getElem hlt⟩
      have y0 : wr.cell? ⟨g, off + j, none⟩ = some (.int .i64 z) := (hup.cells _ _ hg).trans (HC.out j z hz)
      have HZ := Lib.hid hz
      clear hz hlt
      by_cases he : v = z
      · subst he
        go_wp2_with fail
        refine bodyPost_ret (v := .int .i64 j) (by simp [results, Tryz.results85, go_sem]) rfl ?_
        exact ⟨uq, .inr ⟨j, rfl, List.mem_of_getElem? HZ.out⟩⟩
      · have hb : (v == z) = false := by simpa using he
        have HE := Lib.hid he
        clear he
        go_wp2_with fail
        refine ⟨⟨j + 1, by omega, by simp, fun hm => ?_, uq⟩, by simp [intOf]; omega⟩
        rw [List.take_add_one, HZ.out] at hm
        rcases List.mem_append.1 hm with hm | hm
        · exact HN.out hm
        · exact HE.out (by simpa using hm)
    · obtain rfl : j = zs.length := by omega
      clear hlt
      go_wp2_with fail
      refine bodyPost_ret (v := .int .i64 (-1)) (by simp [results, Tryz.results85, go_sem]) rfl ?_
      exact ⟨uq, .inl ⟨rfl, by have := HN.out; rwa [List.take_length] at this⟩⟩

theorem Contains_ints (zs : List Int) (g off cap : Nat) (v : Int) (w : World) (hc : ∀ j z, zs[j]? = some z → w.cell? ⟨g, off + j, none⟩ = some (.int .i64 z)) (hg : g < w.heap.size) (hlen : zs.length ≤ 1000000) :
    Calls Tryz.prog 70 #[.slice (some ⟨g, off, none⟩) zs.length cap, .int .i64 v] w fun e w' => e = .returned (.bool (decide (v ∈ zs))) ∧ Up w w' := by
  have HC := Lib.hid hc
  clear hc
  go_enter Tryz.func70, Tryz.ntmps70
  go_wp2_with (first | (go_at_call 85; refine (Index_ints zs g off cap v _ HC.out hg hlen).mono ?_; rintro e w2 ⟨hu2, ⟨rfl, hn⟩ | ⟨j, rfl, hn⟩⟩))
  · go_ret
    exact ⟨by simp [hn], uq⟩
  · go_ret
    exact ⟨by simp [hn], uq⟩

def roundS (zs : List Int) (k : Int) (s : ByteArray) : ByteArray := if k ∈ zs then ⟨#[40]⟩ ++ s ++ ⟨#[41]⟩ else s
def partS (k : Int) (s : ByteArray) : ByteArray := roundS [15] k s

theorem round_said (zs : List Int) (g cap x : Nat) (k : Int) (s : ByteArray) (w : World) (hx : Item w x k s) (hs : s.size ≤ 1000000000) (hc : ∀ j z, zs[j]? = some z → w.cell? ⟨g, 0 + j, none⟩ = some (.int .i64 z)) (hg : g < w.heap.size) (hlen : zs.length ≤ 1000000) :
    Calls Tryz.prog 51 #[.pointer (some ⟨x, 0, none⟩), .slice (some ⟨g, 0, none⟩) zs.length cap] w fun e w' => e = .returned (.string (roundS zs k s)) ∧ Up w w' := by
  have HC := Lib.hid hc
  have HX := Lib.hid hx
  obtain ⟨cs, h1, h2, h3, h4⟩ := hx
  have y0 := (cell_of h1 0).trans h2
  have yl := lt_of_heap h1
  have HN := Lib.hid h4
  clear hc h1 h2 h3 h4
  by_cases hk : k ∈ zs
  · have e : roundS zs k s = ⟨#[40]⟩ ++ s ++ ⟨#[41]⟩ := by unfold roundS; rw [if_pos hk]
    rw [e]
    have HK : Hid (decide (k ∈ zs) = true) := by unfold Hid; simp [hk]
    clear hk e
    go_enter Tryz.func51, Tryz.ntmps51
    go_wp2_with (first | (go_at_call 70; refine (Contains_ints zs g 0 cap k _ HC.out hg hlen).mono ?_; rintro e w2 ⟨rfl, hu2⟩; simp only [HK.out]) | (go_at_call 34; refine (text_said x s HN.out _ (HX.out.said.up uq).cell).mono ?_; rintro e w3 ⟨rfl, rfl⟩))
    go_ret
    exact ⟨rfl, uq⟩
  · have e : roundS zs k s = s := by unfold roundS; rw [if_neg hk]
    rw [e]
    have HK : Hid (decide (k ∈ zs) = false) := by unfold Hid; simp [hk]
    clear hk e
    go_enter Tryz.func51, Tryz.ntmps51
    go_wp2_with (first | (go_at_call 70; refine (Contains_ints zs g 0 cap k _ HC.out hg hlen).mono ?_; rintro e w2 ⟨rfl, hu2⟩; simp only [HK.out]) | (go_at_call 34; refine (text_said x s HN.out _ (HX.out.said.up uq).cell).mono ?_; rintro e w3 ⟨rfl, rfl⟩))
    go_ret
    exact ⟨rfl, uq⟩

abbrev byF : Nat := 50

theorem by_said (x : Nat) (k : Int) (s : ByteArray) (w : World) (hx : Item w x k s) (hs : s.size ≤ 1000000000) :
    Calls Tryz.prog 50 #[.pointer (some ⟨x, 0, none⟩)] w fun e w' => e = .returned (.string (partS k s)) ∧ Up w w' := by
  have HX := Lib.hid hx
  clear hx
  go_enter Tryz.func50, Tryz.ntmps50
  go_wp2_with (first | (go_at_call 51; refine (round_said [15] w.heap.size 1 x k s _ (HX.out.up uq) hs (by intro j z hz; cases j with | zero => simp at hz; subst hz; simp | succ j => simp at hz) (by simp) (by simp)).mono ?_; rintro e w2 ⟨rfl, hu2⟩))
  go_ret
  exact ⟨rfl, uq⟩

theorem isNaN_any (a : ByteArray) (w : World) : Calls Tryz.prog 80 #[.string a] w fun e w' => e = .returned (.bool false) ∧ Up w w' := by
  go_enter Tryz.func80, Tryz.ntmps80
  go_wp2_with fail
  go_ret
  exact ⟨by simp, uq⟩

def cmpS (a b : ByteArray) : Int := if Op.bytesLess a.toList b.toList = true then -1 else if (a.toList == b.toList) = true then 0 else 1

theorem Compare_any (a b : ByteArray) (w : World) : Calls Tryz.prog 60 #[.string a, .string b] w fun e w' => e = .returned (.int .i64 (cmpS a b)) ∧ Up w w' := by
  go_enter Tryz.func60, Tryz.ntmps60
  go_wp2_with (first | (go_at_call 80; refine (isNaN_any _ _).mono ?_; rintro e w2 ⟨rfl, hu2⟩))
  · rename_i h
    go_ret
    exact ⟨by simp [cmpS, h], uq⟩
  · have h1 : Op.bytesLess a.toList b.toList = false := by assumption
    have h2 : (!a.toList == b.toList) = true := by assumption
    go_ret
    refine ⟨?_, uq⟩
    have h2 : (a.toList == b.toList) = false := by simpa using h2
    unfold cmpS
    rw [h1, h2]
    rfl
  · have h1 : Op.bytesLess a.toList b.toList = false := by assumption
    have h2 : (!a.toList == b.toList) = false := by assumption
    go_ret
    refine ⟨?_, uq⟩
    have h2 : (a.toList == b.toList) = true := by simpa using h2
    unfold cmpS
    rw [h1, h2]
    rfl

abbrev FnT : TypeId := 108
/-- a box with the function that says a part's text -/
def ByAt (w : World) (b : Nat) : Prop := ∃ fz, w.heap[b]? = some (.cells #[.func (.func byF) #[] #[]] FnT fz)
theorem ByAt.up {w w' : World} {b : Nat} (h : ByAt w b) (k : Up w w') : ByAt w' b := let ⟨fz, h⟩ := h; ⟨fz, k.get h⟩

set_option maxRecDepth 100000 in
set_option maxHeartbeats 3200000 in
theorem less_said (x y b : Nat) (kx ky : Int) (s t : ByteArray) (w : World) (hb : ByAt w b) (hx : Item w x kx s) (hy : Item w y ky t) (hs : s.size ≤ 1000000000) (ht : t.size ≤ 1000000000) :
    Calls Tryz.prog 66 #[.pointer (some ⟨x, 0, none⟩), .pointer (some ⟨y, 0, none⟩), .pointer (some ⟨b, 0, none⟩)] w fun e w' => e = .returned (.int .i64 (cmpS (partS kx s) (partS ky t))) ∧ Up w w' := by
  obtain ⟨fz, hb⟩ := hb
  have HX := Lib.hid hx
  have HY := Lib.hid hy
  have b0 := cell_of hb 0
  have bl := lt_of_heap hb
  have HB := Lib.hid hb
  simp only [List.getElem?_toArray, List.getElem?_cons_zero] at b0
  clear hx hy hb
  go_enter Tryz.func66, Tryz.ntmps66
  go_wp2_with fail
  go_region_law (first | (go_simp; go_at_call 50; first | (refine (by_said x kx s _ (HX.out.up uq) hs).mono ?_; rintro e w2 ⟨rfl, hu2⟩; have b0 := cell_of (hu2.get (Up.get (w := w) uq HB.out)) 0; simp only [List.getElem?_toArray, List.getElem?_cons_zero] at b0) | (refine (by_said y ky t _ (HY.out.up uq) ht).mono ?_; rintro e w3 ⟨rfl, hu3⟩; have b0 := cell_of (hu3.get (Up.get (w := w) uq HB.out)) 0; simp only [List.getElem?_toArray, List.getElem?_cons_zero] at b0)) | (go_simp; go_at_call 60; refine (Compare_any _ _ _).mono ?_; rintro e w4 ⟨rfl, hu4⟩))
  all_goals (go_wp2_with fail)
  all_goals go_ret
  all_goals exact ⟨rfl, uq⟩

end Go.Proofs.YtbghpkoimbmijaaGreatDoor
