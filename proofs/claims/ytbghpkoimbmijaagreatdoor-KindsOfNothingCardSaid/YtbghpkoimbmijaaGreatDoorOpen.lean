/- How slices of whatever come in, read out of the memory. -/
import Derived.Test.YtbghpkoimbmijaaGreatDoorLaid
import Derived.Test.YtbghpkoimbmijaaGreatDoorKeep
import Derived.LaidSub
import Derived.SizedLaws
namespace Go.Proofs.YtbghpkoimbmijaaGreatDoor
open Go.ChangeShapes Go.WideShapes Go.ChangeAt Go.RowKit
set_option linter.unusedVariables false
set_option maxRecDepth 100000

theorem cellsI : Tryz.prog.cellsOf 3 = 1 := by kernel_rfl
theorem cellsS : Tryz.prog.cellsOf 9 = 1 := by kernel_rfl
theorem cellsB : Tryz.prog.cellsOf 4 = 1 := by kernel_rfl

theorem weights_all {H : Type} {P : Program} {e : TypeId} : ∀ {l : List (DataW H)} {d : DataW H}, d ∈ l → ∀ n ∈ d.weights P e, n ∈ DataW.weightsAll P e l
  | d0 :: l, d, hd, n, hn => by
    simp only [DataW.weightsAll, List.mem_append]
    rcases List.mem_cons.1 hd with rfl | hd
    · exact .inl hn
    · exact .inr (weights_all hd n hn)

section
variable {H : Type} {enc : TypeId × Value → H}
/-- a slice of elements of k cells each -/
theorem open_row {W : World} {sp : Nat → Bool} {fuel : Nat} {t e : TypeId} {k by_ : Nat} {cs : List Value} {x : DataW H × List MemPlace} (ht : Tryz.prog.underlying t = some (.slice e)) (hk : Tryz.prog.cellsOf e = k) (hk0 : 0 < k) (hb : Tryz.prog.bytesOf e = by_)
    (h : DataW.trod enc Tryz.prog W 0 sp true fuel t cs = some x) (hsz : ∀ n ∈ DataW.weights Tryz.prog t x.1, n ≤ reachBytes) :
    ∃ a l c, cs = [.slice a l c] ∧ l ≤ c ∧ l * by_ ≤ 140737488351232 ∧
      ∀ i, i < l → ∃ b off us y m, a = some ⟨b, off, none⟩ ∧ b < W.heap.size ∧ us.length = k ∧ (∀ j, j < k → W.cell? ⟨b, off + i * k + j, none⟩ = us[j]?) ∧ m < fuel ∧ DataW.trod enc Tryz.prog W 0 sp true m e us = some y ∧ ∀ n ∈ DataW.weights Tryz.prog e y.1, n ≤ reachBytes := by
  rcases DataW.trod_slice ht h with ⟨rfl, _⟩ | ⟨a0, len, cap, elems, rest, n, rfl, rfl, rfl, _, hl, hm, hlen, hel, _, _⟩
  · exact ⟨none, 0, 0, rfl, Nat.le_refl _, by omega, fun i hi => by omega⟩
  refine ⟨some a0, len, cap, rfl, hl, ?_, fun i hi => ?_⟩
  · have q := hsz ((elems.length + rest.length) * by_) (by simp [DataW.weights, ht, hb])
    rw [hlen] at q
    have q2 : len * by_ ≤ (len + rest.length) * by_ := Nat.mul_le_mul_right _ (by omega)
    unfold reachBytes at q
    omega
  · obtain ⟨y, hy⟩ : ∃ y, elems[i]? = some y := ⟨_, List.getElem?_eq_getElem (by omega)⟩
    have h1 := hel i hi
    rw [hy, Option.bind_eq_some_iff] at h1
    obtain ⟨cs, hcs, hty⟩ := h1
    rw [hk] at hcs
    obtain ⟨_, hcl, hcell⟩ := World.cells?_some hcs
    have hblk := World.cells?_block hcs hk0
    obtain ⟨b, off, spot⟩ := a0
    have hspot : spot = none := by
      obtain ⟨y0, hy0⟩ : ∃ y, elems[0]? = some y := ⟨_, List.getElem?_eq_getElem (by omega)⟩
      have h0 := hel 0 (by omega)
      rw [hy0, Option.bind_eq_some_iff] at h0
      obtain ⟨cs0, hcs0, _⟩ := h0
      rw [hk] at hcs0
      obtain ⟨_, hcl0, hcell0⟩ := World.cells?_some hcs0
      have h2 := hcell0 0 hk0
      rw [List.getElem?_eq_getElem (by omega)] at h2
      simpa [Addr.add] using World.cell?_spot h2
    subst hspot
    rw [Go.WideShapes.add_plain] at hblk
    refine ⟨b, off, cs, y, n, rfl, hblk, hcl, fun j hj => ?_, by omega, hty, fun u hu => hsz u ?_⟩
    · have h2 := hcell j hj
      rw [Go.WideShapes.add_plain, Go.WideShapes.add_plain] at h2
      exact h2
    · simp only [DataW.weights, ht, List.mem_cons, List.mem_append]
      exact .inr (.inl (weights_all (List.mem_map.2 ⟨y, List.mem_of_getElem? hy, rfl⟩) u hu))

/-- a slice of texts -/
theorem open_strs {W : World} {sp : Nat → Bool} {fuel : Nat} {cs : List Value} {x : DataW H × List MemPlace} (h : DataW.trod enc Tryz.prog W 0 sp true fuel 23 cs = some x) (hsz : ∀ n ∈ DataW.weights Tryz.prog 23 x.1, n ≤ reachBytes) :
    ∃ a l c, cs = [.slice a l c] ∧ l ≤ c ∧ l ≤ 140737488351232 ∧ ∀ i, i < l → ∃ b off s, a = some ⟨b, off, none⟩ ∧ b < W.heap.size ∧ W.cell? ⟨b, off + i, none⟩ = some (.string s) ∧ s.size ≤ 140737488351232 := by
  obtain ⟨a, l, c, rfl, h1, h2, h3⟩ := open_row (by_ := 16) Tryz.underlying23 cellsS (by decide) (by kernel_rfl) h hsz
  refine ⟨a, l, c, rfl, h1, by omega, fun i hi => ?_⟩
  obtain ⟨b, off, us, y, m, q1, q2, q3, q4, _, q5, q6⟩ := h3 i hi
  obtain ⟨s, rfl, rfl, _⟩ := DataW.trod_string Tryz.underlying9 q5
  have q7 := q6 s.data.toList.length (by simp [DataW.weights])
  have q8 := q4 0 (by decide)
  rw [Nat.mul_one, Nat.add_zero] at q8
  exact ⟨b, off, s, q1, q2, by simpa using q8, by unfold reachBytes at q7; simpa using q7⟩
end

end Go.Proofs.YtbghpkoimbmijaaGreatDoor
