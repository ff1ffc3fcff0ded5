import Derived.Test.YtbghpkoimbmijaaGreatDoorKA
/- Walks: types without parts: basic, spelled, text. -/
namespace Go.Proofs.YtbghpkoimbmijaaGreatDoor
open Go.RowKit
set_option linter.unusedSimpArgs false

set_option maxHeartbeats 1600000 in
theorem basic_any (k : Int) (w : World) : Calls Tryz.prog 22 #[.int .i64 k] w fun e w' => ∃ b, e = .returned (.pointer (some ⟨b, 0, none⟩)) ∧ Leaf w' b k ⟨#[]⟩ ∧ w.heap.size ≤ b ∧ Up w w' := by
  go_enter Tryz.func22, Tryz.ntmps22
  go_wp2_with (first | (go_at_call 26; refine (made_any k 0 ⟨#[]⟩ (.slice none 0 0) (.slice none 0 0) (.slice none 0 0) [] _ (Parts.nil _) ⟨_, _, _, rfl⟩ ⟨_, _, _, rfl⟩).mono ?_; rintro e w2 ⟨b, rfl, hb, hl, hu2⟩))
  go_ret
  exact ⟨b, rfl, hb, hl, uq⟩

set_option maxRecDepth 100000 in
set_option maxHeartbeats 1600000 in
theorem spelled_leaf (b : Nat) (k : Int) (s : ByteArray) (h1 : 1 ≤ k) (h2 : k ≤ 10) (w : World) (h : Leaf w b k s) : Calls Tryz.prog 53 #[.pointer (some ⟨b, 0, none⟩)] w fun e w' => e = .returned (.string (wordS k)) ∧ Up w w' := by
  have HK := Lib.hid (And.intro h1 h2)
  have e11 : (k == 11) = false := by simp; omega
  have e12 : (k == 12) = false := by simp; omega
  have e13 : (k == 13) = false := by simp; omega
  have e14 : (k == 14) = false := by simp; omega
  have e15 : (k == 15) = false := by simp; omega
  have e16 : (k == 16) = false := by simp; omega
  have e17 : (k == 17) = false := by simp; omega
  have e18 : (k == 18) = false := by simp; omega
  have e19 : (k == 19) = false := by simp; omega
  have e20 : (k == 20) = false := by simp; omega
  have e21 : (k == 21) = false := by simp; omega
  have e22 : (k == 22) = false := by simp; omega
  have e23 : (k == 23) = false := by simp; omega
  have a0 := cell_of h 0
  have a4 := lt_of_heap h
  simp only [List.getElem?_toArray, List.getElem?_cons_zero, List.getElem?_cons_succ] at a0
  clear h h1 h2
  go_enter Tryz.func53, Tryz.ntmps53
  go_wp2_with (first | (go_at_call 77; refine (word_any k HK.out.1 HK.out.2 _).mono ?_; rintro e w2 ⟨rfl, hu2⟩))
  go_ret
  exact ⟨rfl, uq⟩

set_option maxHeartbeats 1600000 in
theorem text_leaf (b : Nat) (k : Int) (h1 : 1 ≤ k) (h2 : k ≤ 10) (w : World) (h : Leaf w b k ⟨#[]⟩) : Calls Tryz.prog 34 #[.pointer (some ⟨b, 0, none⟩)] w fun e w' => e = .returned (.string (wordS k)) ∧ Leaf w' b k (wordS k) ∧ Kept (fun x => x = b) w w' := by
  have HK := Lib.hid (And.intro h1 h2)
  have HL := Lib.hid h
  have a7 := cell_of h 7
  have f7 := ice_of h 7
  have a4 := lt_of_heap h
  simp only [List.getElem?_toArray, List.getElem?_cons_zero, List.getElem?_cons_succ] at a7
  clear h h1 h2
  go_enter Tryz.func34, Tryz.ntmps34
  go_wp2_with (first | (go_at_call 53; refine (spelled_leaf b k ⟨#[]⟩ HK.out.1 HK.out.2 _ HL.out).mono ?_; rintro e w2 ⟨rfl, hu2⟩; have HL2 := Lib.hid (hu2.get HL.out); have f7 := ice_of HL2.out 7; have a7 := cell_of HL2.out 7; simp only [List.getElem?_toArray, List.getElem?_cons_zero, List.getElem?_cons_succ] at a7; have a4 := lt_of_heap HL2.out))
  go_ret
  refine ⟨rfl, ?_, Kept.setCell (S := fun x => x = b) (p := ⟨b, 7, none⟩) (Kept.of_up hu2) (.inl rfl) _⟩
  have q := setCell_block (i := 7) HL2.out (.string (wordS k))
  exact q

set_option maxHeartbeats 1600000 in
theorem text_said (b : Nat) (s : ByteArray) (hs : (s.toList == []) = false) (w : World) (h : w.cell? ⟨b, 7, none⟩ = some (.string s)) : Calls Tryz.prog 34 #[.pointer (some ⟨b, 0, none⟩)] w fun e w' => e = .returned (.string s) ∧ w = w' := by
  go_enter Tryz.func34, Tryz.ntmps34
  go_wp2_with fail
  go_ret
  exact ⟨rfl, rfl⟩

end Go.Proofs.YtbghpkoimbmijaaGreatDoor
