import Derived.Test.YtbghpkoimbmijaaGreatDoorKP
/- Walk: known. -/
namespace Go.Proofs.YtbghpkoimbmijaaGreatDoor
open Go.RowKit
set_option linter.unusedSimpArgs false

set_option maxRecDepth 100000 in
set_option maxHeartbeats 3200000 in
theorem known_any (w : World) : Calls Tryz.prog 6 #[] w fun e w' => e = .returned (.bool true) ∧ Up w w' := by
  have t10 : (wordsL 10 ++ [boolS])[10]? = some boolS := by decide +kernel
  have t6 : (wordsL 10 ++ [boolS])[6]? = some (wordS 7) := by decide +kernel
  have T10 := Lib.hid t10
  have T6 := Lib.hid t6
  have hb1 : (boolS.toList == [102, 97, 108, 115, 101, 32, 124, 32, 116, 114, 117, 101]) = true := by decide +kernel
  have hb2 : ((wordS 7).toList == [110, 117, 109, 98, 101, 114]) = true := by decide +kernel
  clear t10 t6
  go_enter Tryz.func6, Tryz.ntmps6
  go_wp2_with fail
  go_at_call 7
  refine (New_any _).mono ?_
  rintro e w2 ⟨A, bs, g, tv, rfl, hf, hu2⟩
  have HF := Lib.hid hf
  clear hf
  go_wp2_with fail
  refine (Union_known w.heap.size A g bs tv w2.heap.size _ _ (HF.out.up uq) (by simp) (by simp [go_sem]) (by simp [go_sem]) (by simp [go_sem])).mono ?_
  rintro e w3 ⟨rfl, ⟨⟨tv', c, hA⟩, hlen⟩, hlow⟩
  have hl11 : (bs ++ [c]).length = 11 := by simp [hlen]
  have hT10 : ∀ W, Up w3 W → Calls Tryz.prog 19 #[.pointer (some ⟨A, 0, none⟩), .int .i64 10] W fun e w' => e = .returned (.string boolS) ∧ Up W w' := fun W hW => Text_any w.heap.size A (bs ++ [c]) (wordsL 10 ++ [boolS]) tv' (.map (some g)) 10 boolS _ (hA.up hW) T10.out
  have hT6 : ∀ W, Up w3 W → Calls Tryz.prog 19 #[.pointer (some ⟨A, 0, none⟩), .int .i64 6] W fun e w' => e = .returned (.string (wordS 7)) ∧ Up W w' := fun W hW => Text_any w.heap.size A (bs ++ [c]) (wordsL 10 ++ [boolS]) tv' (.map (some g)) 6 (wordS 7) _ (hA.up hW) T6.out
  have hL : ∀ W, Up w3 W → Calls Tryz.prog 18 #[.pointer (some ⟨A, 0, none⟩)] W fun e w' => e = .returned (.int .i64 11) ∧ Up W w' := fun W hW => by
    have q := Len_any w.heap.size A (bs ++ [c]) (wordsL 10 ++ [boolS]) tv' (.map (some g)) _ (hA.up hW)
    rw [hl11] at q
    exact q
  have H10 := Lib.hid hT10
  have H6 := Lib.hid hT6
  have HL := Lib.hid hL
  have HW : Hid (Up w w3) := Below.trans (Up.alloc hu2 _) hlow
  clear hT10 hT6 hL hA hlen hl11 hlow
  go_wp2_with fail
  refine (H10.out _ uq).mono ?_
  rintro e w4 ⟨rfl, hu4⟩
  go_wp2_with fail
  refine (HL.out _ uq).mono ?_
  rintro e w5 ⟨rfl, hu5⟩
  go_wp2_with fail
  refine (H6.out _ uq).mono ?_
  rintro e w6 ⟨rfl, hu6⟩
  go_wp2_with fail
  go_ret
  exact ⟨rfl, Up.trans HW.out uq⟩

end Go.Proofs.YtbghpkoimbmijaaGreatDoor
