import Derived.Test.YtbghpkoimbmijaaGreatDoorKeep
import Derived.Deep.QuietTactic
import Derived.BigQuiet
import Derived.Scope
/- Walks: an arena that is none, one that has nothing. -/
namespace Go.Proofs.YtbghpkoimbmijaaGreatDoor
open Go.RowKit
set_option linter.unusedSimpArgs false

abbrev nilA : Value := .pointer none
/-- an arena with nothing -/
def ZeroA (w : World) (A : Nat) : Prop := w.heap[A]? = some (.cells #[.slice none 0 0, .map none, .map none] 59 (0, 0))
theorem ZeroA.up {w w' : World} {A : Nat} (h : ZeroA w A) (k : Up w w') : ZeroA w' A := k.get h

theorem has_nil (id : Int) (w : World) : Calls Tryz.prog 29 #[nilA, .int .i64 id] w fun e w' => e = .returned (.bool false) ∧ Up w w' := by
  go_enter Tryz.func29, Tryz.ntmps29
  go_wp2_with fail
  go_ret
  exact ⟨rfl, uq⟩

theorem has_zero (A : Nat) (id : Int) (w : World) (h : ZeroA w A) : Calls Tryz.prog 29 #[.pointer (some ⟨A, 0, none⟩), .int .i64 id] w fun e w' => e = .returned (.bool false) ∧ Up w w' := by
  have a0 := cell_of h 0
  have al := lt_of_heap h
  simp only [List.getElem?_toArray, List.getElem?_cons_zero] at a0
  clear h
  by_cases h0 : 0 ≤ id
  · have h1 : ¬ id < 0 := by omega
    go_enter Tryz.func29, Tryz.ntmps29
    go_wp2_with fail
    go_ret
    exact ⟨rfl, uq⟩
  · go_enter Tryz.func29, Tryz.ntmps29
    go_wp2_with fail
    go_ret
    exact ⟨rfl, uq⟩

theorem Find_nil (k n : Int) (s : ByteArray) (pa na ma : Option Addr) (pl pc nl nc ml mc : Nat) (w : World) : Calls Tryz.prog 9 #[nilA, .agg #[.int .i64 k, .int .i64 n, .string s, .slice pa pl pc, .slice na nl nc, .slice ma ml mc]] w fun e w' => e = .returned (.tuple #[.int .i64 0, .int .i64 1]) ∧ Up w w' := by
  go_enter Tryz.func9, Tryz.ntmps9
  go_wp2_with fail
  go_ret2
  exact ⟨rfl, uq⟩

theorem Union_nil (a : Option Addr) (n c : Nat) (w : World) : Calls Tryz.prog 14 #[nilA, .slice a n c] w fun e w' => e = .returned (.tuple #[.int .i64 0, .int .i64 1]) ∧ Up w w' := by
  go_enter Tryz.func14, Tryz.ntmps14
  go_wp2_with fail
  go_ret2
  exact ⟨rfl, uq⟩

theorem Subst_nil (id : Int) (a b : Option Addr) (n c m d : Nat) (w : World) : Calls Tryz.prog 11 #[nilA, .int .i64 id, .slice a n c, .slice b m d] w fun e w' => e = .returned (.tuple #[.int .i64 0, .int .i64 1]) ∧ Up w w' := by
  go_enter Tryz.func11, Tryz.ntmps11
  go_wp2_with fail
  go_ret2
  exact ⟨rfl, uq⟩

theorem Widen_nil (id : Int) (w : World) : Calls Tryz.prog 10 #[nilA, .int .i64 id] w fun e w' => e = .returned (.tuple #[.int .i64 0, .int .i64 1]) ∧ Up w w' := by
  go_enter Tryz.func10, Tryz.ntmps10
  go_wp2_with fail
  go_ret2
  exact ⟨rfl, uq⟩

theorem Widen_zero (A : Nat) (id : Int) (w : World) (h : ZeroA w A) : Calls Tryz.prog 10 #[.pointer (some ⟨A, 0, none⟩), .int .i64 id] w fun e w' => e = .returned (.tuple #[.int .i64 0, .int .i64 11]) ∧ Up w w' := by
  have H := Lib.hid h
  clear h
  go_enter Tryz.func10, Tryz.ntmps10
  go_wp2_with (first | (go_at_call 29; refine (has_zero A id _ (H.out.up uq)).mono ?_; rintro e w2 ⟨rfl, hu2⟩))
  go_ret2
  exact ⟨rfl, uq⟩

abbrev noType : Value := .agg #[.int .i64 0, .int .i64 0, .string ⟨#[]⟩, .slice none 0 0, .slice none 0 0, .slice none 0 0]
theorem At_nil (id : Int) (w : World) : Calls Tryz.prog 15 #[nilA, .int .i64 id] w fun e w' => e = .returned (.tuple #[noType, .int .i64 1]) ∧ Up w w' := by
  go_enter Tryz.func15, Tryz.ntmps15
  go_wp2_with fail
  refine wp_scope_straight ?_
  go_wp2_with fail
  rw [Exit.noGoto_ret]
  refine bodyPost_ret (v := .tuple #[noType, .int .i64 1]) (by simp [results, Tryz.results15, go_sem]) rfl ?_
  exact ⟨rfl, uq⟩

theorem At_zero (A : Nat) (id : Int) (w : World) (h : ZeroA w A) : Calls Tryz.prog 15 #[.pointer (some ⟨A, 0, none⟩), .int .i64 id] w fun e w' => e = .returned (.tuple #[noType, .int .i64 11]) ∧ Up w w' := by
  have H := Lib.hid h
  clear h
  go_enter Tryz.func15, Tryz.ntmps15
  go_wp2_with fail
  refine wp_scope_straight ?_
  go_wp2_with (first | (go_at_call 29; refine (has_zero A id _ (H.out.up uq)).mono ?_; rintro e w2 ⟨rfl, hu2⟩; have s0 := hu2.get (alloc_get w _); have q0 := cell_of s0 0; have p0 := ice_of s0 0; have q1 := cell_of s0 1; have p1 := ice_of s0 1; have q2 := cell_of s0 2; have p2 := ice_of s0 2; have q3 := cell_of s0 3; have p3 := ice_of s0 3; have q4 := cell_of s0 4; have p4 := ice_of s0 4; have q5 := cell_of s0 5; have p5 := ice_of s0 5; have q9 := lt_of_heap s0; (try simp only [World.size_alloc, List.getElem?_toArray, List.getElem?_cons_zero, List.getElem?_cons_succ] at q0 q1 q2 q3 q4 q5 p0 p1 p2 p3 p4 p5 q9); clear s0))
  rw [Exit.noGoto_ret]
  refine bodyPost_ret (v := .tuple #[noType, .int .i64 11]) (by simp [results, Tryz.results15, go_sem, *]) rfl ?_
  exact ⟨rfl, uq⟩

theorem Pieces_nil (id : Int) (w : World) : Calls Tryz.prog 16 #[nilA, .int .i64 id] w fun e w' => e = .returned (.tuple #[.slice none 0 0, .int .i64 1]) ∧ Up w w' := by
  go_enter Tryz.func16, Tryz.ntmps16
  go_wp2_with fail
  refine bodyPost_ret (v := .tuple #[.slice none 0 0, .int .i64 1]) (by simp [results, Tryz.results16, go_sem]) rfl ?_
  exact ⟨rfl, uq⟩

theorem Pieces_zero (A : Nat) (id : Int) (w : World) (h : ZeroA w A) : Calls Tryz.prog 16 #[.pointer (some ⟨A, 0, none⟩), .int .i64 id] w fun e w' => e = .returned (.tuple #[.slice none 0 0, .int .i64 11]) ∧ Up w w' := by
  have H := Lib.hid h
  clear h
  go_enter Tryz.func16, Tryz.ntmps16
  go_wp2_with (first | (go_at_call 29; refine (has_zero A id _ (H.out.up uq)).mono ?_; rintro e w2 ⟨rfl, hu2⟩))
  refine bodyPost_ret (v := .tuple #[.slice none 0 0, .int .i64 11]) (by simp [results, Tryz.results16, go_sem]) rfl ?_
  exact ⟨rfl, uq⟩

theorem Define_nil (node : Int) (a b : Option Addr) (n c m d : Nat) (w : World) : Calls Tryz.prog 17 #[nilA, .int .i64 node, .slice a n c, .slice b m d] w fun e w' => e = .returned (.int .i64 1) ∧ Up w w' := by
  go_enter Tryz.func17, Tryz.ntmps17
  go_wp2_with fail
  go_ret
  exact ⟨rfl, uq⟩

theorem Len_nil (w : World) : Calls Tryz.prog 18 #[nilA] w fun e w' => e = .returned (.int .i64 0) ∧ Up w w' := by
  go_enter Tryz.func18, Tryz.ntmps18
  go_wp2_with fail
  go_ret
  exact ⟨rfl, uq⟩

theorem Len_zero (A : Nat) (w : World) (h : ZeroA w A) : Calls Tryz.prog 18 #[.pointer (some ⟨A, 0, none⟩)] w fun e w' => e = .returned (.int .i64 0) ∧ Up w w' := by
  have a0 := cell_of h 0
  have al := lt_of_heap h
  simp only [List.getElem?_toArray, List.getElem?_cons_zero] at a0
  clear h
  go_enter Tryz.func18, Tryz.ntmps18
  go_wp2_with fail
  go_ret
  exact ⟨rfl, uq⟩

theorem Text_nil (id : Int) (w : World) : Calls Tryz.prog 19 #[nilA, .int .i64 id] w fun e w' => e = .returned (.string ⟨#[]⟩) ∧ Up w w' := by
  go_enter Tryz.func19, Tryz.ntmps19
  go_wp2_with (first | (go_at_call 29; refine (has_nil id _).mono ?_; rintro e w2 ⟨rfl, hu2⟩))
  go_ret
  exact ⟨rfl, uq⟩

theorem Text_zero (A : Nat) (id : Int) (w : World) (h : ZeroA w A) : Calls Tryz.prog 19 #[.pointer (some ⟨A, 0, none⟩), .int .i64 id] w fun e w' => e = .returned (.string ⟨#[]⟩) ∧ Up w w' := by
  have H := Lib.hid h
  clear h
  go_enter Tryz.func19, Tryz.ntmps19
  go_wp2_with (first | (go_at_call 29; refine (has_zero A id _ (H.out.up uq)).mono ?_; rintro e w2 ⟨rfl, hu2⟩))
  go_ret
  exact ⟨rfl, uq⟩

end Go.Proofs.YtbghpkoimbmijaaGreatDoor
