import Derived.Deep.RegionHeld3
import Derived.Test.YtiaepldmgighbaaGreatDoorM08
import Derived.Test.YtiaepldmgighbaaGreatDoorM05
namespace Go.Proofs.YtiaepldmgighbaaGreatDoor
open Go.RowKit
set_option linter.unusedSimpArgs false
abbrev AskT : TypeId := 92
abbrev reachedF : Nat := 86
abbrev QueT : TypeId := 97
theorem set5_at {W : World} {b : Nat} {c0 c1 c2 c3 c4 x0 x1 x2 x3 x4 : Value} {T : TypeId} {f : Nat × Nat} (h : W.heap[b]? = some (.cells #[c0, c1, c2, c3, c4] T f)) : (((((W.setCell ⟨b, 0, none⟩ x0).setCell ⟨b, 1, none⟩ x1).setCell ⟨b, 2, none⟩ x2).setCell ⟨b, 3, none⟩ x3).setCell ⟨b, 4, none⟩ x4).heap[b]? = some (.cells #[x0, x1, x2, x3, x4] T f) :=
 setCell_block (setCell_block (setCell_block (setCell_block (setCell_block h _) _) _) _) _
theorem set5_other {W : World} {b g : Nat} {x0 x1 x2 x3 x4 : Value} {o : Obj} (h : g ≠ b) (k : W.heap[g]? = some o) : (((((W.setCell ⟨b, 0, none⟩ x0).setCell ⟨b, 1, none⟩ x1).setCell ⟨b, 2, none⟩ x2).setCell ⟨b, 3, none⟩ x3).setCell ⟨b, 4, none⟩ x4).heap[g]? = some o := by
 rw [setCell_other h, setCell_other h, setCell_other h, setCell_other h, setCell_other h]
 exact k
abbrev queV (known yes all hard : Bool) (v : Value) : Value := .agg #[.bool known, .bool yes, .bool all, .bool hard, v]
theorem says_any (b : Bool) (w : World) : Calls Tryz.prog 131 #[.bool b] w fun e w' => e = .returned (queV true b false false (.slice none 0 0)) ∧ Up w w' := by
 go_enter Tryz.func131, Tryz.ntmps131
 go_wp2_with fail
 refine bodyPost_ret (v := queV true b false false (.slice none 0 0)) (by simp [results, Tryz.results131, go_sem, *]) rfl ?_
 exact ⟨rfl, uq⟩
theorem three {w w2 : World} {a b c : Obj} (h : Up (((w.alloc a).alloc b).alloc c) w2) : w2.heap[w.heap.size]? = some a ∧ w2.heap[w.heap.size + 1]? = some b ∧ w2.heap[w.heap.size + 1 + 1]? = some c :=
 ⟨h.get ((alloc_old _ _ _ (by simp <;> omega)).trans ((alloc_old _ _ _ (by simp <;> omega)).trans (alloc_get _ _))), h.get ((alloc_old _ _ _ (by simp <;> omega)).trans (alloc_at _ _ _ (by simp))), h.get (alloc_at _ _ _ (by simp))⟩
abbrev AtyT : TypeId := 46
def sl (b : Bool) (v : Value) : Value := if b = true then v else undef
theorem sl_true (v : Value) : sl true v = v := rfl
theorem sl_false (v : Value) : sl false v = undef := rfl
theorem six {x : Array Value} (h : x.size = 6) : ∃ x0 x1 x2 x3 x4 x5, x = #[x0, x1, x2, x3, x4, x5] := by
 obtain ⟨l⟩ := x
 match l, h with
 | [x0, x1, x2, x3, x4, x5], _ => exact ⟨x0, x1, x2, x3, x4, x5, rfl⟩
def set6 (W : World) (b : Nat) (x0 x1 x2 x3 x4 x5 : Value) : World := (((((W.setCell ⟨b, 0, none⟩ x0).setCell ⟨b, 1, none⟩ x1).setCell ⟨b, 2, none⟩ x2).setCell ⟨b, 3, none⟩ x3).setCell ⟨b, 4, none⟩ x4).setCell ⟨b, 5, none⟩ x5
theorem set6_at {W : World} {b : Nat} {c0 c1 c2 c3 c4 c5 x0 x1 x2 x3 x4 x5 : Value} {T : TypeId} {f : Nat × Nat} (h : W.heap[b]? = some (.cells #[c0, c1, c2, c3, c4, c5] T f)) : (set6 W b x0 x1 x2 x3 x4 x5).heap[b]? = some (.cells #[x0, x1, x2, x3, x4, x5] T f) :=
 setCell_block (setCell_block (setCell_block (setCell_block (setCell_block (setCell_block h _) _) _) _) _) _
theorem set6_other {W : World} {b g : Nat} {x0 x1 x2 x3 x4 x5 : Value} (h : g ≠ b) : (set6 W b x0 x1 x2 x3 x4 x5).heap[g]? = W.heap[g]? := by
 unfold set6
 rw [setCell_other h, setCell_other h, setCell_other h, setCell_other h, setCell_other h, setCell_other h]
theorem set6_up {w W : World} {b : Nat} {x0 x1 x2 x3 x4 x5 : Value} (h : Up w W) (hb : w.heap.size ≤ b) : Up w (set6 W b x0 x1 x2 x3 x4 x5) := (((((h.setCell hb _).setCell hb _).setCell hb _).setCell hb _).setCell hb _).setCell hb _
def askA (A i j Z : Nat) (v5 v6 v13 v14 v15 v16 v17 v18 v19 v20 : Value) : Act := { tmps := #[.agg #[.pointer (some ⟨A, 0, none⟩)], .agg #[.int .i64 i, .int .i64 j], .pointer (some ⟨Z, 0, none⟩), .pointer (some ⟨Z + 1, 0, none⟩), .pointer (some ⟨Z + 1 + 1, 0, none⟩), v5, v6, undef, undef, undef, undef, undef, undef, v13, v14, v15, v16, v17, v18, v19, v20, undef, undef, undef, undef, undef, undef, undef, undef, undef, undef, undef, undef, undef, undef, undef, undef, undef, undef, undef, undef, undef, undef, undef, undef, undef, undef, undef, undef, undef, undef, undef, undef, undef, undef, undef, undef, undef, undef, undef, undef, undef, undef, undef, undef, undef, undef, undef, undef, undef, undef, undef, undef, undef, undef, undef, undef, undef, undef, undef, undef, undef, undef, undef, undef, undef, undef, undef, undef, undef, undef, undef, undef, undef, undef, undef, undef, undef, undef, undef, undef, undef, undef, undef, undef, undef, undef, undef, undef, undef, undef, undef, undef, undef, undef, undef, undef, undef, undef, undef, undef, undef, undef, undef, undef, undef, undef, undef, undef, undef, undef, undef, undef, undef, undef, undef, undef, undef, undef, undef, undef, undef, undef, undef, undef, undef, undef, undef, undef, undef, undef, undef, undef, undef, undef, undef, undef], defers := [] }
structure AskI (A i j Z : Nat) (Px Py : Array Value → World → Prop) (w0 : World) (l : Array Bool) (a : Act) (w : World) : Prop where
 up : Up w0 w
 ex : ∃ (l0 l1 l2 l3 l4 l5 l6 l7 l8 l9 l10 l11 : Bool) (x y c d : Array Value) (b5 b6 : Nat), l = #[l0, l1, l2, l3, l4, l5, l6, l7, l8, l9, l10, l11] ∧
   a = askA A i j Z (sl l8 (.pointer (some ⟨b5, 0, none⟩))) (sl l9 (.pointer (some ⟨b6, 0, none⟩))) (sl l0 (.agg #[.pointer (some ⟨A, 0, none⟩)])) (sl l1 (.pointer (some ⟨Z + 1, 0, none⟩))) (sl l2 (.int .i64 i)) (sl l3 (.agg x)) (sl l4 (.agg #[.pointer (some ⟨A, 0, none⟩)])) (sl l5 (.pointer (some ⟨Z + 1, 1, none⟩))) (sl l6 (.int .i64 j)) (sl l7 (.agg y)) ∧
   (l3 = true → x.size = 6 ∧ Px x w) ∧ (l7 = true → y.size = 6 ∧ Py y w) ∧
   (l8 = true → w0.heap.size ≤ b5 ∧ w.heap[b5]? = some (.cells c AtyT (0, 0)) ∧ c.size = 6 ∧ (l10 = true → l3 = true ∧ c = x)) ∧
   (l9 = true → w0.heap.size ≤ b6 ∧ w.heap[b6]? = some (.cells d AtyT (0, 0)) ∧ d.size = 6 ∧ (l11 = true → l7 = true ∧ d = y)) ∧
   (l8 = true → l9 = true → b5 ≠ b6) ∧ (l10 = true → l8 = true) ∧ (l11 = true → l9 = true)
theorem reached_any (A i j most : Nat) (w : World) : Calls Tryz.prog 46 #[.agg #[.pointer (some ⟨A, 0, none⟩)], pairV i j, .int .i64 most] w fun e w' => ∃ fb mb kb, e = .returned (.func (.func reachedF) #[] #[.pointer (some ⟨fb, 0, none⟩), .pointer (some ⟨mb, 0, none⟩), .pointer (some ⟨kb, 0, none⟩)]) ∧
   w'.heap[fb]? = some (.cells #[.int .i64 i, .int .i64 j] PairT (0, 0)) ∧ w'.heap[mb]? = some (.cells #[.int .i64 most] IntT (0, 0)) ∧ w'.heap[kb]? = some (.cells #[.pointer (some ⟨A, 0, none⟩)] AskT (0, 0)) ∧ w.heap.size ≤ fb ∧ w.heap.size ≤ mb ∧ w.heap.size ≤ kb ∧ Up w w' := by
 go_enter Tryz.func46, Tryz.ntmps46
 go_wp2_with fail
 go_ret
 exact ⟨w.heap.size + 1, w.heap.size + 1 + 1, w.heap.size, rfl, (three (Up.refl _)).2.1, (three (Up.refl _)).2.2, (three (Up.refl _)).1, by omega, by omega, Nat.le_refl _, uq⟩
theorem four {w w2 : World} {a b c d : Obj} (h : Up ((((w.alloc a).alloc b).alloc c).alloc d) w2) : w2.heap[w.heap.size]? = some a ∧ w2.heap[w.heap.size + 1]? = some b ∧ w2.heap[w.heap.size + 1 + 1]? = some c ∧ w2.heap[w.heap.size + 1 + 1 + 1]? = some d :=
 ⟨h.get ((alloc_old _ _ _ (by simp <;> omega)).trans ((alloc_old _ _ _ (by simp <;> omega)).trans ((alloc_old _ _ _ (by simp <;> omega)).trans (alloc_get _ _)))), h.get ((alloc_old _ _ _ (by simp <;> omega)).trans ((alloc_old _ _ _ (by simp <;> omega)).trans (alloc_at _ _ _ (by simp)))), h.get ((alloc_old _ _ _ (by simp <;> omega)).trans (alloc_at _ _ _ (by simp))), h.get (alloc_at _ _ _ (by simp))⟩
end Go.Proofs.YtiaepldmgighbaaGreatDoor
