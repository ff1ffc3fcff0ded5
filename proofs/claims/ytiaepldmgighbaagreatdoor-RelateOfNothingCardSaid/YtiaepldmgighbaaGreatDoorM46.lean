import Derived.Test.YtiaepldmgighbaaGreatDoorM44
import Derived.Test.YtiaepldmgighbaaGreatDoorM45
namespace Go.Proofs.YtiaepldmgighbaaGreatDoor
open Go.RowKit
set_option linter.unusedSimpArgs false
def leafQ (kd : Nat → Int) (p : Pr) : Que := ⟨true, ansK (decide (p.1 = p.2)) (kd p.1) (kd p.2), false, false, []⟩
theorem reach_leaf (kd : Nat → Int) (most : Nat) (p : Pr) : reachL (leafQ kd) most p = [p] := by
 unfold reachL
 rw [show most + 2 = most + 1 + 1 from rfl, reachN]
 simp only [List.getElem?_cons_zero, leafQ, addP]
 rw [reachN]
 simp
theorem gfp_leaf (kd : Nat → Int) (p : Pr) : Gfp (leafQ kd) p ↔ ansK (decide (p.1 = p.2)) (kd p.1) (kd p.2) = true := by
 constructor
 · rintro ⟨S, h1, h2⟩
   have q := h1 p h2
   simpa [HoldsS, leafQ] using q
 · intro h
   exact ⟨fun q => q = p, fun q hq => by subst hq; simpa [HoldsS, leafQ] using h, rfl⟩
structure Leaves (w : World) (A N : Nat) (kd : Nat → Int) : Prop where
 at_ : ∀ i, i < N → ∃ n nm, LeafIn w A i (kd i) n nm ∧ 1 ≤ kd i ∧ kd i ≤ 12
 few : N ≤ 1000000
theorem LeafIn.kept {w w' : World} {A i : Nat} {k n : Int} {nm : ByteArray} (h : LeafIn w A i k n nm) (u : KeepOwn (fun b => b < w.heap.size) w w') : LeafIn w' A i k n nm := by
 obtain ⟨gr, N, tcap, b, mv, s, cs, h1, h2, h3, h4, h5⟩ := h
 exact ⟨gr, N, tcap, b, mv, s, cs, u.get (lt_of_heap h1) h1, h2, u.get (lt_of_heap h3) h3, h4, u.get (lt_of_heap h5) h5⟩
theorem leaves_ask {w : World} {A N : Nat} {kd : Nat → Int} (h : Leaves w A N kd) : AsksAny A (leafQ kd) (fun p => p.1 < N ∧ p.2 < N) (fun b => b < w.heap.size) w := by
 refine ⟨fun p _ q hq => (by simp [leafQ] at hq), fun p hp W hW => ?_⟩
 obtain ⟨n1, m1, l1, a1, a2⟩ := h.at_ p.1 hp.1
 obtain ⟨n2, m2, l2, b1, b2⟩ := h.at_ p.2 hp.2
 refine (asks_leaf A p.1 p.2 (kd p.1) n1 (kd p.2) n2 m1 m2 W (l1.kept hW) (l2.kept hW) ⟨a1, a2⟩ ⟨b1, b2⟩).mono ?_
 rintro e W' ⟨rfl, hu⟩
 exact ⟨.slice none 0 0, rfl, PairsAt.nil _ _, hu⟩
def HeadIs (w : World) (A N : Nat) : Prop := ∃ ta tcap mv, w.heap[A]? = some (.cells #[.slice ta N tcap, mv, .map none] ArT (0, 0))
theorem Len_head (A N : Nat) (w : World) (h : HeadIs w A N) : Calls Tryz.prog 45 #[.pointer (some ⟨A, 0, none⟩)] w fun e w' => e = .returned (.int .i64 N) ∧ Up w w' := by
 obtain ⟨ta, tcap, mv, hA⟩ := h
 have a0 := cell_of hA 0
 have a4 := lt_of_heap hA
 simp only [List.getElem?_toArray, List.getElem?_cons_zero, List.getElem?_cons_succ] at a0
 clear hA
 go_enter Tryz.func45, Tryz.ntmps45
 go_wp2_with fail
 go_ret
 exact ⟨rfl, uq⟩
theorem head_len {w : World} {A N : Nat} (h : HeadIs w A N) (hN : N ≤ 1000000) : LenAny A N (fun b => b < w.heap.size) w := ⟨hN, fun W hW => Len_head A N W (let ⟨ta, tcap, mv, hA⟩ := h; ⟨ta, tcap, mv, hW.get (lt_of_heap hA) hA⟩)⟩
theorem Assignable_leaf (A N x y : Nat) (kd : Nat → Int) (w : World) (h : Leaves w A N kd) (hh : HeadIs w A N) (hx : x < N) (hy : y < N) :
   Calls Tryz.prog 16 #[.pointer (some ⟨A, 0, none⟩), .int .i64 x, .int .i64 y] w fun e w' => e = .returned (.tuple #[.bool (ansK (decide (x = y)) (kd x) (kd y)), .int .i64 0]) ∧ Up w w' := by
 refine (Assignable_any A N x y (leafQ kd) _ w (leaves_ask h) (head_len hh h.few) ⟨hx, hy⟩ hx hy).mono ?_
 rintro e w' ⟨b, er, rfl, hu, h⟩
 rcases h with ⟨rfl, _, _, h⟩ | ⟨_, _, h⟩
 · rw [gfp_leaf] at h
   have e : b = ansK (decide (x = y)) (kd x) (kd y) := by
     cases b <;> cases hq : ansK (decide (x = y)) (kd x) (kd y) <;> simp_all
   subst e
   exact ⟨rfl, hu⟩
 · rw [reach_leaf] at h
   rcases h with h | ⟨q, h1, h2⟩
   · simp at h
   · simp [leafQ] at h2
theorem Pairs_leaf (A N x y most : Nat) (kd : Nat → Int) (w : World) (h : Leaves w A N kd) (hh : HeadIs w A N) (hx : x < N) (hy : y < N) (hm : 1 ≤ most) (hmo : most ≤ 1000000) :
   Calls Tryz.prog 35 #[.pointer (some ⟨A, 0, none⟩), .int .i64 x, .int .i64 y, .int .i64 most] w fun e w' => e = .returned (.int .i64 1) ∧ Up w w' := by
 refine (Pairs_any A N x y most (leafQ kd) _ w (leaves_ask h) (head_len hh h.few) ⟨hx, hy⟩ hx hy hmo).mono ?_
 rintro e w' ⟨rfl, hu⟩
 rw [reach_leaf]
 have : min ([(x, y)] : List Pr).length most = 1 := by simp; omega
 rw [this]
 exact ⟨rfl, hu⟩
end Go.Proofs.YtiaepldmgighbaaGreatDoor
