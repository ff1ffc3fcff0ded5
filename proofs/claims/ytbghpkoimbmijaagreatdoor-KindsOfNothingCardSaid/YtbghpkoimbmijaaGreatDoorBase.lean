import Derived.Test.YtbghpkoimbmijaaGreatDoorRows
import Derived.WalkKit
import Derived.WalkSpells
import Derived.WalkLawsBesides
import Derived.BigQuiet
import Derived.Deep.QuietTactic
import Derived.Lib.Hide
/- Small words for the walks: a world that only grew, and what it keeps. -/
namespace Go.Proofs.YtbghpkoimbmijaaGreatDoor
open Go.RowKit

/-- w is a with new blocks and draws: all that lay in a lies as it lay. -/
def Up (a w : World) : Prop := Below a.heap.size a w

theorem Up.refl (a : World) : Up a a := Below.refl _ _
theorem Up.trans {a b c : World} (h : Up a b) (k : Up b c) : Up a c := Below.trans h (Below.mono k h.size)
theorem Up.alloc {a w : World} (h : Up a w) (o : Obj) : Up a (w.alloc o) := Below.alloc h h.size o
theorem Up.drew {a w : World} (h : Up a w) : Up a w.drew := Below.drew h
theorem Up.drewN {a w : World} (h : Up a w) (n : Nat) : Up a (w.drewN n) := ⟨h.os, h.tape, h.output, h.size, h.block⟩
theorem Up.setCell {a w : World} (h : Up a w) {p : Addr} (hp : a.heap.size ≤ p.block) (u : Value) : Up a (w.setCell p u) := Below.setCell h hp u
theorem Up.size {a w : World} (h : Up a w) : a.heap.size ≤ w.heap.size := Below.size h
theorem Up.cells {a w : World} (h : Up a w) : ∀ b o, b < a.heap.size → w.cell? ⟨b, o, none⟩ = a.cell? ⟨b, o, none⟩ := fun b o hb => Below.cell (p := ⟨b, o, none⟩) h hb
theorem Up.ice {a w : World} (h : Up a w) : ∀ b o, b < a.heap.size → w.frozen? ⟨b, o, none⟩ = a.frozen? ⟨b, o, none⟩ := fun b o hb => Below.frozen (p := ⟨b, o, none⟩) h hb
theorem Up.block {a w : World} (h : Up a w) : ∀ b, b < a.heap.size → w.heap[b]? = a.heap[b]? := fun b hb => Below.block h b hb

/-- w grew: found by what lies at hand -/
theorem uq {a w : World} (h : Up a w := by repeat (first | with_reducible exact Up.refl _ | with_reducible assumption | with_reducible refine Up.drewN ?_ _ | with_reducible refine Up.drew ?_ | with_reducible refine Up.alloc ?_ _ | with_reducible refine Up.setCell ?_ (by first | omega | (simp; done) | (simp; omega)) _ | with_reducible refine Up.trans ?_ (by assumption))) : Up a w := h

theorem alloc_get (w : World) (o : Obj) : (w.alloc o).heap[w.heap.size]? = some o := by
  show (w.heap.push o)[w.heap.size]? = _
  simp
theorem alloc_old (w : World) (o : Obj) (b : Nat) (h : b < w.heap.size) : (w.alloc o).heap[b]? = w.heap[b]? := Below.heap_alloc w o b h

theorem bodyPost_eq {P : Program} {fn : Func} {R : Ending → World → Prop} {a : Act} {w : World} {v v' : Value} (hr : (results fn a.tmps).run P w = .ok v w) (hd : a.defers = []) (he : v = v') (h : R (.returned v') w) :
    bodyPost P fn R .ret a w := bodyPost_ret (v := v') (by rw [hr, he]) hd h

theorem cell_one_at (w : World) (v : Value) (t : TypeId) (b : Nat) (h : b = w.heap.size) : ∀ (j : Nat) (u : Value), [v][j]? = some u → (w.alloc (.cells #[v] t)).cell? ((⟨b, 0, none⟩ : Addr).add j) = some u := by
  subst h; exact cell_one_new _ _ _

theorem ret_v {a b : Value} (h : a = b) : Ending.returned a = Ending.returned b := by rw [h]

end Go.Proofs.YtbghpkoimbmijaaGreatDoor
