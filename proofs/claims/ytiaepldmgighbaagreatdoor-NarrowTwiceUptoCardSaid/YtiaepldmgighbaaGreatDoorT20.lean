import Derived.Test.YtiaepldmgighbaaGreatDoorT19
import Derived.Test.YtiaepldmgighbaaGreatDoorT16
namespace Go.Proofs.YtiaepldmgighbaaGreatDoor
open Go.RowKit
set_option linter.unusedSimpArgs false
structure Leaves (w : World) (A N : Nat) (kd : Nat → Int) : Prop where
 at_ : ∀ i,i < N → ∃ n nm,LeafIn w A i (kd i) n nm ∧ 1 ≤ kd i ∧ kd i ≤ 12
 few : N ≤ 1000000
theorem LeafIn.kept {w w' : World} {A i : Nat} {k n : Int} {nm : ByteArray} (h : LeafIn w A i k n nm) (u : KeepOwn (fun b => b < w.heap.size) w w') : LeafIn w' A i k n nm:=by
 obtain ⟨gr,N,tcap,b,mv,s,cs,h1,h2,h3,h4,h5⟩:=h
 exact ⟨gr,N,tcap,b,mv,s,cs,u.get (ja0 h1) h1,h2,u.get (ja0 h3) h3,h4,u.get (ja0 h5) h5⟩
def HeadIs (w : World) (A N : Nat) : Prop := ∃ ta tcap mv,w.heap[A]? = some (.cells #[.slice ta N tcap,mv, .map none] ArT (0,0))
end Go.Proofs.YtiaepldmgighbaaGreatDoor
