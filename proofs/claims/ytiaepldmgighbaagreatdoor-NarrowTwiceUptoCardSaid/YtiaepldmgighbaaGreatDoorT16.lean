import Derived.Deep.RegionHeld3
import Derived.Test.YtiaepldmgighbaaGreatDoorT03
import Derived.Test.YtiaepldmgighbaaGreatDoorT12
import Derived.Test.YtiaepldmgighbaaGreatDoorT09
import Derived.Test.YtiaepldmgighbaaGreatDoorT05
namespace Go.Proofs.YtiaepldmgighbaaGreatDoor
open Go.RowKit
set_option linter.unusedSimpArgs false
abbrev jo4 (k n : Int) (nm s : ByteArray) : Array Value := #[.int .i64 k, .int .i64 n, .string nm, .slice none 0 0, .slice none 0 0, .slice none 0 0, .int .i64 1, .string s]
def LeafIn (w : World) (A i : Nat) (k n : Int) (nm : ByteArray) : Prop :=
 ∃ (gr N tcap b : Nat) (mv : Value) (s : ByteArray) (cs : Array Value),w.heap[A]? = some (.cells #[.slice (some ⟨gr,0,none⟩) N tcap,mv, .map none] ArT (0,0)) ∧ i < N ∧ w.heap[gr]? = some (.cells cs TpT (0,0)) ∧ cs[i]? = some (ptrV b) ∧ w.heap[b]? = some (.cells (jo4 k n nm s) TyT (0,0))
theorem LeafIn.up {w w' : World} {A i : Nat} {k n : Int} {nm : ByteArray} (h : LeafIn w A i k n nm) (u : Up w w') : LeafIn w' A i k n nm:=by
 obtain ⟨gr,N,tcap,b,mv,s,cs,h1,h2,h3,h4,h5⟩:=h
 exact ⟨gr,N,tcap,b,mv,s,cs,u.get h1,h2,u.get h3,h4,u.get h5⟩
end Go.Proofs.YtiaepldmgighbaaGreatDoor
