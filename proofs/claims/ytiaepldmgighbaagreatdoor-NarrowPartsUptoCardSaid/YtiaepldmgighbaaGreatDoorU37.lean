import Derived.Deep.RegionHeld3
import Derived.Test.YtiaepldmgighbaaGreatDoorU03
import Derived.Test.YtiaepldmgighbaaGreatDoorU12
import Derived.Test.YtiaepldmgighbaaGreatDoorU09
import Derived.Test.YtiaepldmgighbaaGreatDoorU05
import Derived.Test.YtiaepldmgighbaaGreatDoorU19
import Derived.Test.YtiaepldmgighbaaGreatDoorU28
namespace Go.Proofs.YtiaepldmgighbaaGreatDoor
open Go.RowKit
set_option linter.unusedSimpArgs false
abbrev jo4 (k n : Int) (nm s : ByteArray) : Array Value := #[.int .i64 k, .int .i64 n, .string nm, .slice none 0 0, .slice none 0 0, .slice none 0 0, .int .i64 1, .string s]
def LeafIn (w : World) (A i : Nat) (k n : Int) (nm : ByteArray) : Prop :=
 ∃ (gr N tcap b : Nat) (mv : Value) (s : ByteArray) (cs : Array Value),w.heap[A]? = some (.cells #[.slice (some ⟨gr,0,none⟩) N tcap,mv, .map none] ArT (0,0)) ∧ i < N ∧ w.heap[gr]? = some (.cells cs TpT (0,0)) ∧ cs[i]? = some (ptrV b) ∧ w.heap[b]? = some (.cells (jo4 k n nm s) TyT (0,0))
theorem LeafIn.up {w w' : World} {A i : Nat} {k n : Int} {nm : ByteArray} (h : LeafIn w A i k n nm) (u : Up w w') : LeafIn w' A i k n nm:=by
 obtain ⟨gr,N,tcap,b,mv,s,cs,h1,h2,h3,h4,h5⟩:=h
 exact ⟨gr,N,tcap,b,mv,s,cs,u.get h1,h2,u.get h3,h4,u.get h5⟩
end Go.Proofs.YtiaepldmgighbaaGreatDoor
namespace Go.Proofs.YtiaepldmgighbaaGreatDoor
open Go.RowKit
set_option linter.unusedSimpArgs false
structure Leaves (w : World) (A N : Nat) (kd : Nat → Int) : Prop where
 at_ : ∀ i,i < N → ∃ n nm,LeafIn w A i (kd i) n nm ∧ 1 ≤ kd i ∧ kd i ≤ 12
 few : N ≤ 1000000
theorem LeafIn.kept {w w' : World} {A i : Nat} {k n : Int} {nm : ByteArray} (h : LeafIn w A i k n nm) (u : KeepOwn (fun b => b < w.heap.size) w w') : LeafIn w' A i k n nm:=by
 obtain ⟨gr,N,tcap,b,mv,s,cs,h1,h2,h3,h4,h5⟩:=h
 exact ⟨gr,N,tcap,b,mv,s,cs,u.get (ja0 h1) h1,h2,u.get (ja0 h3) h3,h4,u.get (ja0 h5) h5⟩
def HeadIs (w : World) (A N : Nat) : Prop := ∃ ta tcap mv,w.heap[A]? = some (.cells #[.slice ta N tcap,mv, .map none] ArT (0,0))
end Go.Proofs.YtiaepldmgighbaaGreatDoor
namespace Go.Proofs.YtiaepldmgighbaaGreatDoor
open Go.RowKit
set_option linter.unusedSimpArgs false
theorem Leaves.up {w w' : World} {A N : Nat} {kd : Nat → Int} (h : Leaves w A N kd) (u : Up w w') : Leaves w' A N kd:=⟨fun i hi => let ⟨n,nm,h1,h2⟩:=h.at_ i hi; ⟨n,nm,h1.up u,h2⟩,h.few⟩
theorem HeadIs.up {w w' : World} {A N : Nat} (h : HeadIs w A N) (u : Up w w') : HeadIs w' A N:=let ⟨ta,tcap,mv,hA⟩:=h; ⟨ta,tcap,mv,u.get hA⟩
end Go.Proofs.YtiaepldmgighbaaGreatDoor
