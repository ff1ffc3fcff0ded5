import Derived.Orders
import Derived.Test.YtiaepldmgighbaaGreatDoorU03
namespace Go.Proofs.YtiaepldmgighbaaGreatDoor
open Go.RowKit
structure RUp (w : World) where
 W : World
 up : Up w W
instance (w : World) : Nonempty (RUp w):=⟨⟨w,Up.refl w⟩⟩
theorem jdd {P : Program} {id : Nat} {Q : Exit → Act → World → Prop} {a : Act} {w : World} {l : List Oper} (hm : P.follows .mixedOrders = true) (hB : Region.lexB .any l.toArray = true)
  (h : wpQuiet P l.toArray (fun w' => ∃ i : RUp w,w' = i.W) (fun a' => ∀ w',(∃ i : RUp w,w' = i.W) → Q .normal a' w') l a) : (Code.region id l.toArray true).wp P Q a w :=
 wp_region_quiet (C:=fun w' => ∃ i : RUp w,w' = i.W) hm hB ⟨⟨_,(Up.refl w).drew⟩,rfl⟩ (by simpa using h)
theorem Calls.rup_of {P : Program} {f : FuncId} {args : Array Value} {w : World} (i : RUp w) {v : Value} (h : Calls P f args i.W fun e w' => e = .returned v ∧ Up i.W w') : Calls P f args i.W fun e w'' => e = .returned v ∧ ∃ j : RUp w,w'' = j.W :=
 h.mono fun _ w' ⟨he,hu⟩ => ⟨he,⟨w',i.up.trans hu⟩,rfl⟩
end Go.Proofs.YtiaepldmgighbaaGreatDoor
