import Derived.Deep.RegionHeld3
import Derived.Test.YtiaepldmgighbaaGreatDoorU08
import Derived.Test.YtiaepldmgighbaaGreatDoorU05
namespace Go.Proofs.YtiaepldmgighbaaGreatDoor
open Go.RowKit
set_option linter.unusedSimpArgs false
abbrev QueT : TypeId:=97
abbrev AtyT : TypeId:=46
theorem six {x : Array Value} (h : x.size = 6) : ∃ x0 x1 x2 x3 x4 x5,x = #[x0,x1,x2,x3,x4,x5]:=by
 obtain ⟨l⟩:=x
 match l,h with
 | [x0,x1,x2,x3,x4,x5],_ => exact ⟨x0,x1,x2,x3,x4,x5,rfl⟩
def set6 (W : World) (b : Nat) (x0 x1 x2 x3 x4 x5 : Value) : World:=(((((W.setCell ⟨b,0,none⟩ x0).setCell ⟨b,1,none⟩ x1).setCell ⟨b,2,none⟩ x2).setCell ⟨b,3,none⟩ x3).setCell ⟨b,4,none⟩ x4).setCell ⟨b,5,none⟩ x5
end Go.Proofs.YtiaepldmgighbaaGreatDoor
