import Derived.Test.YtiaepldmgighbaaGreatDoorCards
import Derived.Test.YtiaepldmgighbaaGreatDoorTie
import Derived.WalkKit
import Derived.ProofKit
import Derived.OpenShut
import Derived.ShutString
import Derived.ChangeOld
import Derived.Below
import Derived.SliceStrings
import Derived.Deep.DeepHandedRow
import Derived.Lib.LaidTab
import Derived.LaidSub
import Derived.SizedLaws
import Derived.Test.YtiaepldmgighbaaGreatDoorU03
namespace Go.Proofs.YtiaepldmgighbaaGreatDoor
open Go.ChangeShapes Go.WideShapes Go.ChangeAt Go.RowKit
set_option maxRecDepth 100000
theorem jmo : ownKnob Tryz.prog.godebug = none:=by kernel_rfl
theorem jiU : laidOutB Tryz.prog = true:=by kernel_rfl
def jmR {H : Type} : DataW H → Array Value
 | .agg l => (l.map fun d => match d with | .lit (.int k n) => Value.int k n | _ => .nilIface).toArray
 | _ => #[]
def jl9 (d : DataW Unit) : Obj → Obj
 | .cells _ t frozen => .cells (jmR d) t frozen
 | o => o
noncomputable def jeX (os : Os) : World :=
 { World.holding Tryz.prog os ⟨#[],#[],[]⟩ with heap:=(((World.holding Tryz.prog os ⟨#[],#[],[]⟩).heap.modify 1 (jl9 Rows.laid_internal_strconv_uint64pow10)).modify 2 (jl9 Rows.laid_math_bits_deBruijn32tab)).modify 3 (jl9 Rows.laid_math_bits_deBruijn64tab) }
def IsRow (k : IntKind) (w : World) (a : Option Addr) (len cap : Nat) (zs : List Int) : Prop :=
 (a = none ∧ len = 0 ∧ cap = 0 ∧ zs = []) ∨
 ∃ x,a = some x ∧ len ≤ cap ∧ cap ≤ maxLen ∧ zs.length = cap ∧ (∀ i,i < zs.length → w.cell? (x.add i) = some (.int k (zs.getD i 0))) ∧ ∀ n ∈ zs,(Lit.int k n).wf = true
theorem IsRow.cells {k : IntKind} {w : World} {a : Option Addr} {len cap : Nat} {zs : List Int} (h : IsRow k w a len cap zs) : len ≤ 9223372036854775807 ∧ ∀ i,i < len → ∃ b off,a = some ⟨b,off,none⟩ ∧ w.cell? ⟨b,off + i,none⟩ = some (.int k (zs.getD i 0)):=by
 rcases h with ⟨rfl,rfl,rfl,rfl⟩ | ⟨x,rfl,h1,h2,h3,h4,_⟩
 ·exact ⟨by omega,fun i hi => by omega⟩
 ·refine ⟨by unfold maxLen at h2;omega,fun i hi => ?_⟩
  obtain ⟨b,off,rfl,hc⟩:=ints_at h4 (by omega)
  exact ⟨b,off,rfl,hc i (by omega)⟩
def IsTexts (w : World) (a : Option Addr) (len cap : Nat) (ss : List ByteArray) : Prop :=
 (a = none ∧ len = 0 ∧ cap = 0 ∧ ss = []) ∨
 ∃ x,a = some x ∧ len ≤ cap ∧ cap ≤ maxLen ∧ ss.length = cap ∧ (∀ i,i < ss.length → w.cell? (x.add i) = some (.string (ss.getD i ByteArray.empty))) ∧ ∀ s ∈ ss,s.size ≤ maxLen
theorem IsTexts.cells {w : World} {a : Option Addr} {len cap : Nat} {ss : List ByteArray} (h : IsTexts w a len cap ss) : len ≤ 9223372036854775807 ∧ ∀ i,i < len → ∃ b off,a = some ⟨b,off,none⟩ ∧ w.cell? ⟨b,off + i,none⟩ = some (.string (ss.getD i ByteArray.empty)) ∧ (ss.getD i ByteArray.empty).size ≤ 9223372036854775807:=by
 rcases h with ⟨rfl,rfl,rfl,rfl⟩ | ⟨x,rfl,h1,h2,h3,h4,h5⟩
 ·exact ⟨by omega,fun i hi => by omega⟩
 ·refine ⟨by unfold maxLen at h2;omega,fun i hi => ?_⟩
  obtain ⟨b,off,spot⟩:=x
  have hspot : spot = none:=by simpa [Addr.add] using World.cell?_spot (h4 0 (by omega))
  subst hspot
  refine ⟨b,off,rfl,by rw [← Go.WideShapes.add_plain];exact h4 i (by omega),?_⟩
  have hm : ss.getD i ByteArray.empty ∈ ss:=by
   rw [List.getD,List.getElem?_eq_getElem (by omega)]
   exact List.getElem_mem (by omega)
  have:=h5 _ hm
  unfold maxLen at this
  omega
end Go.Proofs.YtiaepldmgighbaaGreatDoor
namespace Go.Proofs.YtiaepldmgighbaaGreatDoor
open Go.ChangeShapes Go.WideShapes Go.ChangeAt Go.RowKit
set_option linter.unusedVariables false
set_option maxRecDepth 100000
theorem jnr : Tryz.prog.cellsOf 3 = 1:=by kernel_rfl
theorem jnq : Tryz.prog.cellsOf 9 = 1:=by kernel_rfl
theorem cellsB : Tryz.prog.cellsOf 4 = 1:=by kernel_rfl
section
variable {H : Type} {enc : TypeId × Value → H}
end
end Go.Proofs.YtiaepldmgighbaaGreatDoor
