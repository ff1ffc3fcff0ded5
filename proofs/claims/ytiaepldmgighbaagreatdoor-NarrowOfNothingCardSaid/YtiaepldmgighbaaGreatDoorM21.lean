import Derived.Laws.Cover4
import Derived.Test.YtiaepldmgighbaaGreatDoorM20
namespace Go.Proofs.YtiaepldmgighbaaGreatDoor
open Go.RowKit
set_option linter.unusedSimpArgs false
theorem hexS_size (u : Nat) : (hexS u).size ≤ 2 := by
 have key : ∀ u, u < 32 → (hexS u).size ≤ 2 := by decide
 by_cases h : u < 32
 · exact key u h
 · by_cases h2 : u = 127
   · subst h2; decide
   · unfold hexS
     iterate 32 rw [if_neg (by omega)]
     rw [if_neg h2]
     decide
attribute [local irreducible] hexS
theorem quoteR_size (r : Nat) : (quoteR r).size ≤ 6 := by
 have h1 := encode_size_le (r : Int)
 have h2 := hexS_size r
 have a1 : (⟨#[92]⟩ : ByteArray).size = 1 := rfl
 have a2 : (⟨#[92, 117, 123]⟩ : ByteArray).size = 3 := rfl
 have a3 : (⟨#[125]⟩ : ByteArray).size = 1 := rfl
 unfold quoteR
 repeat' split
 all_goals first | (rw [ByteArray.size_append, ByteArray.size_append]; omega) | (rw [ByteArray.size_append]; omega) | omega | decide
theorem decS_big : ∀ l : List UInt8, (decS l).1 ≤ 1114111
 | [] => by simp [decS]
 | x :: r => by
   unfold decS
   dsimp only
   split
   · decide
   · split
     · decide
     · rename_i v _
       split
       · decide
       · rename_i h; omega
end Go.Proofs.YtiaepldmgighbaaGreatDoor
