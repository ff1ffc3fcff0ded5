import Derived.Laws.Cover4
import Derived.Test.YtiaepldmgighbaaGreatDoorU23
namespace Go.Proofs.YtiaepldmgighbaaGreatDoor
open Go.RowKit
set_option linter.unusedSimpArgs false
theorem jf4 (u : Nat) : (hexS u).size ≤ 2:=by
 have key : ∀ u,u < 32 → (hexS u).size ≤ 2:=by decide
 by_cases h : u < 32
 ·exact key u h
 ·by_cases h2 : u = 127
  ·subst h2;decide
  ·unfold hexS
   iterate 32 rw [if_neg (by omega)]
   rw [if_neg h2]
   decide
attribute [local irreducible] hexS
theorem jeI (r : Nat) : (jac r).size ≤ 6:=by
 have h1:=encode_size_le (r : Int)
 have h2:=jf4 r
 have a1 : (⟨#[92]⟩ : ByteArray).size = 1:=rfl
 have a2 : (⟨#[92,117,123]⟩ : ByteArray).size = 3:=rfl
 have a3 : (⟨#[125]⟩ : ByteArray).size = 1:=rfl
 unfold jac
 repeat' split
 all_goals first | (rw [ByteArray.size_append,ByteArray.size_append];omega) | (rw [ByteArray.size_append];omega) | omega | decide
theorem jja : ∀ l : List UInt8,(decS l).1 ≤ 1114111
 | [] => by simp [decS]
 | x :: r => by
   unfold decS
   dsimp only
   split
   ·decide
   ·split
    ·decide
    ·rename_i v _
     split
     ·decide
     ·rename_i h;omega
theorem jkM (l : List UInt8) (j : Nat) (x : Nat × Nat) (h : (jaz l)[j]? = some x) : x.2 ≤ 1114111:=by
 have key : ∀ (f o : Nat) (l : List UInt8) (y : Nat × Nat),y ∈ jbw f o l → y.2 ≤ 1114111:=by
  intro f
  induction f with
  | zero => intro o l y hy;simp [jbw] at hy
  | succ f ih =>
    intro o l y hy
    cases l with
    | nil => simp [jbw] at hy
    | cons a r =>
      rw [jbw] at hy
      rcases List.mem_cons.1 hy with rfl | hy
      ·exact jja _
      ·exact ih _ _ _ hy
 exact key _ _ _ _ (List.mem_of_getElem? h)
end Go.Proofs.YtiaepldmgighbaaGreatDoor
