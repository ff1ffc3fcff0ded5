import Derived.Test.YtiaepldmgighbaaGreatDoorM26
namespace Go.Proofs.YtiaepldmgighbaaGreatDoor
open Go.RowKit
set_option linter.unusedSimpArgs false
set_option linter.unusedVariables false
abbrev aS : ByteArray := ⟨#[97]⟩
abbrev bS : ByteArray := ⟨#[98]⟩
abbrev twoT (p n : Ty) : Ty := .mk 14 0 ⟨#[]⟩ [p, n] [aS, bS] [false, false]
abbrev oneT (q : Ty) (m : Bool) : Ty := .mk 14 0 ⟨#[]⟩ [q] [aS] [m]
abbrev noneT : Ty := .mk 14 0 ⟨#[]⟩ [] [] []
theorem sub_objects {x y : Ty} (hx : x.kind = 14) (hy : y.kind = 14) (e : x ≠ y) : Sub x y ↔ AskO Sub x y := by
 rw [sub_iff, ask_rest e (by omega) (by omega) (by omega)]
 constructor
 · rintro (h | ⟨h, _⟩ | ⟨h, _⟩ | ⟨h, _⟩ | ⟨_, _, h⟩)
   · unfold smallP at h; omega
   · omega
   · omega
   · omega
   · exact h
 · exact fun h => .inr (.inr (.inr (.inr ⟨hx, hy, h⟩)))
theorem sub_two (p n q : Ty) (m : Bool) : Sub (twoT p n) (oneT q m) ↔ Sub p q := by
 rw [sub_objects rfl rfl (fun e => by injection e with _ _ _ e _ _; injection e with _ e; cases e)]
 constructor
 · intro h
   exact ((h 0 aS m q rfl rfl rfl).2 0 false p rfl rfl rfl).2
 · intro h j nm m' p' h1 h2 h3
   match j, h1, h2, h3 with
   | 0, h1, h2, h3 =>
     have h1 : some aS = some nm := h1
     have h2 : some m = some m' := h2
     have h3 : some q = some p' := h3
     cases h1
     cases h2
     cases h3
     refine ⟨fun hn => absurd (List.mem_cons_self) hn, fun i m2 p2 g1 g2 g3 => ?_⟩
     match i, g1, g2, g3 with
     | 0, g1, g2, g3 =>
       have g2 : some false = some m2 := g2
       have g3 : some p = some p2 := g3
       cases g2
       cases g3
       exact ⟨(fun e => by cases e), h⟩
     | 1, g1, g2, g3 =>
       have g1 : some bS = some aS := g1
       injection g1 with g1
       exact absurd g1 (by decide)
     | i + 2, g1, _, _ => simp [Ty.names] at g1
   | j + 1, h1, _, _ => simp [Ty.names] at h1
theorem sub_lack (q : Ty) (m : Bool) : Sub noneT (oneT q m) ↔ m = true := by
 rw [sub_objects rfl rfl (fun e => by injection e with _ _ _ e _ _; cases e)]
 constructor
 · exact fun h => (h 0 aS m q rfl rfl rfl).1 (fun hn => by cases hn)
 · intro h j nm m' p' h1 h2 h3
   match j, h1, h2, h3 with
   | 0, h1, h2, h3 =>
     have h2 : some m = some m' := h2
     cases h2
     exact ⟨fun _ => h, fun i m2 p2 g1 _ _ => by simp [Ty.names] at g1⟩
   | j + 1, h1, _, _ => simp [Ty.names] at h1
theorem sub_empty (q : Ty) (m : Bool) : Sub (oneT q m) noneT := by
 rw [sub_objects rfl rfl (fun e => by injection e with _ _ _ e _ _; cases e)]
 intro j nm m' p' h1 _ _
 simp [Ty.names] at h1
end Go.Proofs.YtiaepldmgighbaaGreatDoor
