import Derived.Test.YtiaepldmgighbaaGreatDoorM41
import Derived.Test.YtiaepldmgighbaaGreatDoorM42
import Derived.Test.YtiaepldmgighbaaGreatDoorM36
namespace Go.Proofs.YtiaepldmgighbaaGreatDoor
open Go.RowKit
set_option linter.unusedSimpArgs false
set_option linter.unusedVariables false
def AssignQ (w0 : World) (A : Nat) (bs : List Nat) (ts : List Ty) (tv mv : Value) (x y : Ty) (e : Ending) (w' : World) : Prop :=
 ∃ (b : Bool) (er : Int), e = .returned (.tuple #[.bool b, .int .i64 er]) ∧ Sta w0 w' A bs ts tv mv ∧ ((er = 0 ∧ (b = true ↔ Sub x.canon y.canon)) ∨ (er = 9 ∧ b = false))
theorem assign_sta {w0 W : World} {A : Nat} {bs : List Nat} {ts : List Ty} {tv mv : Value} (h : Sta w0 W A bs ts tv mv) (hb : bs.length ≤ 1000000) {i j : Nat} {x y : Ty} (hi : ts[i]? = some x) (hj : ts[j]? = some y) :
   Calls Tryz.prog 16 #[.pointer (some ⟨A, 0, none⟩), .int .i64 i, .int .i64 j] W (AssignQ w0 A bs ts tv mv x y) :=
 (Assignable_over h.are hb hi hj).mono fun e w' ⟨b, er, he, hu, hq⟩ => ⟨b, er, he, h.later hu, hq.imp id fun q => ⟨q.1, q.2.1⟩⟩
theorem reach_self {ts : List Ty} {i : Nat} : (reachL (queOf ts) 2000 (i, i)).length ≤ 2000 := by
 unfold reachL
 have e : (queOf ts (i, i)).pairs = [] := by unfold queOf asksQ; rw [if_pos (.inl rfl)]; rfl
 rw [reachN]
 simp only [List.getElem?_cons_zero]
 rw [e, addP]
 rw [show (2000 + 1 : Nat) = 2000 + 1 from rfl, reachN]
 simp
theorem self_sta {w0 W : World} {A : Nat} {bs : List Nat} {ts : List Ty} {tv mv : Value} (h : Sta w0 W A bs ts tv mv) (hb : bs.length ≤ 1000000) {i : Nat} {x : Ty} (hi : ts[i]? = some x) :
   Calls Tryz.prog 16 #[.pointer (some ⟨A, 0, none⟩), .int .i64 i, .int .i64 i] W fun e w' => e = .returned (.tuple #[.bool true, .int .i64 0]) ∧ Sta w0 w' A bs ts tv mv :=
 (Assignable_over h.are hb hi hi).mono fun e w' ⟨b, er, he, hu, hq⟩ => by
   rcases hq with ⟨h0, hs⟩ | ⟨_, _, hl⟩
   · subst h0
     have hb : b = true := hs.2 (Sub.refl _)
     subst hb
     exact ⟨he, h.later hu⟩
   · have := reach_self (ts := ts) (i := i)
     omega
set_option maxRecDepth 100000 in
set_option maxHeartbeats 4000000 in
theorem may_arr (ia : Option Addr) (il ic : Nat) (pa : Option Addr) (pcap : Nat) (w : World) :
   Calls Tryz.prog 56 #[typV 13 0 ⟨#[]⟩ (.slice ia il ic) (.slice none 0 0) (.slice none 0 0), .slice pa 1 pcap] w fun e w' => e = .returned (.bool true) ∧ Up w w' := by
 have ht : ((⟨#[]⟩ : ByteArray).toList == []) = true := by decide +kernel
 go_enter Tryz.func56, Tryz.ntmps56
 go_wp2_with fail
 go_quiet (fail)
 go_wp2_with fail
 all_goals (try go_quiet (fail))
 all_goals (try go_wp2_with fail)
 all_goals go_ret
 all_goals refine ⟨?_, uq⟩
 all_goals rfl
end Go.Proofs.YtiaepldmgighbaaGreatDoor
