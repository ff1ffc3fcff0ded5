import Derived.Test.YtiaepldmgighbaaGreatDoorU15
import Derived.Test.YtiaepldmgighbaaGreatDoorU12
namespace Go.Proofs.YtiaepldmgighbaaGreatDoor
open Go.RowKit
set_option linter.unusedSimpArgs false
abbrev StT : TypeId:=9
theorem jem : (Tryz.prog.info? StT).map (fun i => (i.zero,i.size,i.bytes)) = some (some (.string ⟨#[]⟩),1,16):=by kernel_rfl
theorem jaY {w : World} {e : TypeId} {v : Value} {n : Nat} {vs : List Value} (h : w.ownsRow 0 e 1 v n vs) (hn : 0 < n) : ∃ g cap cur,v = .slice (some ⟨g,0,none⟩) n cap ∧ w.heap[g]? = some (.cells cur e (0,0)) ∧ n ≤ cap ∧ ∀ j u,vs[j]? = some u → cur[0 + j]? = some u:=by
 have hl:=h.1
 rcases h.2 with ⟨_,h0⟩ | ⟨g,cap,cur,hv,_,hc,hn,_,_,ht⟩
 ·omega
 ·refine ⟨g,cap,cur,hv,hc,hn,fun j u hu => ?_⟩
  have hj:=(List.getElem?_eq_some_iff.1 hu).1
  rw [Nat.mul_one] at ht hl
  rw [← ht] at hu
  rw [List.getElem?_take,if_pos (by omega)] at hu
  rw [Nat.zero_add, ← Array.getElem?_toList]
  exact hu
theorem Few.size {w : World} {B A : Nat} {bs : List Nat} {g : Nat} {tv : Value} (h : Few w B A bs g tv 10) (i : Nat) (hi : i < 10) : ∃ b,bs[i]? = some b ∧ Leaf w b ((i : Int) + 1) (jaw ((i : Int) + 1)):=by
 have hl:=h.len
 exact ⟨_,List.getElem?_eq_getElem (by omega),h.leaf i _ (List.getElem?_eq_getElem (by omega))⟩
end Go.Proofs.YtiaepldmgighbaaGreatDoor
