import Derived.Shelf.Abstract
import Derived.Test.YtiaepldmgighbaaGreatDoorU14
namespace Go.Proofs.YtiaepldmgighbaaGreatDoor
open Go.RowKit
set_option linter.unusedSimpArgs false
attribute [local go_sem] Oper.semAt_some
theorem jkO {w : World} {v : Value} {xs : List Nat} (h : w.ownsRow 0 TpT 1 v xs.length (xs.map ptrV)) (hne : xs ≠ []) : ∃ g cap cur,v = .slice (some ⟨g,0,none⟩) xs.length cap ∧ w.heap[g]? = some (.cells cur TpT (0,0)) ∧ xs.length ≤ cap ∧ ∀ j x,xs[j]? = some x → cur[0 + j]? = some (ptrV x):=by
 rcases h.2 with ⟨_,h0⟩ | ⟨g,cap,cur,hv,_,hc,hn,_,_,ht⟩
 ·exact absurd (List.eq_nil_of_length_eq_zero h0) hne
 ·refine ⟨g,cap,cur,hv,hc,hn,fun j x hx => ?_⟩
  have hj:=(List.getElem?_eq_some_iff.1 hx).1
  rw [Nat.mul_one] at ht
  have e : (cur.toList.take xs.length)[j]? = some (ptrV x):=by rw [ht,List.getElem?_map,hx];rfl
  rw [List.getElem?_take,if_pos hj] at e
  rw [Nat.zero_add, ← Array.getElem?_toList]
  exact e
theorem Marks.kept {B g : Nat} {Ds : List Nat} {W W' : World} (h : Marks B Ds W) {cs : Array Value} {t : TypeId} {f : Nat × Nat} (hg : W.heap[g]? = some (.cells cs t f)) (k : Kept (fun b => b = g) W W') : Marks B Ds W' :=
 ⟨h.nodup,fun D hD => ⟨(h.at_ D hD).1,k.get (h.at_ D hD).2 (fun e => by have q:=(h.at_ D hD).2;rw [show D = g from e,hg] at q;cases q)⟩⟩
def jn9 (sv p3 p4 p5 m3 m4 n i u7 u18 u19 u20 u21 u22 u45 : Value) : Array Value := #[sv,undef, .pointer none,p3,p4,p5,undef,u7,undef,undef,undef,undef,undef,m3,m4,sv,n,i,u18,u19,u20,u21,u22,undef,undef,undef,undef,undef,undef,undef,undef,undef,undef,undef,undef,undef,undef,undef,undef,undef,undef,undef,undef,undef,undef,u45,undef,undef,undef,undef,undef,undef,undef,undef,undef,undef,undef,undef,undef,undef,undef,undef,undef,undef,undef,undef,undef,undef,undef,undef,undef,undef,undef,undef,undef,undef]
end Go.Proofs.YtiaepldmgighbaaGreatDoor
