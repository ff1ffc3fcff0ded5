import Derived.Test.YtiaepldmgighbaaGreatDoorU03
import Derived.Test.YtiaepldmgighbaaGreatDoorU02
namespace Go.Proofs.YtiaepldmgighbaaGreatDoor
open Go.RowKit
set_option linter.unusedSimpArgs false
abbrev Pr:=Nat × Nat
structure Que where
 known : Bool
 yes : Bool
 all : Bool
 hard : Bool
 pairs : List Pr
def QV (q : Que) (v : Value) : Value := .agg #[.bool q.known, .bool q.yes, .bool q.all, .bool q.hard,v]
def QC (q : Que) (v : Value) : Array Value := #[.bool q.known, .bool q.yes, .bool q.all, .bool q.hard,v]
def jcF (L : List Pr) : List Value:=L.flatMap fun p => [.int .i64 p.1, .int .i64 p.2]
theorem jdX (L : List Pr) (p : Pr) : jcF (L ++ [p]) = jcF L ++ [.int .i64 p.1, .int .i64 p.2]:=by simp [jcF,List.flatMap_append]
theorem jj6 : ∀ (L : List Pr) (i : Nat) (p : Pr),L[i]? = some p → (jcF L)[i * 2]? = some (.int .i64 p.1) ∧ (jcF L)[i * 2 + 1]? = some (.int .i64 p.2)
 | [],i,p,h => by simp at h
 | q :: r,0,p,h => by simp at h;subst h;simp [jcF]
 | q :: r,i + 1,p,h => by
   have ih:=jj6 r i p (by simpa using h)
   have e : jcF (q :: r) = .int .i64 q.1 :: .int .i64 q.2 :: jcF r:=by simp [jcF]
   rw [e,show (i + 1) * 2 = i * 2 + 1 + 1 by omega]
   simpa using ih
def PairsAt (B : Nat → Prop) (w : World) (v : Value) (ps : List Pr) : Prop:=ps.length ≤ 1000000 ∧ ∃ a cap,v = .slice a ps.length cap ∧ ∀ (j : Nat) (p : Pr),ps[j]? = some p → ∃ g off,a = some ⟨g,off,none⟩ ∧ B g ∧ g < w.heap.size ∧ w.cell? ⟨g,off + j * 2,none⟩ = some (.int .i64 p.1) ∧ w.cell? ⟨g,off + j * 2 + 1,none⟩ = some (.int .i64 p.2)
theorem PairsAt.keep {B B' : Nat → Prop} {w w' : World} {v : Value} {ps : List Pr} (h : PairsAt B w v ps) (hs : w.heap.size ≤ w'.heap.size) (k : ∀ g,B g → g < w.heap.size → B' g ∧ ∀ (i : Nat) (u : Value),w.cell? ⟨g,i,none⟩ = some u → w'.cell? ⟨g,i,none⟩ = some u) : PairsAt B' w' v ps :=
 ⟨h.1,let ⟨a,cap,h1,h2⟩:=h.2; ⟨a,cap,h1,fun j p hp => let ⟨g,off,q1,q0,q2,q3,q4⟩:=h2 j p hp; ⟨g,off,q1,(k g q0 q2).1,Nat.lt_of_lt_of_le q2 hs,(k g q0 q2).2 _ _ q3,(k g q0 q2).2 _ _ q4⟩⟩⟩
theorem PairsAt.keepC {B B' : Nat → Prop} {w w' : World} {v : Value} {ps : List Pr} (h : PairsAt B w v ps) (hs : w.heap.size ≤ w'.heap.size) (k : ∀ g,B g → g < w.heap.size → (∃ i u,w.cell? ⟨g,i,none⟩ = some u) → B' g ∧ ∀ (i : Nat) (u : Value),w.cell? ⟨g,i,none⟩ = some u → w'.cell? ⟨g,i,none⟩ = some u) : PairsAt B' w' v ps :=
 ⟨h.1,let ⟨a,cap,h1,h2⟩:=h.2; ⟨a,cap,h1,fun j p hp => let ⟨g,off,q1,q0,q2,q3,q4⟩:=h2 j p hp; ⟨g,off,q1,(k g q0 q2 ⟨_,_,q3⟩).1,Nat.lt_of_lt_of_le q2 hs,(k g q0 q2 ⟨_,_,q3⟩).2 _ _ q3,(k g q0 q2 ⟨_,_,q3⟩).2 _ _ q4⟩⟩⟩
theorem PairsAt.up {B : Nat → Prop} {w w' : World} {v : Value} {ps : List Pr} (h : PairsAt B w v ps) (k : Up w w') : PairsAt B w' v ps:=h.keep k.size fun g q1 q2 => ⟨q1,fun i _ q => (k.cells g i q2).trans q⟩
theorem PairsAt.nil (B : Nat → Prop) (w : World) : PairsAt B w (.slice none 0 0) []:=⟨by simp,none,0,rfl,fun j p h => by simp at h⟩
theorem PairsAt.form {B : Nat → Prop} {w : World} {v : Value} {ps : List Pr} (h : PairsAt B w v ps) : ∃ a cap,v = .slice a ps.length cap:=let ⟨_,a,cap,h1,_⟩:=h; ⟨a,cap,h1⟩
theorem jnN {w : World} {sa : Option Addr} {n cap : Nat} {L : List Pr} (h : w.ownsRow 0 jbA 2 (.slice sa n cap) L.length (jcF L)) {i : Nat} {p : Pr} (hi : L[i]? = some p) :
  ∃ g,sa = some ⟨g,0,none⟩ ∧ g < w.heap.size ∧ (Value.slice sa n cap).ownBlock = some g ∧ w.cell? ⟨g,i * 2,none⟩ = some (.int .i64 p.1) ∧ w.cell? ⟨g,i * 2 + 1,none⟩ = some (.int .i64 p.2):=by
 have hlt:=(List.getElem?_eq_some_iff.1 hi).1
 have hF:=jj6 L i p hi
 rcases h.2 with ⟨_,h0⟩ | ⟨g,c,cur,hv,_,hc,_⟩
 ·omega
 ·cases hv
  have q1:=h.cells (g:=g) rfl _ _ hF.1
  have q2:=h.cells (g:=g) rfl _ _ hF.2
  rw [Addr.add_lit] at q1 q2
  simp only [Nat.zero_add] at q1 q2
  exact ⟨g,rfl,ja0 hc,rfl,q1,q2⟩
set_option linter.unusedVariables false
abbrev Mem:=ByteArray × Nat × Bool
def hasM (l : List Mem) (nm : ByteArray) : Option Mem:=l.find? fun x => decide (x.1 = nm)
end Go.Proofs.YtiaepldmgighbaaGreatDoor
