import Derived.Test.YtiaepldmgighbaaGreatDoorM03
import Derived.Test.YtiaepldmgighbaaGreatDoorM04
namespace Go.Proofs.YtiaepldmgighbaaGreatDoor
open Go.RowKit
set_option linter.unusedSimpArgs false
abbrev Pr := Nat × Nat
structure Que where
 known : Bool
 yes : Bool
 all : Bool
 hard : Bool
 pairs : List Pr
def QV (q : Que) (v : Value) : Value := .agg #[.bool q.known, .bool q.yes, .bool q.all, .bool q.hard, v]
def QC (q : Que) (v : Value) : Array Value := #[.bool q.known, .bool q.yes, .bool q.all, .bool q.hard, v]
def addP (most : Nat) : List Pr → List Pr → List Pr
 | L, [] => L
 | L, p :: r => addP most (if p ∈ L then L else if L.length ≤ most then L ++ [p] else L) r
def reachN (G : Pr → Que) (most : Nat) : Nat → Nat → List Pr → List Pr
 | 0, _, L => L
 | f + 1, i, L => match L[i]? with
   | none => L
   | some p => reachN G most f (i + 1) (addP most L (G p).pairs)
def reachL (G : Pr → Que) (most : Nat) (p : Pr) : List Pr := reachN G most (most + 2) 0 [p]
theorem addP_prefix (most : Nat) : ∀ (ps L : List Pr), L <+: addP most L ps
 | [], L => List.prefix_refl L
 | p :: r, L => by
   rw [addP]
   refine List.IsPrefix.trans ?_ (addP_prefix most r _)
   split
   · exact List.prefix_refl _
   · split
     · exact List.prefix_append _ _
     · exact List.prefix_refl _
theorem addP_len (most : Nat) : ∀ (ps L : List Pr), L.length ≤ most + 1 → (addP most L ps).length ≤ most + 1
 | [], _, h => h
 | p :: r, L, h => by
   rw [addP]
   refine addP_len most r _ ?_
   split
   · exact h
   · split
     · simp; omega
     · exact h
theorem addP_all (most : Nat) : ∀ (ps L : List Pr), (addP most L ps).length ≤ most → ∀ p ∈ ps, p ∈ addP most L ps
 | [], _, _, _, h => by cases h
 | q :: r, L, hl, p, hp => by
   rw [addP] at hl ⊢
   rcases List.mem_cons.1 hp with rfl | hp
   · refine (addP_prefix most r _).subset ?_
     split
     · assumption
     · split
       · simp
       · rename_i h1 h2
         have := (addP_prefix most r (if p ∈ L then L else if L.length ≤ most then L ++ [p] else L)).length_le
         rw [if_neg h1, if_neg h2] at this
         rw [if_neg h1, if_neg h2] at hl
         omega
   · exact addP_all most r _ hl p hp
theorem reachN_prefix (G : Pr → Que) (most : Nat) : ∀ (f i : Nat) (L : List Pr), L <+: reachN G most f i L
 | 0, _, L => List.prefix_refl L
 | f + 1, i, L => by
   rw [reachN]
   split
   · exact List.prefix_refl L
   · exact (addP_prefix most _ L).trans (reachN_prefix G most f _ _)
theorem reachN_closed (G : Pr → Que) (most : Nat) : ∀ (f i : Nat) (L : List Pr), most + 2 ≤ f + i → L.length ≤ most + 1 → (reachN G most f i L).length ≤ most →
   (∀ (j : Nat) (p : Pr), j < i → L[j]? = some p → ∀ q ∈ (G p).pairs, q ∈ L) → ∀ p ∈ reachN G most f i L, ∀ q ∈ (G p).pairs, q ∈ reachN G most f i L
 | 0, i, L, hf, hl, hr, h, p, hp, q, hq => by
   rw [reachN] at hp ⊢
   obtain ⟨j, hj⟩ := List.getElem?_of_mem hp
   have := (List.getElem?_eq_some_iff.1 hj).1
   exact h j p (by omega) hj q hq
 | f + 1, i, L, hf, hl, hr, h, p, hp, q, hq => by
   rw [reachN] at hp hr ⊢
   cases hi : L[i]? with
   | none =>
     rw [hi] at hp
     obtain ⟨j, hj⟩ := List.getElem?_of_mem hp
     have a1 : j < L.length := (List.getElem?_eq_some_iff.1 hj).1
     have a2 : L.length ≤ i := List.getElem?_eq_none_iff.1 hi
     exact h j p (Nat.lt_of_lt_of_le a1 a2) hj q hq
   | some x =>
     rw [hi] at hp hr
     refine reachN_closed G most f (i + 1) _ (by omega) (addP_len most _ L hl) hr ?_ p hp q hq
     intro j y hj hy z hz
     have hpre := addP_prefix most (G x).pairs L
     have hlt := (List.getElem?_eq_some_iff.1 hi).1
     have hy2 : L[j]? = some y := by
       obtain ⟨t, ht⟩ := hpre
       rw [← ht, List.getElem?_append_left (by omega)] at hy
       exact hy
     rcases Nat.lt_or_ge j i with hji | hji
     · exact hpre.subset (h j y hji hy2 z hz)
     · have e : j = i := by omega
       subst e
       rw [hi] at hy2
       cases hy2
       refine addP_all most _ L ?_ z hz
       exact Nat.le_trans (reachN_prefix G most f (j + 1) _).length_le hr
def flatP (L : List Pr) : List Value := L.flatMap fun p => [.int .i64 p.1, .int .i64 p.2]
theorem flatP_snoc (L : List Pr) (p : Pr) : flatP (L ++ [p]) = flatP L ++ [.int .i64 p.1, .int .i64 p.2] := by simp [flatP, List.flatMap_append]
theorem flatP_at : ∀ (L : List Pr) (i : Nat) (p : Pr), L[i]? = some p → (flatP L)[i * 2]? = some (.int .i64 p.1) ∧ (flatP L)[i * 2 + 1]? = some (.int .i64 p.2)
 | [], i, p, h => by simp at h
 | q :: r, 0, p, h => by simp at h; subst h; simp [flatP]
 | q :: r, i + 1, p, h => by
   have ih := flatP_at r i p (by simpa using h)
   have e : flatP (q :: r) = .int .i64 q.1 :: .int .i64 q.2 :: flatP r := by simp [flatP]
   rw [e, show (i + 1) * 2 = i * 2 + 1 + 1 by omega]
   simpa using ih
def PairsAt (B : Nat → Prop) (w : World) (v : Value) (ps : List Pr) : Prop := ps.length ≤ 1000000 ∧ ∃ a cap, v = .slice a ps.length cap ∧ ∀ (j : Nat) (p : Pr), ps[j]? = some p → ∃ g off, a = some ⟨g, off, none⟩ ∧ B g ∧ g < w.heap.size ∧ w.cell? ⟨g, off + j * 2, none⟩ = some (.int .i64 p.1) ∧ w.cell? ⟨g, off + j * 2 + 1, none⟩ = some (.int .i64 p.2)
theorem PairsAt.keep {B B' : Nat → Prop} {w w' : World} {v : Value} {ps : List Pr} (h : PairsAt B w v ps) (hs : w.heap.size ≤ w'.heap.size) (k : ∀ g, B g → g < w.heap.size → B' g ∧ ∀ (i : Nat) (u : Value), w.cell? ⟨g, i, none⟩ = some u → w'.cell? ⟨g, i, none⟩ = some u) : PairsAt B' w' v ps :=
 ⟨h.1, let ⟨a, cap, h1, h2⟩ := h.2; ⟨a, cap, h1, fun j p hp => let ⟨g, off, q1, q0, q2, q3, q4⟩ := h2 j p hp; ⟨g, off, q1, (k g q0 q2).1, Nat.lt_of_lt_of_le q2 hs, (k g q0 q2).2 _ _ q3, (k g q0 q2).2 _ _ q4⟩⟩⟩
theorem PairsAt.keepC {B B' : Nat → Prop} {w w' : World} {v : Value} {ps : List Pr} (h : PairsAt B w v ps) (hs : w.heap.size ≤ w'.heap.size) (k : ∀ g, B g → g < w.heap.size → (∃ i u, w.cell? ⟨g, i, none⟩ = some u) → B' g ∧ ∀ (i : Nat) (u : Value), w.cell? ⟨g, i, none⟩ = some u → w'.cell? ⟨g, i, none⟩ = some u) : PairsAt B' w' v ps :=
 ⟨h.1, let ⟨a, cap, h1, h2⟩ := h.2; ⟨a, cap, h1, fun j p hp => let ⟨g, off, q1, q0, q2, q3, q4⟩ := h2 j p hp; ⟨g, off, q1, (k g q0 q2 ⟨_, _, q3⟩).1, Nat.lt_of_lt_of_le q2 hs, (k g q0 q2 ⟨_, _, q3⟩).2 _ _ q3, (k g q0 q2 ⟨_, _, q3⟩).2 _ _ q4⟩⟩⟩
theorem PairsAt.up {B : Nat → Prop} {w w' : World} {v : Value} {ps : List Pr} (h : PairsAt B w v ps) (k : Up w w') : PairsAt B w' v ps := h.keep k.size fun g q1 q2 => ⟨q1, fun i _ q => (k.cells g i q2).trans q⟩
theorem PairsAt.nil (B : Nat → Prop) (w : World) : PairsAt B w (.slice none 0 0) [] := ⟨by simp, none, 0, rfl, fun j p h => by simp at h⟩
theorem PairsAt.form {B : Nat → Prop} {w : World} {v : Value} {ps : List Pr} (h : PairsAt B w v ps) : ∃ a cap, v = .slice a ps.length cap := let ⟨_, a, cap, h1, _⟩ := h; ⟨a, cap, h1⟩
theorem rowP_at {w : World} {sa : Option Addr} {n cap : Nat} {L : List Pr} (h : w.ownsRow 0 PairT 2 (.slice sa n cap) L.length (flatP L)) {i : Nat} {p : Pr} (hi : L[i]? = some p) :
   ∃ g, sa = some ⟨g, 0, none⟩ ∧ g < w.heap.size ∧ (Value.slice sa n cap).ownBlock = some g ∧ w.cell? ⟨g, i * 2, none⟩ = some (.int .i64 p.1) ∧ w.cell? ⟨g, i * 2 + 1, none⟩ = some (.int .i64 p.2) := by
 have hlt := (List.getElem?_eq_some_iff.1 hi).1
 have hF := flatP_at L i p hi
 rcases h.2 with ⟨_, h0⟩ | ⟨g, c, cur, hv, _, hc, _⟩
 · omega
 · cases hv
   have q1 := h.cells (g := g) rfl _ _ hF.1
   have q2 := h.cells (g := g) rfl _ _ hF.2
   rw [Addr.add_lit] at q1 q2
   simp only [Nat.zero_add] at q1 q2
   exact ⟨g, rfl, lt_of_heap hc, rfl, q1, q2⟩
def HoldsS (q : Que) (S : Pr → Prop) : Prop := if q.known = true then q.yes = true else if q.all = true then ∀ p ∈ q.pairs, S p else ∃ p ∈ q.pairs, S p
def Gfp (G : Pr → Que) (p : Pr) : Prop := ∃ S : Pr → Prop, (∀ x, S x → HoldsS (G x) S) ∧ S p
set_option linter.unusedVariables false
def smallK (x y : Int) : Bool := (x == 11 && y == 7) || (x == 12 && y == 8) || (x == 5 && y == 4) || ((x == 19 || x == 20) && (y == 7 || y == 8))
def sayQ (b : Bool) : Que := ⟨true, b, false, false, []⟩
def allQ (l : List Pr) : Que := ⟨false, false, true, false, l⟩
def oneQ (l : List Pr) : Que := ⟨false, false, false, false, l⟩
theorem holds_say {b : Bool} {S : Pr → Prop} : HoldsS (sayQ b) S ↔ b = true := by simp [HoldsS, sayQ]
theorem holds_all {l : List Pr} {S : Pr → Prop} : HoldsS (allQ l) S ↔ ∀ p ∈ l, S p := by simp [HoldsS, allQ]
theorem holds_one {l : List Pr} {S : Pr → Prop} : HoldsS (oneQ l) S ↔ ∃ p ∈ l, S p := by simp [HoldsS, oneQ]
abbrev Mem := ByteArray × Nat × Bool
def hasM (l : List Mem) (nm : ByteArray) : Option Mem := l.find? fun x => decide (x.1 = nm)
def memG (l : List Mem) : List Mem → List Pr → Que
 | [], out => allQ out
 | y :: m, out => match hasM l y.1 with
   | none => if y.2.2 = true then memG l m out else sayQ false
   | some x => if x.2.2 = true ∧ y.2.2 = false then sayQ false else memG l m (out ++ [(x.2.1, y.2.1)])
def funP (n m : Nat) (xs ys : List Nat) : List Pr := (List.range (min n m)).map fun i => (ys.getD i 0, xs.getD i 0)
def funQ (xm ym : List Bool) (xs ys : List Nat) (void : Bool) : Que :=
 if ym.length < xm.count false then sayQ false
 else allQ (funP xm.length ym.length xs ys ++ if void = true then [] else [(xs.getD xm.length 0, ys.getD ym.length 0)])
theorem holds_mem {l : List Mem} {S : Pr → Prop} : ∀ (m : List Mem) (out : List Pr), HoldsS (memG l m out) S ↔ (∀ p ∈ out, S p) ∧ ∀ y ∈ m, (hasM l y.1 = none → y.2.2 = true) ∧ ∀ x, hasM l y.1 = some x → (x.2.2 = true → y.2.2 = true) ∧ S (x.2.1, y.2.1)
 | [], out => by simp [memG, holds_all]
 | y :: m, out => by
   rw [memG]
   cases hf : hasM l y.1 with
   | none =>
     simp only
     split
     · rename_i h
       rw [holds_mem m out]
       simp [hf, h]
     · rename_i h
       rw [holds_say]
       simp [hf, h]
   | some x =>
     simp only
     split
     · rename_i h
       rw [holds_say]
       constructor
       · intro e; cases e
       · rintro ⟨_, h4⟩
         have := ((h4 y List.mem_cons_self).2 x hf).1 h.1
         rw [h.2] at this
         cases this
     · rename_i h
       have h2 : x.2.2 = true → y.2.2 = true := fun e => by
         cases h3 : y.2.2 with
         | true => rfl
         | false => exact absurd ⟨e, h3⟩ h
       rw [holds_mem m _]
       simp only [List.mem_append, List.mem_cons, List.not_mem_nil, or_false]
       constructor
       · rintro ⟨h3, h4⟩
         refine ⟨fun p hp => h3 p (.inl hp), fun z hz => ?_⟩
         rcases hz with rfl | hz
         · rw [hf]
           refine ⟨(fun e => by cases e), fun x' e => ?_⟩
           cases e
           exact ⟨h2, h3 _ (.inr rfl)⟩
         · exact h4 z hz
       · rintro ⟨h3, h4⟩
         refine ⟨fun p hp => ?_, fun z hz => h4 z (.inr hz)⟩
         rcases hp with hp | rfl
         · exact h3 p hp
         · exact ((h4 y (.inl rfl)).2 x hf).2
theorem memG_pairs {l : List Mem} {P : Pr → Prop} : ∀ (m : List Mem) (out : List Pr), (∀ p ∈ out, P p) → (∀ x ∈ l, ∀ y ∈ m, P (x.2.1, y.2.1)) → ∀ p ∈ (memG l m out).pairs, P p
 | [], out, h, _ => by rw [memG]; exact h
 | y :: m, out, h, k => by
   rw [memG]
   have k' : ∀ x ∈ l, ∀ y ∈ m, P (x.2.1, y.2.1) := fun x hx z hz => k x hx z (List.mem_cons_of_mem _ hz)
   split
   · split
     · exact memG_pairs m out h k'
     · intro p hp; cases hp
   · rename_i x hf
     split
     · intro p hp; cases hp
     · refine memG_pairs m _ (fun p hp => ?_) k'
       rcases List.mem_append.1 hp with hp | hp
       · exact h p hp
       · rw [List.mem_singleton.1 hp]
         exact k x (List.mem_of_find?_eq_some hf) y List.mem_cons_self
theorem memG_soft {l : List Mem} : ∀ (m : List Mem) (out : List Pr), (memG l m out).hard = false
 | [], out => rfl
 | y :: m, out => by
   rw [memG]
   split
   · split
     · exact memG_soft m out
     · rfl
   · split
     · rfl
     · exact memG_soft m _
end Go.Proofs.YtiaepldmgighbaaGreatDoor
