import Derived.Test.YtmbipadiaggolaaGreatDoorRows
import Derived.WalkKit
import Derived.WalkSpells
import Derived.WalkLawsBesides
import Derived.BigQuiet
import Derived.Deep.QuietTactic
import Derived.Lib.Hide
import Derived.MapKept
import Derived.Maps.OwnOps
import Derived.Maps.Own
/- YtmbipadiaggolaaGreatDoorM01: lemmas of the proof, in order: Base, TextS, Map, HeapM, HeapW1. -/
/- Small words for the walks: a world that only grew, and what it keeps. -/
namespace Go.Proofs.YtmbipadiaggolaaGreatDoor
open Go.RowKit

/-- w is a with new blocks and draws: all that lay in a lies as it lay. -/
def Up (a w : World) : Prop := Below a.heap.size a w

theorem Up.refl (a : World) : Up a a := Below.refl _ _
theorem Up.trans {a b c : World} (h : Up a b) (k : Up b c) : Up a c := Below.trans h (Below.mono k h.size)
theorem Up.alloc {a w : World} (h : Up a w) (o : Obj) : Up a (w.alloc o) := Below.alloc h h.size o
theorem Up.drew {a w : World} (h : Up a w) : Up a w.drew := Below.drew h
theorem Up.drewN {a w : World} (h : Up a w) (n : Nat) : Up a (w.drewN n) := ⟨h.os, h.tape, h.output, h.size, h.block⟩
theorem Up.setCell {a w : World} (h : Up a w) {p : Addr} (hp : a.heap.size ≤ p.block) (u : Value) : Up a (w.setCell p u) := Below.setCell h hp u
theorem Up.size {a w : World} (h : Up a w) : a.heap.size ≤ w.heap.size := Below.size h
theorem Up.cells {a w : World} (h : Up a w) : ∀ b o, b < a.heap.size → w.cell? ⟨b, o, none⟩ = a.cell? ⟨b, o, none⟩ := fun b o hb => Below.cell (p := ⟨b, o, none⟩) h hb
theorem Up.ice {a w : World} (h : Up a w) : ∀ b o, b < a.heap.size → w.frozen? ⟨b, o, none⟩ = a.frozen? ⟨b, o, none⟩ := fun b o hb => Below.frozen (p := ⟨b, o, none⟩) h hb
theorem Up.block {a w : World} (h : Up a w) : ∀ b, b < a.heap.size → w.heap[b]? = a.heap[b]? := fun b hb => Below.block h b hb

/-- w grew: found by what lies at hand -/
theorem uq {a w : World} (h : Up a w := by repeat (first | with_reducible exact Up.refl _ | with_reducible assumption | with_reducible refine Up.drewN ?_ _ | with_reducible refine Up.drew ?_ | with_reducible refine Up.alloc ?_ _ | with_reducible refine Up.setCell ?_ (by first | omega | (simp; done) | (simp; omega)) _ | with_reducible refine Up.trans ?_ (by assumption))) : Up a w := h

theorem alloc_get (w : World) (o : Obj) : (w.alloc o).heap[w.heap.size]? = some o := by
  show (w.heap.push o)[w.heap.size]? = _
  simp
theorem alloc_old (w : World) (o : Obj) (b : Nat) (h : b < w.heap.size) : (w.alloc o).heap[b]? = w.heap[b]? := Below.heap_alloc w o b h

theorem bodyPost_eq {P : Program} {fn : Func} {R : Ending → World → Prop} {a : Act} {w : World} {v v' : Value} (hr : (results fn a.tmps).run P w = .ok v w) (hd : a.defers = []) (he : v = v') (h : R (.returned v') w) :
    bodyPost P fn R .ret a w := bodyPost_ret (v := v') (by rw [hr, he]) hd h

theorem cell_one_at (w : World) (v : Value) (t : TypeId) (b : Nat) (h : b = w.heap.size) : ∀ (j : Nat) (u : Value), [v][j]? = some u → (w.alloc (.cells #[v] t)).cell? ((⟨b, 0, none⟩ : Addr).add j) = some u := by
  subst h; exact cell_one_new _ _ _

theorem ret_v {a b : Value} (h : a = b) : Ending.returned a = Ending.returned b := by rw [h]

end Go.Proofs.YtmbipadiaggolaaGreatDoor

/- Text: a rune at the head of bytes, all runes of bytes: the plain law, and the two ways to read one. -/
namespace Go.Proofs.YtmbipadiaggolaaGreatDoor

/-- bytes in memory -/
def BytesAt (w : World) (sa : Option Addr) (l : List UInt8) : Prop := l.length ≤ 1000000000 ∧ ∀ k, k < l.length → ∃ b off, sa = some ⟨b, off, none⟩ ∧ w.cell? ⟨b, off + k, none⟩ = some (.int .u8 ((l.getD k 0).toNat : Int))
theorem cell_lt5 {w : World} {b o : Nat} {v : Value} (h : w.cell? ⟨b, o, none⟩ = some v) : b < w.heap.size := by
  rcases Nat.lt_or_ge b w.heap.size with h' | h'
  · exact h'
  · simp [World.cell?, Array.getElem?_eq_none h'] at h
theorem BytesAt.up {w w' : World} {sa : Option Addr} {l : List UInt8} (h : BytesAt w sa l) (k : Up w w') : BytesAt w' sa l :=
  ⟨h.1, fun i hi => by
    obtain ⟨b, off, h1, h2⟩ := h.2 i hi
    exact ⟨b, off, h1, (k.cells b _ (cell_lt5 h2)).trans h2⟩⟩

/-- a byte, as the program sees it -/
theorem BytesAt.byte {w : World} {sa : Option Addr} {l : List UInt8} (h : BytesAt w sa l) (k : Nat) (hk : k < l.length) : ∃ (b off : Nat) (X : Int), sa = some ⟨b, off, none⟩ ∧ w.cell? ⟨b, off + k, none⟩ = some (.int .u8 X) ∧ X = ((l.getD k 0).toNat : Int) ∧ 0 ≤ X ∧ X ≤ 255 := by
  obtain ⟨b, off, h1, h2⟩ := h.2 k hk
  exact ⟨b, off, _, h1, h2, rfl, by omega, by have := (l.getD k 0).toNat_lt; omega⟩


/-- the bytes behind a first one, so many of them -/
def runS : Nat → Nat → List UInt8 → Option Nat
  | v, 0, _ => some v
  | _, _ + 1, [] => none
  | v, k + 1, a :: r => if 128 ≤ a.toNat ∧ a.toNat ≤ 191 then runS (v * 64 + (a.toNat - 128)) k r else none

def badS : Nat × Nat := (65533, 1)

/-- what a first byte asks for: how many, its digits, the least -/
def wideS (x : Nat) : Nat × Nat × Nat :=
  if x < 128 then (1, x, 0)
  else if 192 ≤ x ∧ x ≤ 223 then (2, x - 192, 128)
  else if 224 ≤ x ∧ x ≤ 239 then (3, x - 224, 2048)
  else if 240 ≤ x ∧ x ≤ 247 then (4, x - 240, 65536)
  else (0, 0, 0)

/-- a rune and how many bytes it has -/
def decS : List UInt8 → Nat × Nat
  | [] => (0, 0)
  | x :: r =>
    let q := wideS x.toNat
    if q.1 = 0 then badS
    else match runS q.2.1 (q.1 - 1) r with
      | none => badS
      | some v => if v < q.2.2 ∨ 1114111 < v ∨ (55296 ≤ v ∧ v ≤ 57343) then badS else (v, q.1)

theorem wideS_le (x : Nat) : (wideS x).1 ≤ 4 := by unfold wideS; repeat' split
                                                   all_goals simp
theorem runS_take (k : Nat) : ∀ (v m : Nat) (l : List UInt8), k ≤ m → runS v k (l.take m) = runS v k l := by
  induction k with
  | zero => intro v m l _; cases l <;> simp [runS]
  | succ k ih =>
    intro v m l h
    cases l with
    | nil => simp
    | cons a r =>
      obtain ⟨m', rfl⟩ : ∃ m', m = m' + 1 := ⟨m - 1, by omega⟩
      simp only [List.take_succ_cons, runS]
      rw [ih _ m' r (by omega)]
theorem decS_take (l : List UInt8) : decS (l.take 4) = decS l := by
  cases l with
  | nil => rfl
  | cons x r =>
    rw [List.take_succ_cons]
    unfold decS
    dsimp only
    rw [runS_take _ _ 3 r (by have := wideS_le x.toNat; omega)]

theorem decS_size (x : UInt8) (r : List UInt8) : 1 ≤ (decS (x :: r)).2 ∧ (decS (x :: r)).2 ≤ (x :: r).length := by
  have hr : ∀ (k v u : Nat) (l : List UInt8), runS v k l = some u → k ≤ l.length := by
    intro k
    induction k with
    | zero => intros; omega
    | succ k ih =>
      intro v u l h
      cases l with
      | nil => simp [runS] at h
      | cons a t =>
        simp only [runS] at h
        split at h
        · have := ih _ _ _ h; simp; omega
        · cases h
  unfold decS
  dsimp only
  split
  · simp [badS]
  · next hq =>
    split
    · simp [badS]
    · next v hv =>
      have h1 := hr _ _ _ _ hv
      split
      · simp [badS]
      · simp only [List.length_cons]; omega

def decOf (n ls : Nat) : Option Nat → Nat × Nat
  | none => badS
  | some v => if v < ls ∨ 1114111 < v ∨ (55296 ≤ v ∧ v ≤ 57343) then badS else (v, n)
theorem decS_wide (l : List UInt8) (a n v ls : Nat) (h : a < l.length) (hw : wideS (l.getD a 0).toNat = (n, v, ls)) (hn : n ≠ 0) : decS (l.drop a) = decOf n ls (runS v (n - 1) (l.drop (a + 1))) := by
  have e : l.drop a = l.getD a 0 :: l.drop (a + 1) := by rw [List.drop_eq_getElem_cons h]; simp [List.getD, List.getElem?_eq_getElem h]
  rw [e]
  unfold decS
  dsimp only
  rw [hw]
  dsimp only
  rw [if_neg hn]
  rfl
theorem decS_none (l : List UInt8) (a v ls : Nat) (h : a < l.length) (hw : wideS (l.getD a 0).toNat = (0, v, ls)) : decS (l.drop a) = badS := by
  have e : l.drop a = l.getD a 0 :: l.drop (a + 1) := by rw [List.drop_eq_getElem_cons h]; simp [List.getD, List.getElem?_eq_getElem h]
  rw [e]
  unfold decS
  dsimp only
  rw [hw]
  rfl
theorem runS_step (v m k : Nat) (l : List UInt8) (h : k < l.length) (h1 : 128 ≤ (l.getD k 0).toNat) (h2 : (l.getD k 0).toNat ≤ 191) : runS v (m + 1) (l.drop k) = runS (v * 64 + ((l.getD k 0).toNat - 128)) m (l.drop (k + 1)) := by
  have e : l.drop k = l.getD k 0 :: l.drop (k + 1) := by rw [List.drop_eq_getElem_cons h]; simp [List.getD, List.getElem?_eq_getElem h]
  rw [e]
  simp only [runS]
  rw [if_pos ⟨h1, h2⟩]
theorem runS_stop (v m k : Nat) (l : List UInt8) (h : ¬ (k < l.length ∧ 128 ≤ (l.getD k 0).toNat ∧ (l.getD k 0).toNat ≤ 191)) : runS v (m + 1) (l.drop k) = none := by
  by_cases hk : k < l.length
  · have e : l.drop k = l.getD k 0 :: l.drop (k + 1) := by rw [List.drop_eq_getElem_cons hk]; simp [List.getD, List.getElem?_eq_getElem hk]
    rw [e]
    simp only [runS]
    rw [if_neg (fun h' => h ⟨hk, h'⟩)]
  · rw [List.drop_eq_nil_iff.2 (by omega)]
    rfl

/-- all runes: the place of each, the rune, how many bytes -/
def runesS : Nat → Nat → List UInt8 → List (Nat × Nat)
  | 0, _, _ => []
  | _ + 1, _, [] => []
  | f + 1, at_, x :: r => (at_, (decS (x :: r)).1) :: runesS f (at_ + (decS (x :: r)).2) ((x :: r).drop (decS (x :: r)).2)

def runesOf (l : List UInt8) : List (Nat × Nat) := runesS l.length 0 l

theorem runesS_enough : ∀ (f g a : Nat) (l : List UInt8), l.length ≤ f → l.length ≤ g → runesS f a l = runesS g a l := by
  intro f
  induction f with
  | zero =>
    intro g a l h1 _
    obtain rfl : l = [] := List.eq_nil_of_length_eq_zero (by omega)
    cases g <;> rfl
  | succ f ih =>
    intro g a l h1 h2
    cases l with
    | nil => cases g <;> rfl
    | cons x r =>
      obtain ⟨g', rfl⟩ : ∃ g', g = g' + 1 := ⟨g - 1, by simp at h2; omega⟩
      have hs := decS_size x r
      simp only [runesS]
      rw [ih g' _ _ (by rw [List.length_drop]; simp at h1 hs ⊢; omega) (by rw [List.length_drop]; simp at h2 hs ⊢; omega)]

/-- the rest of the runes from a place -/
def restS (l : List UInt8) (a : Nat) : List (Nat × Nat) := runesS l.length a (l.drop a)
theorem restS_at (l : List UInt8) (a : Nat) (h : a < l.length) : restS l a = (a, (decS (l.drop a)).1) :: restS l (a + (decS (l.drop a)).2) ∧ 1 ≤ (decS (l.drop a)).2 ∧ a + (decS (l.drop a)).2 ≤ l.length := by
  obtain ⟨x, r, e⟩ : ∃ x r, l.drop a = x :: r := by
    cases hd : l.drop a with
    | nil => rw [List.drop_eq_nil_iff] at hd; omega
    | cons x r => exact ⟨x, r, rfl⟩
  have hl : (l.drop a).length = l.length - a := List.length_drop
  have hs := decS_size x r
  rw [e] at hl
  obtain ⟨f, hf⟩ : ∃ f, l.length = f + 1 := ⟨l.length - 1, by omega⟩
  refine ⟨?_, by rw [e]; exact hs.1, by rw [e]; omega⟩
  unfold restS
  rw [e, hf]
  simp only [runesS]
  congr 1
  rw [← List.drop_drop, e]
  exact runesS_enough _ _ _ _ (by rw [List.length_drop]; omega) (by rw [List.length_drop]; omega)
theorem restS_end (l : List UInt8) (a : Nat) (h : l.length ≤ a) : restS l a = [] := by
  unfold restS
  rw [List.drop_eq_nil_iff.2 h]
  cases l.length <;> rfl

end Go.Proofs.YtmbipadiaggolaaGreatDoor

/- Maps whose keys are texts or numbers, as lists in the order in which they were laid: what a lookup and a store do. -/
namespace Go.Proofs.YtmbipadiaggolaaGreatDoor
open Go.RowKit
section
variable {P : Program} {α κ : Type}

/-- w with another object in a block -/
def putB (w : World) (b : Nat) (o : Obj) : World := { w with heap := w.heap.setIfInBounds b o }

/-- the entries of a map are these, in this order -/
def Entries (es : Array MapEntry) (kf : κ → Value) (f : α → Value) (l : List (κ × α)) : Prop := es.toList.map (fun e => (e.key, e.val)) = l.map (fun x => (kf x.1, f x.2))

/-- keys of one kind, told apart -/
structure KeyKind (d : TypeDesc) (kf : κ → Value) : Prop where
  key : ∀ k, MapKept.IsKey d (kf k)
  inj : ∀ k k', kf k = kf k' → k = k'

theorem strKeys : KeyKind .string Value.string := ⟨fun k => by simp [MapKept.IsKey], fun k k' h => by simpa using h⟩
theorem intKeys (q : IntKind) : KeyKind (.int q) (Value.int q) := ⟨fun k => by simp [MapKept.IsKey], fun k k' h => by simpa using h⟩

theorem Entries.nth {es : Array MapEntry} {kf : κ → Value} {f : α → Value} {l : List (κ × α)} (h : Entries es kf f l) (j : Nat) (e : MapEntry) (he : es.toList[j]? = some e) : ∃ x, l[j]? = some x ∧ e.key = kf x.1 ∧ e.val = f x.2 := by
  have h1 : (es.toList.map (fun e => (e.key, e.val)))[j]? = (l.map (fun x => (kf x.1, f x.2)))[j]? := by rw [h]
  rw [List.getElem?_map, List.getElem?_map, he] at h1
  cases hx : l[j]? with
  | none => rw [hx] at h1; simp at h1
  | some x => rw [hx] at h1; simp at h1; exact ⟨x, rfl, h1.1, h1.2⟩

theorem Entries.len {es : Array MapEntry} {kf : κ → Value} {f : α → Value} {l : List (κ × α)} (h : Entries es kf f l) : es.size = l.length := by
  have := congrArg List.length h
  simpa using this

theorem Entries.keys {d : TypeDesc} {es : Array MapEntry} {kf : κ → Value} {f : α → Value} {l : List (κ × α)} (hk : KeyKind d kf) (h : Entries es kf f l) : ∀ x ∈ es.toList, MapKept.IsKey d x.key := by
  intro e he
  obtain ⟨j, hj⟩ := List.getElem?_of_mem he
  obtain ⟨x, _, h2, _⟩ := h.nth j e hj
  rw [h2]; exact hk.key _

theorem find_miss {d : TypeDesc} {es : Array MapEntry} {kf : κ → Value} {f : α → Value} {l : List (κ × α)} (hk : KeyKind d kf) (h : Entries es kf f l) (k : κ) (hm : ∀ x ∈ l, x.1 ≠ k) : Instr.findNow d (kf k) es.toList 0 = some none := by
  rcases MapKept.findNow_spec (hk.key k) es.toList 0 (h.keys hk) with ⟨h1, _⟩ | ⟨j, e, _, h2, h3⟩
  · exact h1
  · obtain ⟨x, hx, h4, _⟩ := h.nth j e h2
    exact absurd (hk.inj _ _ (h4.symm.trans h3)) (hm x (List.mem_of_getElem? hx))

theorem find_hit {d : TypeDesc} {es : Array MapEntry} {kf : κ → Value} {f : α → Value} {l : List (κ × α)} (hk : KeyKind d kf) (h : Entries es kf f l) (k : κ) (x : α) (j : Nat) (hj : l[j]? = some (k, x)) (hn : (l.map (·.1)).Nodup) :
    Instr.findNow d (kf k) es.toList 0 = some (some (j, f x)) ∧ ∃ e, es[j]? = some e ∧ e.key = kf k := by
  have hlt : j < l.length := by
    rcases Nat.lt_or_ge j l.length with h' | h'
    · exact h'
    · rw [List.getElem?_eq_none h'] at hj; cases hj
  have hlt' : j < es.toList.length := by have := h.len; simpa [this] using hlt
  obtain ⟨y, hy, hyk, hyv⟩ := h.nth j _ (List.getElem?_eq_getElem hlt')
  rw [hj] at hy
  cases hy
  rcases MapKept.findNow_spec (hk.key k) es.toList 0 (h.keys hk) with ⟨_, h1⟩ | ⟨i, e, h1, h2, h3⟩
  · exact absurd hyk (h1 _ (List.getElem_mem hlt'))
  · obtain ⟨z, hz, h4, h5⟩ := h.nth i e h2
    have hzk : z.1 = k := hk.inj _ _ (h4.symm.trans h3)
    have hij : i = j := by
      have a1 : (l.map (·.1))[i]? = some k := by rw [List.getElem?_map, hz]; simp [hzk]
      have a2 : (l.map (·.1))[j]? = some k := by rw [List.getElem?_map, hj]; simp
      have b1 : i < (l.map (·.1)).length := by
        rcases Nat.lt_or_ge i (l.map (·.1)).length with h' | h'
        · exact h'
        · rw [List.getElem?_eq_none h'] at a1; cases a1
      exact (List.getElem?_inj b1 hn).1 (a1.trans a2.symm)
    subst hij
    rw [hj] at hz
    cases hz
    refine ⟨by rw [h1, h5]; simp, e, by simpa using h2, h3⟩

theorem run_lookup_none {t kt et : TypeId} {d : TypeDesc} {kf : κ → Value} {z : Value} {w : World} (ht : P.underlying t = some (.map kt et)) (hd : P.underlying kt = some d) (hk : KeyKind d kf) (hz : (zeroValue et).run P w = .ok z w) (k : κ) :
    (Instr.lookup t (.map none) (kf k) true).run P w = .ok (.tuple #[z, .bool false]) w ∧ (Instr.lookup t (.map none) (kf k) false).run P w = .ok z w := by
  have hc : (Instr.checkKey true 10000 kt (kf k)).run P w = .ok () w := MapKept.run_checkKey (k := kf k) hd (hk.key k) true 9999
  have hf : Instr.findNow d (kf k) ([] : List MapEntry) 0 = some none := rfl
  constructor <;> simp [Instr.lookup, run_underlying ht, hc, MapKept.run_findKey hd hf, hz, Result.andThen]

theorem run_lookup_miss {t kt et : TypeId} {d : TypeDesc} {kf : κ → Value} {f : α → Value} {z : Value} {w : World} {g clk : Nat} {es : Array MapEntry} {l : List (κ × α)} (ht : P.underlying t = some (.map kt et)) (hd : P.underlying kt = some d) (hk : KeyKind d kf)
    (hz : (zeroValue et).run P w = .ok z w) (hb : w.heap[g]? = some (.map es clk)) (h : Entries es kf f l) (k : κ) (hm : ∀ x ∈ l, x.1 ≠ k) :
    (Instr.lookup t (.map (some g)) (kf k) true).run P w = .ok (.tuple #[z, .bool false]) w ∧ (Instr.lookup t (.map (some g)) (kf k) false).run P w = .ok z w := by
  have hc : ∀ e, (Instr.checkKey e 10000 kt (kf k)).run P w = .ok () w := fun e => MapKept.run_checkKey (k := kf k) hd (hk.key k) e 9999
  have hf := find_miss hk h k hm
  constructor <;> simp [Instr.lookup, run_underlying ht, MapKept.run_getObj_map hb, hc, MapKept.run_findKey hd hf, hz, Result.andThen]

theorem run_lookup_hit {t kt et : TypeId} {d : TypeDesc} {kf : κ → Value} {f : α → Value} {w : World} {g clk : Nat} {es : Array MapEntry} {l : List (κ × α)} (ht : P.underlying t = some (.map kt et)) (hd : P.underlying kt = some d) (hk : KeyKind d kf)
    (hb : w.heap[g]? = some (.map es clk)) (h : Entries es kf f l) (k : κ) (x : α) (j : Nat) (hj : l[j]? = some (k, x)) (hn : (l.map (·.1)).Nodup) :
    (Instr.lookup t (.map (some g)) (kf k) true).run P w = .ok (.tuple #[f x, .bool true]) w ∧ (Instr.lookup t (.map (some g)) (kf k) false).run P w = .ok (f x) w := by
  have hc : ∀ e, (Instr.checkKey e 10000 kt (kf k)).run P w = .ok () w := fun e => MapKept.run_checkKey (k := kf k) hd (hk.key k) e 9999
  have hf := (find_hit hk h k x j hj hn).1
  constructor <;> simp [Instr.lookup, run_underlying ht, MapKept.run_getObj_map hb, hc, MapKept.run_findKey hd hf, Result.andThen]

/-- a store under a new key: one entry more -/
theorem run_store_miss {t kt et : TypeId} {d : TypeDesc} {kf : κ → Value} {f : α → Value} {w : World} {g clk : Nat} {es : Array MapEntry} {l : List (κ × α)} (ht : P.underlying t = some (.map kt et)) (hd : P.underlying kt = some d) (hk : KeyKind d kf)
    (hb : w.heap[g]? = some (.map es clk)) (h : Entries es kf f l) (k : κ) (x : α) (hm : ∀ x ∈ l, x.1 ≠ k) :
    ∃ es' clk', (Instr.mapUpdate t (.map (some g)) (kf k) (f x)).run P w = .ok () (putB w g (.map es' clk')) ∧ Entries es' kf f (l ++ [(k, x)]) := by
  have hc : ∀ e, (Instr.checkKey e 10000 kt (kf k)).run P w = .ok () w := fun e => MapKept.run_checkKey (k := kf k) hd (hk.key k) e 9999
  have hf := find_miss hk h k hm
  refine ⟨es.push { key := kf k, val := f x, born := clk }, clk + 1, ?_, ?_⟩
  · simp [Instr.mapUpdate, run_underlying ht, MapKept.run_getObj_map hb, hc, MapKept.run_findKey hd hf, MapKept.run_setObj_map _ hb, Result.andThen, putB]
  · unfold Entries at *
    simp [h]

/-- a store under a key that is there: its value is another one -/
theorem run_store_hit {t kt et : TypeId} {d : TypeDesc} {kf : κ → Value} {f : α → Value} {w : World} {g clk : Nat} {es : Array MapEntry} {l : List (κ × α)} (ht : P.underlying t = some (.map kt et)) (hd : P.underlying kt = some d) (hk : KeyKind d kf)
    (hb : w.heap[g]? = some (.map es clk)) (h : Entries es kf f l) (k : κ) (x y : α) (j : Nat) (hj : l[j]? = some (k, y)) (hn : (l.map (·.1)).Nodup) :
    ∃ es' clk', (Instr.mapUpdate t (.map (some g)) (kf k) (f x)).run P w = .ok () (putB w g (.map es' clk')) ∧ Entries es' kf f (l.set j (k, x)) := by
  have hc : ∀ e, (Instr.checkKey e 10000 kt (kf k)).run P w = .ok () w := fun e => MapKept.run_checkKey (k := kf k) hd (hk.key k) e 9999
  obtain ⟨hf, e, he, hek⟩ := find_hit hk h k y j hj hn
  refine ⟨es.modify j fun e => { e with key := kf k, val := f x }, clk, ?_, ?_⟩
  · simp [Instr.mapUpdate, run_underlying ht, MapKept.run_getObj_map hb, hc, MapKept.run_findKey hd hf, he, hek, MapKept.run_keyThatStays (hk.key k), MapKept.run_setObj_map _ hb, Result.andThen, putB]
  · have hlt : j < es.toList.length := by
      have : j < es.size := (Array.getElem?_eq_some_iff.1 he).1
      simpa using this
    unfold Entries at *
    apply List.ext_getElem?
    intro i
    have h1 : (es.toList.map (fun e => (e.key, e.val)))[i]? = (l.map (fun x => (kf x.1, f x.2)))[i]? := by rw [h]
    simp only [List.getElem?_map, Array.toList_modify, List.getElem?_modify, List.getElem?_set] at h1 ⊢
    by_cases hij : j = i
    · subst hij
      have hl : j < l.length := by
        rcases Nat.lt_or_ge j l.length with h' | h'
        · exact h'
        · rw [List.getElem?_eq_none h'] at hj; cases hj
      simp [hl, List.getElem?_eq_getElem hlt]
    · simp [hij]
      simpa using h1

theorem wpList_lookup {w : World} {ops : Array Oper} {rest : List Oper} {o : Oper} {a : Act} {Q : Exit → Act → World → Prop} {t : TypeId} {x i : Operand} {ok : Bool} {v : Value} (hgd : o.guard = none)
    (ho : o.op = .lookup t x i ok) (hr : (Instr.lookup t (a.eval x) (a.eval i) ok).run P w = .ok v w) (h : wpList P ops Q rest (a.put o.dst v) w) : wpList P ops Q (o :: rest) a w :=
  wpList_plain hgd fun K hK => by
    unfold Oper.wp execOp
    simp only [ho, Sem.run_bind, Sem.run_pure, Result.andThen_ok, hr]
    exact hK _ _ h

theorem wpList_update {w : World} {ops : Array Oper} {rest : List Oper} {o : Oper} {a : Act} {Q : Exit → Act → World → Prop} {t : TypeId} {m k v : Operand} {g : Nat} {pr : Array MapEntry → Prop} (hgd : o.guard = none)
    (ho : o.op = .mapUpdate t m k v) (hr : ∃ es' clk', (Instr.mapUpdate t (a.eval m) (a.eval k) (a.eval v)).run P w = .ok () (putB w g (.map es' clk')) ∧ pr es')
    (h : ∀ es' clk', pr es' → wpList P ops Q rest (a.put o.dst undef) (putB w g (.map es' clk'))) : wpList P ops Q (o :: rest) a w :=
  wpList_plain hgd fun K hK => by
    obtain ⟨es', clk', hr, hp⟩ := hr
    unfold Oper.wp execOp
    simp only [ho, Sem.run_bind, Sem.run_pure, Result.andThen_ok, hr]
    exact hK _ _ (h es' clk' hp)

theorem slot_cases [DecidableEq κ] (l : List (κ × α)) (k : κ) : (∀ x ∈ l, x.1 ≠ k) ∨ ∃ (j : Nat) (x : α), l[j]? = some (k, x) := by
  by_cases h : ∃ x ∈ l, x.1 = k
  · obtain ⟨⟨k', x⟩, hx, rfl⟩ := h
    obtain ⟨j, hj⟩ := List.getElem?_of_mem hx
    exact .inr ⟨j, x, hj⟩
  · exact .inl fun x hx hk => h ⟨x, hx, hk⟩
end

theorem putB_size (w : World) (b : Nat) (o : Obj) : (putB w b o).heap.size = w.heap.size := by simp [putB]
theorem putB_same (w : World) (b : Nat) (o : Obj) (h : b < w.heap.size) : (putB w b o).heap[b]? = some o := by simp [putB, h]
theorem putB_other (w : World) (b c : Nat) (o : Obj) (h : c ≠ b) : (putB w b o).heap[c]? = w.heap[c]? := by
  simp only [putB]
  rw [Array.getElem?_setIfInBounds_ne (by omega)]
theorem putB_cell (w : World) (b c i : Nat) (o : Obj) (h : c ≠ b) : (putB w b o).cell? ⟨c, i, none⟩ = w.cell? ⟨c, i, none⟩ := by simp [World.cell?, putB_other w b c o h]
theorem putB_ice (w : World) (b c i : Nat) (o : Obj) (h : c ≠ b) : (putB w b o).frozen? ⟨c, i, none⟩ = w.frozen? ⟨c, i, none⟩ := by simp [World.frozen?, putB_other w b c o h]

end Go.Proofs.YtmbipadiaggolaaGreatDoor

/- The heap of chapter 15 as plain data, what each call makes of it, and how the program's heap lies in memory. -/
namespace Go.Proofs.YtmbipadiaggolaaGreatDoor
open Go.RowKit

structure Val where
  k : Int
  n : Int
  s : ByteArray

def Val.zero : Val := ⟨0, 0, ⟨#[]⟩⟩
def Val.cells (x : Val) : List Value := [.int .i64 x.k, .int .i64 x.n, .string x.s]
def valV (x : Val) : Value := .agg #[.int .i64 x.k, .int .i64 x.n, .string x.s]
def Val.num (n : Int) : Val := ⟨3, n, ⟨#[]⟩⟩

structure Thing where
  kind : Int
  proto : Int
  slots : List (ByteArray × Val)
  vals : List Val

def Thing.size (t : Thing) : Nat := t.slots.length + t.vals.length + 1
def sizes (l : List Thing) : Nat := (l.map Thing.size).sum

theorem sizes_append (l : List Thing) (t : Thing) : sizes (l ++ [t]) = sizes l + t.size := by simp [sizes]
theorem sizes_ge (l : List Thing) : l.length ≤ sizes l := by
  induction l with
  | nil => simp [sizes]
  | cons t l ih => simp only [sizes, List.map_cons, List.sum_cons, List.length_cons, Thing.size] at *; omega
theorem sizes_at : ∀ (l : List Thing) (i : Nat) (t : Thing), l[i]? = some t → t.size ≤ sizes l
  | [], i, t, h => by simp at h
  | u :: l, 0, t, h => by simp at h; subst h; simp [sizes]
  | u :: l, i + 1, t, h => by
    have := sizes_at l i t (by simpa using h)
    simp only [sizes, List.map_cons, List.sum_cons] at *; omega
theorem sizes_set : ∀ (l : List Thing) (i : Nat) (t t' : Thing), l[i]? = some t → sizes (l.set i t') + t.size = sizes l + t'.size
  | [], i, t, t', h => by simp at h
  | u :: l, 0, t, t', h => by simp at h; subst h; simp [sizes]; omega
  | u :: l, i + 1, t, t', h => by
    have := sizes_set l i t t' (by simpa using h)
    simp only [sizes, List.set_cons_succ, List.map_cons, List.sum_cons] at *; omega

structure HM where
  room : Int
  used : Int
  things : List Thing

def HM.there (H : HM) (n : Int) : Bool := decide (0 ≤ n) && decide (n < H.things.length)

def clampN (n : Int) : Int := if n < -9007199254740991 then -9007199254740991 else if 9007199254740991 < n then 9007199254740991 else n

/-- a value as it counts -/
def plainS (H : HM) (x : Val) : Val :=
  if x.k = 1 then ⟨1, 0, ⟨#[]⟩⟩
  else if x.k = 2 then ⟨2, if x.n = 0 then 0 else 1, ⟨#[]⟩⟩
  else if x.k = 3 then ⟨3, clampN x.n, ⟨#[]⟩⟩
  else if x.k = 4 then ⟨4, 0, x.s⟩
  else if x.k = 5 ∧ H.there x.n = true then ⟨5, x.n, ⟨#[]⟩⟩
  else ⟨0, 0, ⟨#[]⟩⟩

/-- a row of the heap's own: a slice over cells, its block under a mark -/
def Row (w : World) (own : Nat → Option (Nat × Nat)) (m : Nat × Nat) (e : TypeId) (size : Nat) (v : Value) (n : Nat) (xs : List Value) : Prop :=
  w.ownsRow 0 e size v n xs ∧ ∀ g, v.ownBlock = some g → own g = some m

def protoV (tvs : List Value) (p : Int) : Value := if p < 0 then .nilIface else tvs.getD p.toNat .nilIface

def keysOf (l : List (ByteArray × Val)) : List Value := l.map fun x => .string x.1

/-- a map of members: its entries in the order in which they were laid -/
def MapIs (w : World) (own : Nat → Option (Nat × Nat)) (m : Nat × Nat) (v : Value) (l : List (ByteArray × Val)) : Prop :=
  (v = .map none ∧ l = []) ∨ ∃ g es clk, v = .map (some g) ∧ own g = some m ∧ w.heap[g]? = some (.map es clk) ∧
    Entries es Value.string valV l

inductive ThingIs (w : World) (own : Nat → Option (Nat × Nat)) (tvs : List Value) (i : Nat) : Thing → Value → Prop
  | arr (vals : List Val) (b : Nat) (av : Value) (hb : own b = some (i + 1, 0)) (hc : w.heap[b]? = some (.cells #[av] 89 (0, 0)))
      (hr : Row w own (i + 1, 1) 34 3 av vals.length (vals.flatMap Val.cells)) :
      ThingIs w own tvs i ⟨2, -1, [], vals⟩ (.iface 86 (.pointer (some ⟨b, 0, none⟩)))
  | obj (k p : Int) (l : List (ByteArray × Val)) (b : Nat) (mv kv : Value) (hk : k = 1 ∨ k = 3 ∨ k = 4) (hp : -1 ≤ p) (hpi : p < i) (hb : own b = some (i + 1, 0))
      (hc : w.heap[b]? = some (.cells #[mv, kv] 94 (0, 0))) (hm : MapIs w own (i + 1, 2) mv l)
      (hr : Row w own (i + 1, 1) 9 1 kv l.length (keysOf l)) (hn : (l.map (·.1)).Nodup) :
      ThingIs w own tvs i ⟨k, p, l, []⟩ (.iface 96 (.agg #[.pointer (some ⟨b, 0, none⟩), .int .i64 k, protoV tvs p]))

/-- the program's heap in memory -/
structure Rep (w : World) (hb : Nat) (H : HM) (tvs : List Value) (own : Nat → Option (Nat × Nat)) : Prop where
  lt : ∀ b m, own b = some m → b < w.heap.size
  mine : own hb = some (0, 0)
  head : ∃ sv, w.heap[hb]? = some (.cells #[.int .i64 H.room, .int .i64 H.used, sv] 46 (0, 0)) ∧ Row w own (0, 1) 79 1 sv tvs.length tvs
  len : tvs.length = H.things.length
  things : ∀ (i : Nat) (t : Thing), H.things[i]? = some t → ∃ tv, tvs[i]? = some tv ∧ ThingIs w own tvs i t tv
  room0 : 0 ≤ H.used
  roomU : H.used ≤ H.room
  roomM : H.room ≤ 1048576
  few : (sizes H.things : Int) ≤ H.used

theorem Row.up {w w' : World} {own : Nat → Option (Nat × Nat)} {m : Nat × Nat} {e : TypeId} {size : Nat} {v : Value} {n : Nat} {xs : List Value} (h : Row w own m e size v n xs) (hu : Up w w') : Row w' own m e size v n xs := by
  obtain ⟨⟨h1, h2⟩, h3⟩ := h
  refine ⟨⟨h1, ?_⟩, h3⟩
  rcases h2 with h2 | ⟨g, cap, cur, hv, hg, hc, r⟩
  · exact .inl h2
  · exact .inr ⟨g, cap, cur, hv, hg, by rw [hu.block g (by rcases Nat.lt_or_ge g w.heap.size with h | h; exact h; simp [Array.getElem?_eq_none h] at hc)]; exact hc, r⟩

theorem lt_of_heap {w : World} {g : Nat} {o : Obj} (h : w.heap[g]? = some o) : g < w.heap.size := by
  rcases Nat.lt_or_ge g w.heap.size with h' | h'
  · exact h'
  · simp [Array.getElem?_eq_none h'] at h

theorem Up.get {w w' : World} (hu : Up w w') {g : Nat} {o : Obj} (h : w.heap[g]? = some o) : w'.heap[g]? = some o := by
  rw [hu.block g (lt_of_heap h)]; exact h

theorem MapIs.up {w w' : World} {own : Nat → Option (Nat × Nat)} {m : Nat × Nat} {v : Value} {l : List (ByteArray × Val)} (h : MapIs w own m v l) (hu : Up w w') : MapIs w' own m v l := by
  rcases h with h | ⟨g, es, clk, hv, ho, hg, r⟩
  · exact .inl h
  · exact .inr ⟨g, es, clk, hv, ho, hu.get hg, r⟩

theorem ThingIs.up {w w' : World} {own : Nat → Option (Nat × Nat)} {tvs : List Value} {i : Nat} {t : Thing} {v : Value} (h : ThingIs w own tvs i t v) (hu : Up w w') : ThingIs w' own tvs i t v := by
  cases h with
  | arr vals b av hb hc hr => exact .arr vals b av hb (hu.get hc) (hr.up hu)
  | obj k p l b mv kv hk hp hpi hb hc hm hr hn => exact .obj k p l b mv kv hk hp hpi hb (hu.get hc) (hm.up hu) (hr.up hu) hn

theorem Rep.up {w w' : World} {hb : Nat} {H : HM} {tvs : List Value} {own : Nat → Option (Nat × Nat)} (h : Rep w hb H tvs own) (hu : Up w w') : Rep w' hb H tvs own where
  lt b m hm := Nat.lt_of_lt_of_le (h.lt b m hm) hu.size
  mine := h.mine
  head := let ⟨sv, h1, h2⟩ := h.head; ⟨sv, hu.get h1, h2.up hu⟩
  len := h.len
  things i t ht := let ⟨tv, h1, h2⟩ := h.things i t ht; ⟨tv, h1, h2.up hu⟩
  room0 := h.room0
  roomU := h.roomU
  roomM := h.roomM
  few := h.few

theorem cell_of {w : World} {b : Nat} {cs : Array Value} {t : TypeId} {f : Nat × Nat} (h : w.heap[b]? = some (.cells cs t f)) (i : Nat) : w.cell? ⟨b, i, none⟩ = cs[i]? := by
  simp [World.cell?, h]
theorem ice_of {w : World} {b : Nat} {cs : Array Value} {t : TypeId} (h : w.heap[b]? = some (.cells cs t (0, 0))) (i : Nat) : w.frozen? ⟨b, i, none⟩ = false := by
  simp [World.frozen?, h]

/-- the same heap, or none at all: a nil one is as one without room -/
inductive HRep (w : World) : Value → HM → List Value → (Nat → Option (Nat × Nat)) → Prop
  | nil : HRep w (.pointer none) ⟨0, 0, []⟩ [] (fun _ => none)
  | some (hb : Nat) (H : HM) (tvs : List Value) (own : Nat → Option (Nat × Nat)) (h : Rep w hb H tvs own) : HRep w (.pointer (some ⟨hb, 0, none⟩)) H tvs own

theorem HRep.up {w w' : World} {hv : Value} {H : HM} {tvs : List Value} {own : Nat → Option (Nat × Nat)} (h : HRep w hv H tvs own) (hu : Up w w') : HRep w' hv H tvs own := by
  cases h with
  | nil => exact .nil
  | some hb _ _ _ h => exact .some hb _ _ _ (h.up hu)

end Go.Proofs.YtmbipadiaggolaaGreatDoor

/- Walks: the small functions of the program's heap. -/
namespace Go.Proofs.YtmbipadiaggolaaGreatDoor
open Go.RowKit

theorem ta_aa (v : Value) (w : World) : (Instr.typeAssert (.iface 86 v) 79 86 true).run Tryz.prog w = .ok (.tuple #[v, .bool true]) w := by kernel_rfl
theorem ta_ao (v : Value) (w : World) : (Instr.typeAssert (.iface 96 v) 79 86 true).run Tryz.prog w = .ok (.tuple #[.pointer none, .bool false]) w := by kernel_rfl
theorem ta_an (w : World) : (Instr.typeAssert .nilIface 79 86 true).run Tryz.prog w = .ok (.tuple #[.pointer none, .bool false]) w := by kernel_rfl
theorem ta_oa (v : Value) (w : World) : (Instr.typeAssert (.iface 86 v) 79 96 true).run Tryz.prog w = .ok (.tuple #[.agg #[.pointer none, .int .i64 0, .nilIface], .bool false]) w := by kernel_rfl
theorem ta_oo (v : Value) (w : World) : (Instr.typeAssert (.iface 96 v) 79 96 true).run Tryz.prog w = .ok (.tuple #[v, .bool true]) w := by kernel_rfl
theorem ta_on (w : World) : (Instr.typeAssert .nilIface 79 96 true).run Tryz.prog w = .ok (.tuple #[.agg #[.pointer none, .int .i64 0, .nilIface], .bool false]) w := by kernel_rfl
theorem m_kind_a (n : Nat) (v : Value) (w : World) : (method (n + 1) 86 v "shuck/heap.kind").run Tryz.prog w = .ok (120, v) w := by kernel_rfl
theorem m_kind_o (n : Nat) (v : Value) (w : World) : (method (n + 1) 96 v "shuck/heap.kind").run Tryz.prog w = .ok (123, v) w := by kernel_rfl
theorem m_behind_a (n : Nat) (v : Value) (w : World) : (method (n + 1) 86 v "shuck/heap.behind").run Tryz.prog w = .ok (119, v) w := by kernel_rfl
theorem m_behind_o (n : Nat) (v : Value) (w : World) : (method (n + 1) 96 v "shuck/heap.behind").run Tryz.prog w = .ok (122, v) w := by kernel_rfl
theorem m_own_a (n : Nat) (v : Value) (w : World) : (method (n + 1) 86 v "shuck/heap.own").run Tryz.prog w = .ok (121, v) w := by kernel_rfl
theorem m_own_o (n : Nat) (a b c : Value) (w : World) : (method (n + 1) 96 (.agg #[a, b, c]) "shuck/heap.own").run Tryz.prog w = .ok (44, a) w := by kernel_rfl
attribute [local go_sem] ta_aa ta_ao ta_an ta_oa ta_oo ta_on m_kind_a m_kind_o m_behind_a m_behind_o m_own_a m_own_o

theorem number_any (n : Int) (w : World) :
    Calls Tryz.prog 47 #[.int .i64 n] w fun e w' => e = .returned (.agg #[.int .i64 3, .int .i64 n, .string ⟨#[]⟩]) ∧ Up w w' := by
  go_enter Tryz.func47, Tryz.ntmps47
  go_wp2
  exact bodyPost_ret (v := .agg #[.int .i64 3, .int .i64 n, .string ⟨#[]⟩]) (by simp [results, Tryz.results47, go_sem]) rfl ⟨rfl, uq⟩

theorem boolean_zero (w : World) : Calls Tryz.prog 55 #[.int .i64 0] w fun e w' => e = .returned (.int .i64 0) ∧ w = w' := by
  go_enter Tryz.func55, Tryz.ntmps55
  go_wp2
  go_ret
  exact ⟨rfl, rfl⟩
theorem boolean_else (n : Int) (hn : (n == 0) = false) (w : World) : Calls Tryz.prog 55 #[.int .i64 n] w fun e w' => e = .returned (.int .i64 1) ∧ w = w' := by
  go_enter Tryz.func55, Tryz.ntmps55
  go_wp2
  go_ret
  exact ⟨rfl, rfl⟩

theorem len_le {w : World} {hb : Nat} {H : HM} {tvs : List Value} {own : Nat → Option (Nat × Nat)} (h : Rep w hb H tvs own) : tvs.length ≤ 1048576 := by
  have h1 := h.few; have h5 := sizes_ge H.things; have h2 := h.roomU; have h3 := h.roomM; have h4 := h.len; omega

/-- the slice of things and what its cells are -/
theorem Rep.slice {w : World} {hb : Nat} {H : HM} {tvs : List Value} {own : Nat → Option (Nat × Nat)} (h : Rep w hb H tvs own) :
    ∃ sa cap, w.cell? ⟨hb, 2, none⟩ = some (.slice sa tvs.length cap) ∧ ∀ n tv, tvs[n]? = some tv → ∃ sb, sa = some ⟨sb, 0, none⟩ ∧ sb < w.heap.size ∧ w.cell? ⟨sb, n, none⟩ = some tv := by
  obtain ⟨sv, h1, ⟨hl, h2⟩, h3⟩ := h.head
  have hc := cell_of h1 2
  rcases h2 with ⟨rfl, h2⟩ | ⟨g, cap, cur, rfl, _, hg, _, _, _, hcur⟩
  · rw [h2]
    have : tvs = [] := List.length_eq_zero_iff.1 h2
    exact ⟨none, 0, hc, fun n tv hn => by rw [this] at hn; simp at hn⟩
  · refine ⟨_, cap, hc, fun n tv hn => ⟨g, rfl, lt_of_heap hg, ?_⟩⟩
    rw [cell_of hg]
    have hlt : n < tvs.length := by
      rcases Nat.lt_or_ge n tvs.length with h | h
      · exact h
      · simp [List.getElem?_eq_none h] at hn
    rw [← hcur] at hn
    rw [List.getElem?_take] at hn
    split at hn
    · rw [← hn]; simp
    · cases hn

set_option maxHeartbeats 400000 in
theorem thing_nil (k n : Int) (s : ByteArray) (w : World) :
    Calls Tryz.prog 40 #[.pointer none, .agg #[.int .i64 k, .int .i64 n, .string s]] w fun e w' => e = .returned .nilIface ∧ Up w w' := by
  go_enter Tryz.func40, Tryz.ntmps40
  go_wp2
  go_quiet (fail)
  go_wp2
  go_ret
  exact ⟨rfl, uq⟩

set_option maxHeartbeats 400000 in
theorem thing_kind (b : Nat) (k n : Int) (s : ByteArray) (w : World) (hk : (k != 5) = true) :
    Calls Tryz.prog 40 #[.pointer (some ⟨b, 0, none⟩), .agg #[.int .i64 k, .int .i64 n, .string s]] w fun e w' => e = .returned .nilIface ∧ Up w w' := by
  go_enter Tryz.func40, Tryz.ntmps40
  go_wp2
  go_quiet (fail)
  go_wp2
  go_ret
  exact ⟨rfl, uq⟩

set_option maxHeartbeats 400000 in
theorem thing_neg (b : Nat) (n : Int) (s : ByteArray) (w : World) (hn : n < 0) :
    Calls Tryz.prog 40 #[.pointer (some ⟨b, 0, none⟩), .agg #[.int .i64 5, .int .i64 n, .string s]] w fun e w' => e = .returned .nilIface ∧ Up w w' := by
  go_enter Tryz.func40, Tryz.ntmps40
  go_wp2
  go_quiet (fail)
  go_wp2
  go_ret
  exact ⟨rfl, uq⟩

set_option maxHeartbeats 400000 in
theorem thing_past (b : Nat) (n : Int) (s : ByteArray) (w : World) (hb : b < w.heap.size) (sa : Option Addr) (len cap : Nat) (hc : w.cell? ⟨b, 2, none⟩ = some (.slice sa len cap)) (_hl : len ≤ 1048576)
    (hn : 0 ≤ n) (hn2 : (len : Int) ≤ n) :
    Calls Tryz.prog 40 #[.pointer (some ⟨b, 0, none⟩), .agg #[.int .i64 5, .int .i64 n, .string s]] w fun e w' => e = .returned .nilIface ∧ Up w w' := by
  go_enter Tryz.func40, Tryz.ntmps40
  go_wp2
  go_quiet (fail)
  go_wp2
  go_ret
  exact ⟨rfl, uq⟩

set_option maxHeartbeats 400000 in
theorem thing_there (b : Nat) (n : Nat) (s : ByteArray) (w : World) (hb : b < w.heap.size) (sb : Nat) (len cap : Nat) (hc : w.cell? ⟨b, 2, none⟩ = some (.slice (some ⟨sb, 0, none⟩) len cap)) (_hl : len ≤ 1048576)
    (hn2 : (n : Int) < len) (v : Value) (hv : w.cell? ⟨sb, n, none⟩ = some v) (hsb : sb < w.heap.size) :
    Calls Tryz.prog 40 #[.pointer (some ⟨b, 0, none⟩), .agg #[.int .i64 5, .int .i64 n, .string s]] w fun e w' => e = .returned v ∧ Up w w' := by
  go_enter Tryz.func40, Tryz.ntmps40
  go_wp2
  go_quiet (fail)
  go_wp2
  go_quiet (fail)
  go_wp2
  go_ret
  exact ⟨rfl, uq⟩

theorem thing_some (hv : Value) (H : HM) (tvs : List Value) (own : Nat → Option (Nat × Nat)) (k n : Int) (s : ByteArray) (tv : Value) (w : World) (h : HRep w hv H tvs own) (hk : k = 5) (h0 : 0 ≤ n) (hn : tvs[n.toNat]? = some tv) :
    Calls Tryz.prog 40 #[hv, .agg #[.int .i64 k, .int .i64 n, .string s]] w fun e w' => e = .returned tv ∧ Up w w' := by
  subst hk
  obtain ⟨k, rfl⟩ := Int.eq_ofNat_of_zero_le h0
  rw [Int.toNat_natCast] at hn
  cases h with
  | nil => simp at hn
  | some hb _ _ _ h =>
    obtain ⟨sa, cap, hc, hx⟩ := h.slice
    obtain ⟨sb, rfl, hsb, hcell⟩ := hx _ _ hn
    have hlt : k < tvs.length := by
      rcases Nat.lt_or_ge k tvs.length with h | h
      · exact h
      · simp [List.getElem?_eq_none h] at hn
    exact thing_there hb k s w (h.lt _ _ h.mine) sb _ cap hc (len_le h) (by omega) tv hcell hsb

theorem thing_none (hv : Value) (H : HM) (tvs : List Value) (own : Nat → Option (Nat × Nat)) (k n : Int) (s : ByteArray) (w : World) (h : HRep w hv H tvs own) (hn : k = 5 → H.there n = false) :
    Calls Tryz.prog 40 #[hv, .agg #[.int .i64 k, .int .i64 n, .string s]] w fun e w' => e = .returned .nilIface ∧ Up w w' := by
  cases h with
  | nil => exact thing_nil k n s w
  | some hb _ _ _ h =>
    by_cases hk : k = 5
    · subst hk
      by_cases h0 : n < 0
      · exact thing_neg hb n s w h0
      · obtain ⟨sa, cap, hc, hx⟩ := h.slice
        have hl := h.len
        have := hn rfl
        simp [HM.there] at this
        exact thing_past hb n s w (h.lt _ _ h.mine) sa _ cap hc (len_le h) (by omega) (by rw [hl]; omega)
    · exact thing_kind hb k n s w (by simpa using hk)

theorem kind_o (a p : Value) (k : Int) (w : World) : Calls Tryz.prog 123 #[.agg #[a, .int .i64 k, p]] w fun e w' => e = .returned (.int .i64 k) ∧ Up w w' := by
  go_enter Tryz.func123, Tryz.ntmps123
  go_wp2
  go_ret
  exact ⟨rfl, uq⟩
theorem kind_a (a : Value) (w : World) : Calls Tryz.prog 120 #[a] w fun e w' => e = .returned (.int .i64 2) ∧ w = w' := by
  go_enter Tryz.func120, Tryz.ntmps120
  go_wp2
  go_ret
  exact ⟨rfl, rfl⟩
theorem behind_o (a p : Value) (k : Int) (w : World) : Calls Tryz.prog 122 #[.agg #[a, .int .i64 k, p]] w fun e w' => e = .returned p ∧ Up w w' := by
  go_enter Tryz.func122, Tryz.ntmps122
  go_wp2
  go_ret
  exact ⟨rfl, uq⟩
theorem behind_a (a : Value) (w : World) : Calls Tryz.prog 119 #[a] w fun e w' => e = .returned .nilIface ∧ Up w w' := by
  go_enter Tryz.func119, Tryz.ntmps119
  go_wp2
  go_ret
  exact ⟨rfl, uq⟩

end Go.Proofs.YtmbipadiaggolaaGreatDoor
