import Derived.Test.YtmbipadiaggolaaGreatDoorMap
/- The heap of chapter 15 as plain data, what each call makes of it, and how the program's heap lies in memory. -/
namespace Go.Proofs.YtmbipadiaggolaaGreatDoor
open Go.RowKit

structure Val where
  k : Int
  n : Int
  s : ByteArray

def Val.zero : Val := ⟨0, 0, ⟨#[]⟩⟩
def Val.cells (x : Val) : List Value := [.int .i64 x.k, .int .i64 x.n, .string x.s]
def valV (x : Val) : Value := .agg #[.int .i64 x.k, .int .i64 x.n, .string x.s]
def Val.num (n : Int) : Val := ⟨3, n, ⟨#[]⟩⟩

structure Thing where
  kind : Int
  proto : Int
  slots : List (ByteArray × Val)
  vals : List Val

def Thing.size (t : Thing) : Nat := t.slots.length + t.vals.length + 1
def sizes (l : List Thing) : Nat := (l.map Thing.size).sum

theorem sizes_append (l : List Thing) (t : Thing) : sizes (l ++ [t]) = sizes l + t.size := by simp [sizes]
theorem sizes_ge (l : List Thing) : l.length ≤ sizes l := by
  induction l with
  | nil => simp [sizes]
  | cons t l ih => simp only [sizes, List.map_cons, List.sum_cons, List.length_cons, Thing.size] at *; omega
theorem sizes_at : ∀ (l : List Thing) (i : Nat) (t : Thing), l[i]? = some t → t.size ≤ sizes l
  | [], i, t, h => by simp at h
  | u :: l, 0, t, h => by simp at h; subst h; simp [sizes]
  | u :: l, i + 1, t, h => by
    have := sizes_at l i t (by simpa using h)
    simp only [sizes, List.map_cons, List.sum_cons] at *; omega
theorem sizes_set : ∀ (l : List Thing) (i : Nat) (t t' : Thing), l[i]? = some t → sizes (l.set i t') + t.size = sizes l + t'.size
  | [], i, t, t', h => by simp at h
  | u :: l, 0, t, t', h => by simp at h; subst h; simp [sizes]; omega
  | u :: l, i + 1, t, t', h => by
    have := sizes_set l i t t' (by simpa using h)
    simp only [sizes, List.set_cons_succ, List.map_cons, List.sum_cons] at *; omega

structure HM where
  room : Int
  used : Int
  things : List Thing

def HM.there (H : HM) (n : Int) : Bool := decide (0 ≤ n) && decide (n < H.things.length)

def clampN (n : Int) : Int := if n < -9007199254740991 then -9007199254740991 else if 9007199254740991 < n then 9007199254740991 else n

/-- a value as it counts -/
def plainS (H : HM) (x : Val) : Val :=
  if x.k = 1 then ⟨1, 0, ⟨#[]⟩⟩
  else if x.k = 2 then ⟨2, if x.n = 0 then 0 else 1, ⟨#[]⟩⟩
  else if x.k = 3 then ⟨3, clampN x.n, ⟨#[]⟩⟩
  else if x.k = 4 then ⟨4, 0, x.s⟩
  else if x.k = 5 ∧ H.there x.n = true then ⟨5, x.n, ⟨#[]⟩⟩
  else ⟨0, 0, ⟨#[]⟩⟩

/-- a row of the heap's own: a slice over cells, its block under a mark -/
def Row (w : World) (own : Nat → Option (Nat × Nat)) (m : Nat × Nat) (e : TypeId) (size : Nat) (v : Value) (n : Nat) (xs : List Value) : Prop :=
  w.ownsRow 0 e size v n xs ∧ ∀ g, v.ownBlock = some g → own g = some m

def protoV (tvs : List Value) (p : Int) : Value := if p < 0 then .nilIface else tvs.getD p.toNat .nilIface

def keysOf (l : List (ByteArray × Val)) : List Value := l.map fun x => .string x.1

/-- a map of members: its entries in the order in which they were laid -/
def MapIs (w : World) (own : Nat → Option (Nat × Nat)) (m : Nat × Nat) (v : Value) (l : List (ByteArray × Val)) : Prop :=
  (v = .map none ∧ l = []) ∨ ∃ g es clk, v = .map (some g) ∧ own g = some m ∧ w.heap[g]? = some (.map es clk) ∧
    Entries es Value.string valV l

inductive ThingIs (w : World) (own : Nat → Option (Nat × Nat)) (tvs : List Value) (i : Nat) : Thing → Value → Prop
  | arr (vals : List Val) (b : Nat) (av : Value) (hb : own b = some (i + 1, 0)) (hc : w.heap[b]? = some (.cells #[av] 89 (0, 0)))
      (hr : Row w own (i + 1, 1) 34 3 av vals.length (vals.flatMap Val.cells)) :
      ThingIs w own tvs i ⟨2, -1, [], vals⟩ (.iface 86 (.pointer (some ⟨b, 0, none⟩)))
  | obj (k p : Int) (l : List (ByteArray × Val)) (b : Nat) (mv kv : Value) (hk : k = 1 ∨ k = 3 ∨ k = 4) (hp : -1 ≤ p) (hpi : p < i) (hb : own b = some (i + 1, 0))
      (hc : w.heap[b]? = some (.cells #[mv, kv] 94 (0, 0))) (hm : MapIs w own (i + 1, 2) mv l)
      (hr : Row w own (i + 1, 1) 9 1 kv l.length (keysOf l)) (hn : (l.map (·.1)).Nodup) :
      ThingIs w own tvs i ⟨k, p, l, []⟩ (.iface 96 (.agg #[.pointer (some ⟨b, 0, none⟩), .int .i64 k, protoV tvs p]))

/-- the program's heap in memory -/
structure Rep (w : World) (hb : Nat) (H : HM) (tvs : List Value) (own : Nat → Option (Nat × Nat)) : Prop where
  lt : ∀ b m, own b = some m → b < w.heap.size
  mine : own hb = some (0, 0)
  head : ∃ sv, w.heap[hb]? = some (.cells #[.int .i64 H.room, .int .i64 H.used, sv] 46 (0, 0)) ∧ Row w own (0, 1) 79 1 sv tvs.length tvs
  len : tvs.length = H.things.length
  things : ∀ (i : Nat) (t : Thing), H.things[i]? = some t → ∃ tv, tvs[i]? = some tv ∧ ThingIs w own tvs i t tv
  room0 : 0 ≤ H.used
  roomU : H.used ≤ H.room
  roomM : H.room ≤ 1048576
  few : (sizes H.things : Int) ≤ H.used

theorem Row.up {w w' : World} {own : Nat → Option (Nat × Nat)} {m : Nat × Nat} {e : TypeId} {size : Nat} {v : Value} {n : Nat} {xs : List Value} (h : Row w own m e size v n xs) (hu : Up w w') : Row w' own m e size v n xs := by
  obtain ⟨⟨h1, h2⟩, h3⟩ := h
  refine ⟨⟨h1, ?_⟩, h3⟩
  rcases h2 with h2 | ⟨g, cap, cur, hv, hg, hc, r⟩
  · exact .inl h2
  · exact .inr ⟨g, cap, cur, hv, hg, by rw [hu.block g (by rcases Nat.lt_or_ge g w.heap.size with h | h; exact h; simp [Array.getElem?_eq_none h] at hc)]; exact hc, r⟩

theorem lt_of_heap {w : World} {g : Nat} {o : Obj} (h : w.heap[g]? = some o) : g < w.heap.size := by
  rcases Nat.lt_or_ge g w.heap.size with h' | h'
  · exact h'
  · simp [Array.getElem?_eq_none h'] at h

theorem Up.get {w w' : World} (hu : Up w w') {g : Nat} {o : Obj} (h : w.heap[g]? = some o) : w'.heap[g]? = some o := by
  rw [hu.block g (lt_of_heap h)]; exact h

theorem MapIs.up {w w' : World} {own : Nat → Option (Nat × Nat)} {m : Nat × Nat} {v : Value} {l : List (ByteArray × Val)} (h : MapIs w own m v l) (hu : Up w w') : MapIs w' own m v l := by
  rcases h with h | ⟨g, es, clk, hv, ho, hg, r⟩
  · exact .inl h
  · exact .inr ⟨g, es, clk, hv, ho, hu.get hg, r⟩

theorem ThingIs.up {w w' : World} {own : Nat → Option (Nat × Nat)} {tvs : List Value} {i : Nat} {t : Thing} {v : Value} (h : ThingIs w own tvs i t v) (hu : Up w w') : ThingIs w' own tvs i t v := by
  cases h with
  | arr vals b av hb hc hr => exact .arr vals b av hb (hu.get hc) (hr.up hu)
  | obj k p l b mv kv hk hp hpi hb hc hm hr hn => exact .obj k p l b mv kv hk hp hpi hb (hu.get hc) (hm.up hu) (hr.up hu) hn

theorem Rep.up {w w' : World} {hb : Nat} {H : HM} {tvs : List Value} {own : Nat → Option (Nat × Nat)} (h : Rep w hb H tvs own) (hu : Up w w') : Rep w' hb H tvs own where
  lt b m hm := Nat.lt_of_lt_of_le (h.lt b m hm) hu.size
  mine := h.mine
  head := let ⟨sv, h1, h2⟩ := h.head; ⟨sv, hu.get h1, h2.up hu⟩
  len := h.len
  things i t ht := let ⟨tv, h1, h2⟩ := h.things i t ht; ⟨tv, h1, h2.up hu⟩
  room0 := h.room0
  roomU := h.roomU
  roomM := h.roomM
  few := h.few

theorem cell_of {w : World} {b : Nat} {cs : Array Value} {t : TypeId} {f : Nat × Nat} (h : w.heap[b]? = some (.cells cs t f)) (i : Nat) : w.cell? ⟨b, i, none⟩ = cs[i]? := by
  simp [World.cell?, h]
theorem ice_of {w : World} {b : Nat} {cs : Array Value} {t : TypeId} (h : w.heap[b]? = some (.cells cs t (0, 0))) (i : Nat) : w.frozen? ⟨b, i, none⟩ = false := by
  simp [World.frozen?, h]

/-- the same heap, or none at all: a nil one is as one without room -/
inductive HRep (w : World) : Value → HM → List Value → (Nat → Option (Nat × Nat)) → Prop
  | nil : HRep w (.pointer none) ⟨0, 0, []⟩ [] (fun _ => none)
  | some (hb : Nat) (H : HM) (tvs : List Value) (own : Nat → Option (Nat × Nat)) (h : Rep w hb H tvs own) : HRep w (.pointer (some ⟨hb, 0, none⟩)) H tvs own

theorem HRep.up {w w' : World} {hv : Value} {H : HM} {tvs : List Value} {own : Nat → Option (Nat × Nat)} (h : HRep w hv H tvs own) (hu : Up w w') : HRep w' hv H tvs own := by
  cases h with
  | nil => exact .nil
  | some hb _ _ _ h => exact .some hb _ _ _ (h.up hu)

end Go.Proofs.YtmbipadiaggolaaGreatDoor
