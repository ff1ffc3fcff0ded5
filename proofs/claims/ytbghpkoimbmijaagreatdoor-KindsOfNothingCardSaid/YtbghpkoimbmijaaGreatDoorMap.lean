import Derived.Test.YtbghpkoimbmijaaGreatDoorBase
import Derived.MapKept
import Derived.Maps.OwnOps
import Derived.Maps.Own
/- Maps whose keys are texts or numbers, as lists in the order in which they were laid: what a lookup and a store do. -/
namespace Go.Proofs.YtbghpkoimbmijaaGreatDoor
open Go.RowKit
section
variable {P : Program} {α κ : Type}

/-- w with another object in a block -/
def putB (w : World) (b : Nat) (o : Obj) : World := { w with heap := w.heap.setIfInBounds b o }

/-- the entries of a map are these, in this order -/
def Entries (es : Array MapEntry) (kf : κ → Value) (f : α → Value) (l : List (κ × α)) : Prop := es.toList.map (fun e => (e.key, e.val)) = l.map (fun x => (kf x.1, f x.2))

/-- keys of one kind, told apart -/
structure KeyKind (d : TypeDesc) (kf : κ → Value) : Prop where
  key : ∀ k, MapKept.IsKey d (kf k)
  inj : ∀ k k', kf k = kf k' → k = k'

theorem strKeys : KeyKind .string Value.string := ⟨fun k => by simp [MapKept.IsKey], fun k k' h => by simpa using h⟩
theorem intKeys (q : IntKind) : KeyKind (.int q) (Value.int q) := ⟨fun k => by simp [MapKept.IsKey], fun k k' h => by simpa using h⟩

theorem Entries.nth {es : Array MapEntry} {kf : κ → Value} {f : α → Value} {l : List (κ × α)} (h : Entries es kf f l) (j : Nat) (e : MapEntry) (he : es.toList[j]? = some e) : ∃ x, l[j]? = some x ∧ e.key = kf x.1 ∧ e.val = f x.2 := by
  have h1 : (es.toList.map (fun e => (e.key, e.val)))[j]? = (l.map (fun x => (kf x.1, f x.2)))[j]? := by rw [h]
  rw [List.getElem?_map, List.getElem?_map, he] at h1
  cases hx : l[j]? with
  | none => rw [hx] at h1; simp at h1
  | some x => rw [hx] at h1; simp at h1; exact ⟨x, rfl, h1.1, h1.2⟩

theorem Entries.len {es : Array MapEntry} {kf : κ → Value} {f : α → Value} {l : List (κ × α)} (h : Entries es kf f l) : es.size = l.length := by
  have := congrArg List.length h
  simpa using this

theorem Entries.keys {d : TypeDesc} {es : Array MapEntry} {kf : κ → Value} {f : α → Value} {l : List (κ × α)} (hk : KeyKind d kf) (h : Entries es kf f l) : ∀ x ∈ es.toList, MapKept.IsKey d x.key := by
  intro e he
  obtain ⟨j, hj⟩ := List.getElem?_of_mem he
  obtain ⟨x, _, h2, _⟩ := h.nth j e hj
  rw [h2]; exact hk.key _

theorem find_miss {d : TypeDesc} {es : Array MapEntry} {kf : κ → Value} {f : α → Value} {l : List (κ × α)} (hk : KeyKind d kf) (h : Entries es kf f l) (k : κ) (hm : ∀ x ∈ l, x.1 ≠ k) : Instr.findNow d (kf k) es.toList 0 = some none := by
  rcases MapKept.findNow_spec (hk.key k) es.toList 0 (h.keys hk) with ⟨h1, _⟩ | ⟨j, e, _, h2, h3⟩
  · exact h1
  · obtain ⟨x, hx, h4, _⟩ := h.nth j e h2
    exact absurd (hk.inj _ _ (h4.symm.trans h3)) (hm x (List.mem_of_getElem? hx))

theorem find_hit {d : TypeDesc} {es : Array MapEntry} {kf : κ → Value} {f : α → Value} {l : List (κ × α)} (hk : KeyKind d kf) (h : Entries es kf f l) (k : κ) (x : α) (j : Nat) (hj : l[j]? = some (k, x)) (hn : (l.map (·.1)).Nodup) :
    Instr.findNow d (kf k) es.toList 0 = some (some (j, f x)) ∧ ∃ e, es[j]? = some e ∧ e.key = kf k := by
  have hlt : j < l.length := by
    rcases Nat.lt_or_ge j l.length with h' | h'
    · exact h'
    · rw [List.getElem?_eq_none h'] at hj; cases hj
  have hlt' : j < es.toList.length := by have := h.len; simpa [this] using hlt
  obtain ⟨y, hy, hyk, hyv⟩ := h.nth j _ (List.getElem?_eq_getElem hlt')
  rw [hj] at hy
  cases hy
  rcases MapKept.findNow_spec (hk.key k) es.toList 0 (h.keys hk) with ⟨_, h1⟩ | ⟨i, e, h1, h2, h3⟩
  · exact absurd hyk (h1 _ (List.getElem_mem hlt'))
  · obtain ⟨z, hz, h4, h5⟩ := h.nth i e h2
    have hzk : z.1 = k := hk.inj _ _ (h4.symm.trans h3)
    have hij : i = j := by
      have a1 : (l.map (·.1))[i]? = some k := by rw [List.getElem?_map, hz]; simp [hzk]
      have a2 : (l.map (·.1))[j]? = some k := by rw [List.getElem?_map, hj]; simp
      have b1 : i < (l.map (·.1)).length := by
        rcases Nat.lt_or_ge i (l.map (·.1)).length with h' | h'
        · exact h'
        · rw [List.getElem?_eq_none h'] at a1; cases a1
      exact (List.getElem?_inj b1 hn).1 (a1.trans a2.symm)
    subst hij
    rw [hj] at hz
    cases hz
    refine ⟨by rw [h1, h5]; simp, e, by simpa using h2, h3⟩

theorem run_lookup_none {t kt et : TypeId} {d : TypeDesc} {kf : κ → Value} {z : Value} {w : World} (ht : P.underlying t = some (.map kt et)) (hd : P.underlying kt = some d) (hk : KeyKind d kf) (hz : (zeroValue et).run P w = .ok z w) (k : κ) :
    (Instr.lookup t (.map none) (kf k) true).run P w = .ok (.tuple #[z, .bool false]) w ∧ (Instr.lookup t (.map none) (kf k) false).run P w = .ok z w := by
  have hc : (Instr.checkKey true 10000 kt (kf k)).run P w = .ok () w := MapKept.run_checkKey (k := kf k) hd (hk.key k) true 9999
  have hf : Instr.findNow d (kf k) ([] : List MapEntry) 0 = some none := rfl
  constructor <;> simp [Instr.lookup, run_underlying ht, hc, MapKept.run_findKey hd hf, hz, Result.andThen]

theorem run_lookup_miss {t kt et : TypeId} {d : TypeDesc} {kf : κ → Value} {f : α → Value} {z : Value} {w : World} {g clk : Nat} {es : Array MapEntry} {l : List (κ × α)} (ht : P.underlying t = some (.map kt et)) (hd : P.underlying kt = some d) (hk : KeyKind d kf)
    (hz : (zeroValue et).run P w = .ok z w) (hb : w.heap[g]? = some (.map es clk)) (h : Entries es kf f l) (k : κ) (hm : ∀ x ∈ l, x.1 ≠ k) :
    (Instr.lookup t (.map (some g)) (kf k) true).run P w = .ok (.tuple #[z, .bool false]) w ∧ (Instr.lookup t (.map (some g)) (kf k) false).run P w = .ok z w := by
  have hc : ∀ e, (Instr.checkKey e 10000 kt (kf k)).run P w = .ok () w := fun e => MapKept.run_checkKey (k := kf k) hd (hk.key k) e 9999
  have hf := find_miss hk h k hm
  constructor <;> simp [Instr.lookup, run_underlying ht, MapKept.run_getObj_map hb, hc, MapKept.run_findKey hd hf, hz, Result.andThen]

theorem run_lookup_hit {t kt et : TypeId} {d : TypeDesc} {kf : κ → Value} {f : α → Value} {w : World} {g clk : Nat} {es : Array MapEntry} {l : List (κ × α)} (ht : P.underlying t = some (.map kt et)) (hd : P.underlying kt = some d) (hk : KeyKind d kf)
    (hb : w.heap[g]? = some (.map es clk)) (h : Entries es kf f l) (k : κ) (x : α) (j : Nat) (hj : l[j]? = some (k, x)) (hn : (l.map (·.1)).Nodup) :
    (Instr.lookup t (.map (some g)) (kf k) true).run P w = .ok (.tuple #[f x, .bool true]) w ∧ (Instr.lookup t (.map (some g)) (kf k) false).run P w = .ok (f x) w := by
  have hc : ∀ e, (Instr.checkKey e 10000 kt (kf k)).run P w = .ok () w := fun e => MapKept.run_checkKey (k := kf k) hd (hk.key k) e 9999
  have hf := (find_hit hk h k x j hj hn).1
  constructor <;> simp [Instr.lookup, run_underlying ht, MapKept.run_getObj_map hb, hc, MapKept.run_findKey hd hf, Result.andThen]

/-- a store under a new key: one entry more -/
theorem run_store_miss {t kt et : TypeId} {d : TypeDesc} {kf : κ → Value} {f : α → Value} {w : World} {g clk : Nat} {es : Array MapEntry} {l : List (κ × α)} (ht : P.underlying t = some (.map kt et)) (hd : P.underlying kt = some d) (hk : KeyKind d kf)
    (hb : w.heap[g]? = some (.map es clk)) (h : Entries es kf f l) (k : κ) (x : α) (hm : ∀ x ∈ l, x.1 ≠ k) :
    ∃ es' clk', (Instr.mapUpdate t (.map (some g)) (kf k) (f x)).run P w = .ok () (putB w g (.map es' clk')) ∧ Entries es' kf f (l ++ [(k, x)]) := by
  have hc : ∀ e, (Instr.checkKey e 10000 kt (kf k)).run P w = .ok () w := fun e => MapKept.run_checkKey (k := kf k) hd (hk.key k) e 9999
  have hf := find_miss hk h k hm
  refine ⟨es.push { key := kf k, val := f x, born := clk }, clk + 1, ?_, ?_⟩
  · simp [Instr.mapUpdate, run_underlying ht, MapKept.run_getObj_map hb, hc, MapKept.run_findKey hd hf, MapKept.run_setObj_map _ hb, Result.andThen, putB]
  · unfold Entries at *
    simp [h]

/-- a store under a key that is there: its value is another one -/
theorem run_store_hit {t kt et : TypeId} {d : TypeDesc} {kf : κ → Value} {f : α → Value} {w : World} {g clk : Nat} {es : Array MapEntry} {l : List (κ × α)} (ht : P.underlying t = some (.map kt et)) (hd : P.underlying kt = some d) (hk : KeyKind d kf)
    (hb : w.heap[g]? = some (.map es clk)) (h : Entries es kf f l) (k : κ) (x y : α) (j : Nat) (hj : l[j]? = some (k, y)) (hn : (l.map (·.1)).Nodup) :
    ∃ es' clk', (Instr.mapUpdate t (.map (some g)) (kf k) (f x)).run P w = .ok () (putB w g (.map es' clk')) ∧ Entries es' kf f (l.set j (k, x)) := by
  have hc : ∀ e, (Instr.checkKey e 10000 kt (kf k)).run P w = .ok () w := fun e => MapKept.run_checkKey (k := kf k) hd (hk.key k) e 9999
  obtain ⟨hf, e, he, hek⟩ := find_hit hk h k y j hj hn
  refine ⟨es.modify j fun e => { e with key := kf k, val := f x }, clk, ?_, ?_⟩
  · simp [Instr.mapUpdate, run_underlying ht, MapKept.run_getObj_map hb, hc, MapKept.run_findKey hd hf, he, hek, MapKept.run_keyThatStays (hk.key k), MapKept.run_setObj_map _ hb, Result.andThen, putB]
  · have hlt : j < es.toList.length := by
      have : j < es.size := (Array.getElem?_eq_some_iff.1 he).1
      simpa using this
    unfold Entries at *
    apply List.ext_getElem?
    intro i
    have h1 : (es.toList.map (fun e => (e.key, e.val)))[i]? = (l.map (fun x => (kf x.1, f x.2)))[i]? := by rw [h]
    simp only [List.getElem?_map, Array.toList_modify, List.getElem?_modify, List.getElem?_set] at h1 ⊢
    by_cases hij : j = i
    · subst hij
      have hl : j < l.length := by
        rcases Nat.lt_or_ge j l.length with h' | h'
        · exact h'
        · rw [List.getElem?_eq_none h'] at hj; cases hj
      simp [hl, List.getElem?_eq_getElem hlt]
    · simp [hij]
      simpa using h1

theorem wpList_lookup {w : World} {ops : Array Oper} {rest : List Oper} {o : Oper} {a : Act} {Q : Exit → Act → World → Prop} {t : TypeId} {x i : Operand} {ok : Bool} {v : Value} (hgd : o.guard = none)
    (ho : o.op = .lookup t x i ok) (hr : (Instr.lookup t (a.eval x) (a.eval i) ok).run P w = .ok v w) (h : wpList P ops Q rest (a.put o.dst v) w) : wpList P ops Q (o :: rest) a w :=
  wpList_plain hgd fun K hK => by
    unfold Oper.wp execOp
    simp only [ho, Sem.run_bind, Sem.run_pure, Result.andThen_ok, hr]
    exact hK _ _ h

theorem wpList_update {w : World} {ops : Array Oper} {rest : List Oper} {o : Oper} {a : Act} {Q : Exit → Act → World → Prop} {t : TypeId} {m k v : Operand} {g : Nat} {pr : Array MapEntry → Prop} (hgd : o.guard = none)
    (ho : o.op = .mapUpdate t m k v) (hr : ∃ es' clk', (Instr.mapUpdate t (a.eval m) (a.eval k) (a.eval v)).run P w = .ok () (putB w g (.map es' clk')) ∧ pr es')
    (h : ∀ es' clk', pr es' → wpList P ops Q rest (a.put o.dst undef) (putB w g (.map es' clk'))) : wpList P ops Q (o :: rest) a w :=
  wpList_plain hgd fun K hK => by
    obtain ⟨es', clk', hr, hp⟩ := hr
    unfold Oper.wp execOp
    simp only [ho, Sem.run_bind, Sem.run_pure, Result.andThen_ok, hr]
    exact hK _ _ (h es' clk' hp)

theorem slot_cases [DecidableEq κ] (l : List (κ × α)) (k : κ) : (∀ x ∈ l, x.1 ≠ k) ∨ ∃ (j : Nat) (x : α), l[j]? = some (k, x) := by
  by_cases h : ∃ x ∈ l, x.1 = k
  · obtain ⟨⟨k', x⟩, hx, rfl⟩ := h
    obtain ⟨j, hj⟩ := List.getElem?_of_mem hx
    exact .inr ⟨j, x, hj⟩
  · exact .inl fun x hx hk => h ⟨x, hx, hk⟩
end

theorem putB_size (w : World) (b : Nat) (o : Obj) : (putB w b o).heap.size = w.heap.size := by simp [putB]
theorem putB_same (w : World) (b : Nat) (o : Obj) (h : b < w.heap.size) : (putB w b o).heap[b]? = some o := by simp [putB, h]
theorem putB_other (w : World) (b c : Nat) (o : Obj) (h : c ≠ b) : (putB w b o).heap[c]? = w.heap[c]? := by
  simp only [putB]
  rw [Array.getElem?_setIfInBounds_ne (by omega)]
theorem putB_cell (w : World) (b c i : Nat) (o : Obj) (h : c ≠ b) : (putB w b o).cell? ⟨c, i, none⟩ = w.cell? ⟨c, i, none⟩ := by simp [World.cell?, putB_other w b c o h]
theorem putB_ice (w : World) (b c i : Nat) (o : Obj) (h : c ≠ b) : (putB w b o).frozen? ⟨c, i, none⟩ = w.frozen? ⟨c, i, none⟩ := by simp [World.frozen?, putB_other w b c o h]

end Go.Proofs.YtbghpkoimbmijaaGreatDoor
