import Derived.Test.YtbghpkoimbmijaaGreatDoorRows
import Derived.WalkKit
import Derived.WalkSpells
import Derived.WalkLawsBesides
import Derived.BigQuiet
import Derived.Deep.QuietTactic
import Derived.Lib.Hide
import Derived.MapKept
import Derived.Maps.OwnOps
import Derived.Maps.Own
import Derived.StillTailTactics
import Derived.RangeFuncNested
import Derived.RangeFuncBound
import Derived.RangeFuncCalls
import Derived.RangeFuncLeaves
import Derived.OwnWalkIn
import Derived.TacticsInMore
import Derived.LoopNIn
import Derived.LoopIn
import Derived.Deep.RegionLaw
import Derived.Deep.CutRange
import Derived.Deep.DeepCutAuto
import Derived.Deep.RegionHeld3
/- YtbghpkoimbmijaaGreatDoorM01: lemmas of the proof, in order: Base, Map, Row, Keep, KA, KB. -/
/- Small words for the walks: a world that only grew, and what it keeps. -/
namespace Go.Proofs.YtbghpkoimbmijaaGreatDoor
open Go.RowKit

/-- w is a with new blocks and draws: all that lay in a lies as it lay. -/
def Up (a w : World) : Prop := Below a.heap.size a w

theorem Up.refl (a : World) : Up a a := Below.refl _ _
theorem Up.trans {a b c : World} (h : Up a b) (k : Up b c) : Up a c := Below.trans h (Below.mono k h.size)
theorem Up.alloc {a w : World} (h : Up a w) (o : Obj) : Up a (w.alloc o) := Below.alloc h h.size o
theorem Up.drew {a w : World} (h : Up a w) : Up a w.drew := Below.drew h
theorem Up.drewN {a w : World} (h : Up a w) (n : Nat) : Up a (w.drewN n) := ⟨h.os, h.tape, h.output, h.size, h.block⟩
theorem Up.setCell {a w : World} (h : Up a w) {p : Addr} (hp : a.heap.size ≤ p.block) (u : Value) : Up a (w.setCell p u) := Below.setCell h hp u
theorem Up.size {a w : World} (h : Up a w) : a.heap.size ≤ w.heap.size := Below.size h
theorem Up.cells {a w : World} (h : Up a w) : ∀ b o, b < a.heap.size → w.cell? ⟨b, o, none⟩ = a.cell? ⟨b, o, none⟩ := fun b o hb => Below.cell (p := ⟨b, o, none⟩) h hb
theorem Up.ice {a w : World} (h : Up a w) : ∀ b o, b < a.heap.size → w.frozen? ⟨b, o, none⟩ = a.frozen? ⟨b, o, none⟩ := fun b o hb => Below.frozen (p := ⟨b, o, none⟩) h hb
theorem Up.block {a w : World} (h : Up a w) : ∀ b, b < a.heap.size → w.heap[b]? = a.heap[b]? := fun b hb => Below.block h b hb

/-- w grew: found by what lies at hand -/
theorem uq {a w : World} (h : Up a w := by repeat (first | with_reducible exact Up.refl _ | with_reducible assumption | with_reducible refine Up.drewN ?_ _ | with_reducible refine Up.drew ?_ | with_reducible refine Up.alloc ?_ _ | with_reducible refine Up.setCell ?_ (by first | omega | (simp; done) | (simp; omega)) _ | with_reducible refine Up.trans ?_ (by assumption))) : Up a w := h

theorem alloc_get (w : World) (o : Obj) : (w.alloc o).heap[w.heap.size]? = some o := by
  show (w.heap.push o)[w.heap.size]? = _
  simp
theorem alloc_old (w : World) (o : Obj) (b : Nat) (h : b < w.heap.size) : (w.alloc o).heap[b]? = w.heap[b]? := Below.heap_alloc w o b h

theorem bodyPost_eq {P : Program} {fn : Func} {R : Ending → World → Prop} {a : Act} {w : World} {v v' : Value} (hr : (results fn a.tmps).run P w = .ok v w) (hd : a.defers = []) (he : v = v') (h : R (.returned v') w) :
    bodyPost P fn R .ret a w := bodyPost_ret (v := v') (by rw [hr, he]) hd h

theorem cell_one_at (w : World) (v : Value) (t : TypeId) (b : Nat) (h : b = w.heap.size) : ∀ (j : Nat) (u : Value), [v][j]? = some u → (w.alloc (.cells #[v] t)).cell? ((⟨b, 0, none⟩ : Addr).add j) = some u := by
  subst h; exact cell_one_new _ _ _

theorem ret_v {a b : Value} (h : a = b) : Ending.returned a = Ending.returned b := by rw [h]

end Go.Proofs.YtbghpkoimbmijaaGreatDoor

/- Maps whose keys are texts or numbers, as lists in the order in which they were laid: what a lookup and a store do. -/
namespace Go.Proofs.YtbghpkoimbmijaaGreatDoor
open Go.RowKit
section
variable {P : Program} {α κ : Type}

/-- w with another object in a block -/
def putB (w : World) (b : Nat) (o : Obj) : World := { w with heap := w.heap.setIfInBounds b o }

/-- the entries of a map are these, in this order -/
def Entries (es : Array MapEntry) (kf : κ → Value) (f : α → Value) (l : List (κ × α)) : Prop := es.toList.map (fun e => (e.key, e.val)) = l.map (fun x => (kf x.1, f x.2))

/-- keys of one kind, told apart -/
structure KeyKind (d : TypeDesc) (kf : κ → Value) : Prop where
  key : ∀ k, MapKept.IsKey d (kf k)
  inj : ∀ k k', kf k = kf k' → k = k'

theorem strKeys : KeyKind .string Value.string := ⟨fun k => by simp [MapKept.IsKey], fun k k' h => by simpa using h⟩
theorem intKeys (q : IntKind) : KeyKind (.int q) (Value.int q) := ⟨fun k => by simp [MapKept.IsKey], fun k k' h => by simpa using h⟩

theorem Entries.nth {es : Array MapEntry} {kf : κ → Value} {f : α → Value} {l : List (κ × α)} (h : Entries es kf f l) (j : Nat) (e : MapEntry) (he : es.toList[j]? = some e) : ∃ x, l[j]? = some x ∧ e.key = kf x.1 ∧ e.val = f x.2 := by
  have h1 : (es.toList.map (fun e => (e.key, e.val)))[j]? = (l.map (fun x => (kf x.1, f x.2)))[j]? := by rw [h]
  rw [List.getElem?_map, List.getElem?_map, he] at h1
  cases hx : l[j]? with
  | none => rw [hx] at h1; simp at h1
  | some x => rw [hx] at h1; simp at h1; exact ⟨x, rfl, h1.1, h1.2⟩

theorem Entries.len {es : Array MapEntry} {kf : κ → Value} {f : α → Value} {l : List (κ × α)} (h : Entries es kf f l) : es.size = l.length := by
  have := congrArg List.length h
  simpa using this

theorem Entries.keys {d : TypeDesc} {es : Array MapEntry} {kf : κ → Value} {f : α → Value} {l : List (κ × α)} (hk : KeyKind d kf) (h : Entries es kf f l) : ∀ x ∈ es.toList, MapKept.IsKey d x.key := by
  intro e he
  obtain ⟨j, hj⟩ := List.getElem?_of_mem he
  obtain ⟨x, _, h2, _⟩ := h.nth j e hj
  rw [h2]; exact hk.key _

theorem find_miss {d : TypeDesc} {es : Array MapEntry} {kf : κ → Value} {f : α → Value} {l : List (κ × α)} (hk : KeyKind d kf) (h : Entries es kf f l) (k : κ) (hm : ∀ x ∈ l, x.1 ≠ k) : Instr.findNow d (kf k) es.toList 0 = some none := by
  rcases MapKept.findNow_spec (hk.key k) es.toList 0 (h.keys hk) with ⟨h1, _⟩ | ⟨j, e, _, h2, h3⟩
  · exact h1
  · obtain ⟨x, hx, h4, _⟩ := h.nth j e h2
    exact absurd (hk.inj _ _ (h4.symm.trans h3)) (hm x (List.mem_of_getElem? hx))

theorem find_hit {d : TypeDesc} {es : Array MapEntry} {kf : κ → Value} {f : α → Value} {l : List (κ × α)} (hk : KeyKind d kf) (h : Entries es kf f l) (k : κ) (x : α) (j : Nat) (hj : l[j]? = some (k, x)) (hn : (l.map (·.1)).Nodup) :
    Instr.findNow d (kf k) es.toList 0 = some (some (j, f x)) ∧ ∃ e, es[j]? = some e ∧ e.key = kf k := by
  have hlt : j < l.length := by
    rcases Nat.lt_or_ge j l.length with h' | h'
    · exact h'
    · rw [List.getElem?_eq_none h'] at hj; cases hj
  have hlt' : j < es.toList.length := by have := h.len; simpa [this] using hlt
  obtain ⟨y, hy, hyk, hyv⟩ := h.nth j _ (List.getElem?_eq_getElem hlt')
  rw [hj] at hy
  cases hy
  rcases MapKept.findNow_spec (hk.key k) es.toList 0 (h.keys hk) with ⟨_, h1⟩ | ⟨i, e, h1, h2, h3⟩
  · exact absurd hyk (h1 _ (List.getElem_mem hlt'))
  · obtain ⟨z, hz, h4, h5⟩ := h.nth i e h2
    have hzk : z.1 = k := hk.inj _ _ (h4.symm.trans h3)
    have hij : i = j := by
      have a1 : (l.map (·.1))[i]? = some k := by rw [List.getElem?_map, hz]; simp [hzk]
      have a2 : (l.map (·.1))[j]? = some k := by rw [List.getElem?_map, hj]; simp
      have b1 : i < (l.map (·.1)).length := by
        rcases Nat.lt_or_ge i (l.map (·.1)).length with h' | h'
        · exact h'
        · rw [List.getElem?_eq_none h'] at a1; cases a1
      exact (List.getElem?_inj b1 hn).1 (a1.trans a2.symm)
    subst hij
    rw [hj] at hz
    cases hz
    refine ⟨by rw [h1, h5]; simp, e, by simpa using h2, h3⟩

theorem run_lookup_none {t kt et : TypeId} {d : TypeDesc} {kf : κ → Value} {z : Value} {w : World} (ht : P.underlying t = some (.map kt et)) (hd : P.underlying kt = some d) (hk : KeyKind d kf) (hz : (zeroValue et).run P w = .ok z w) (k : κ) :
    (Instr.lookup t (.map none) (kf k) true).run P w = .ok (.tuple #[z, .bool false]) w ∧ (Instr.lookup t (.map none) (kf k) false).run P w = .ok z w := by
  have hc : (Instr.checkKey true 10000 kt (kf k)).run P w = .ok () w := MapKept.run_checkKey (k := kf k) hd (hk.key k) true 9999
  have hf : Instr.findNow d (kf k) ([] : List MapEntry) 0 = some none := rfl
  constructor <;> simp [Instr.lookup, run_underlying ht, hc, MapKept.run_findKey hd hf, hz, Result.andThen]

theorem run_lookup_miss {t kt et : TypeId} {d : TypeDesc} {kf : κ → Value} {f : α → Value} {z : Value} {w : World} {g clk : Nat} {es : Array MapEntry} {l : List (κ × α)} (ht : P.underlying t = some (.map kt et)) (hd : P.underlying kt = some d) (hk : KeyKind d kf)
    (hz : (zeroValue et).run P w = .ok z w) (hb : w.heap[g]? = some (.map es clk)) (h : Entries es kf f l) (k : κ) (hm : ∀ x ∈ l, x.1 ≠ k) :
    (Instr.lookup t (.map (some g)) (kf k) true).run P w = .ok (.tuple #[z, .bool false]) w ∧ (Instr.lookup t (.map (some g)) (kf k) false).run P w = .ok z w := by
  have hc : ∀ e, (Instr.checkKey e 10000 kt (kf k)).run P w = .ok () w := fun e => MapKept.run_checkKey (k := kf k) hd (hk.key k) e 9999
  have hf := find_miss hk h k hm
  constructor <;> simp [Instr.lookup, run_underlying ht, MapKept.run_getObj_map hb, hc, MapKept.run_findKey hd hf, hz, Result.andThen]

theorem run_lookup_hit {t kt et : TypeId} {d : TypeDesc} {kf : κ → Value} {f : α → Value} {w : World} {g clk : Nat} {es : Array MapEntry} {l : List (κ × α)} (ht : P.underlying t = some (.map kt et)) (hd : P.underlying kt = some d) (hk : KeyKind d kf)
    (hb : w.heap[g]? = some (.map es clk)) (h : Entries es kf f l) (k : κ) (x : α) (j : Nat) (hj : l[j]? = some (k, x)) (hn : (l.map (·.1)).Nodup) :
    (Instr.lookup t (.map (some g)) (kf k) true).run P w = .ok (.tuple #[f x, .bool true]) w ∧ (Instr.lookup t (.map (some g)) (kf k) false).run P w = .ok (f x) w := by
  have hc : ∀ e, (Instr.checkKey e 10000 kt (kf k)).run P w = .ok () w := fun e => MapKept.run_checkKey (k := kf k) hd (hk.key k) e 9999
  have hf := (find_hit hk h k x j hj hn).1
  constructor <;> simp [Instr.lookup, run_underlying ht, MapKept.run_getObj_map hb, hc, MapKept.run_findKey hd hf, Result.andThen]

/-- a store under a new key: one entry more -/
theorem run_store_miss {t kt et : TypeId} {d : TypeDesc} {kf : κ → Value} {f : α → Value} {w : World} {g clk : Nat} {es : Array MapEntry} {l : List (κ × α)} (ht : P.underlying t = some (.map kt et)) (hd : P.underlying kt = some d) (hk : KeyKind d kf)
    (hb : w.heap[g]? = some (.map es clk)) (h : Entries es kf f l) (k : κ) (x : α) (hm : ∀ x ∈ l, x.1 ≠ k) :
    ∃ es' clk', (Instr.mapUpdate t (.map (some g)) (kf k) (f x)).run P w = .ok () (putB w g (.map es' clk')) ∧ Entries es' kf f (l ++ [(k, x)]) := by
  have hc : ∀ e, (Instr.checkKey e 10000 kt (kf k)).run P w = .ok () w := fun e => MapKept.run_checkKey (k := kf k) hd (hk.key k) e 9999
  have hf := find_miss hk h k hm
  refine ⟨es.push { key := kf k, val := f x, born := clk }, clk + 1, ?_, ?_⟩
  · simp [Instr.mapUpdate, run_underlying ht, MapKept.run_getObj_map hb, hc, MapKept.run_findKey hd hf, MapKept.run_setObj_map _ hb, Result.andThen, putB]
  · unfold Entries at *
    simp [h]

/-- a store under a key that is there: its value is another one -/
theorem run_store_hit {t kt et : TypeId} {d : TypeDesc} {kf : κ → Value} {f : α → Value} {w : World} {g clk : Nat} {es : Array MapEntry} {l : List (κ × α)} (ht : P.underlying t = some (.map kt et)) (hd : P.underlying kt = some d) (hk : KeyKind d kf)
    (hb : w.heap[g]? = some (.map es clk)) (h : Entries es kf f l) (k : κ) (x y : α) (j : Nat) (hj : l[j]? = some (k, y)) (hn : (l.map (·.1)).Nodup) :
    ∃ es' clk', (Instr.mapUpdate t (.map (some g)) (kf k) (f x)).run P w = .ok () (putB w g (.map es' clk')) ∧ Entries es' kf f (l.set j (k, x)) := by
  have hc : ∀ e, (Instr.checkKey e 10000 kt (kf k)).run P w = .ok () w := fun e => MapKept.run_checkKey (k := kf k) hd (hk.key k) e 9999
  obtain ⟨hf, e, he, hek⟩ := find_hit hk h k y j hj hn
  refine ⟨es.modify j fun e => { e with key := kf k, val := f x }, clk, ?_, ?_⟩
  · simp [Instr.mapUpdate, run_underlying ht, MapKept.run_getObj_map hb, hc, MapKept.run_findKey hd hf, he, hek, MapKept.run_keyThatStays (hk.key k), MapKept.run_setObj_map _ hb, Result.andThen, putB]
  · have hlt : j < es.toList.length := by
      have : j < es.size := (Array.getElem?_eq_some_iff.1 he).1
      simpa using this
    unfold Entries at *
    apply List.ext_getElem?
    intro i
    have h1 : (es.toList.map (fun e => (e.key, e.val)))[i]? = (l.map (fun x => (kf x.1, f x.2)))[i]? := by rw [h]
    simp only [List.getElem?_map, Array.toList_modify, List.getElem?_modify, List.getElem?_set] at h1 ⊢
    by_cases hij : j = i
    · subst hij
      have hl : j < l.length := by
        rcases Nat.lt_or_ge j l.length with h' | h'
        · exact h'
        · rw [List.getElem?_eq_none h'] at hj; cases hj
      simp [hl, List.getElem?_eq_getElem hlt]
    · simp [hij]
      simpa using h1

theorem wpList_lookup {w : World} {ops : Array Oper} {rest : List Oper} {o : Oper} {a : Act} {Q : Exit → Act → World → Prop} {t : TypeId} {x i : Operand} {ok : Bool} {v : Value} (hgd : o.guard = none)
    (ho : o.op = .lookup t x i ok) (hr : (Instr.lookup t (a.eval x) (a.eval i) ok).run P w = .ok v w) (h : wpList P ops Q rest (a.put o.dst v) w) : wpList P ops Q (o :: rest) a w :=
  wpList_plain hgd fun K hK => by
    unfold Oper.wp execOp
    simp only [ho, Sem.run_bind, Sem.run_pure, Result.andThen_ok, hr]
    exact hK _ _ h

theorem wpList_update {w : World} {ops : Array Oper} {rest : List Oper} {o : Oper} {a : Act} {Q : Exit → Act → World → Prop} {t : TypeId} {m k v : Operand} {g : Nat} {pr : Array MapEntry → Prop} (hgd : o.guard = none)
    (ho : o.op = .mapUpdate t m k v) (hr : ∃ es' clk', (Instr.mapUpdate t (a.eval m) (a.eval k) (a.eval v)).run P w = .ok () (putB w g (.map es' clk')) ∧ pr es')
    (h : ∀ es' clk', pr es' → wpList P ops Q rest (a.put o.dst undef) (putB w g (.map es' clk'))) : wpList P ops Q (o :: rest) a w :=
  wpList_plain hgd fun K hK => by
    obtain ⟨es', clk', hr, hp⟩ := hr
    unfold Oper.wp execOp
    simp only [ho, Sem.run_bind, Sem.run_pure, Result.andThen_ok, hr]
    exact hK _ _ (h es' clk' hp)

theorem slot_cases [DecidableEq κ] (l : List (κ × α)) (k : κ) : (∀ x ∈ l, x.1 ≠ k) ∨ ∃ (j : Nat) (x : α), l[j]? = some (k, x) := by
  by_cases h : ∃ x ∈ l, x.1 = k
  · obtain ⟨⟨k', x⟩, hx, rfl⟩ := h
    obtain ⟨j, hj⟩ := List.getElem?_of_mem hx
    exact .inr ⟨j, x, hj⟩
  · exact .inl fun x hx hk => h ⟨x, hx, hk⟩
end

theorem putB_size (w : World) (b : Nat) (o : Obj) : (putB w b o).heap.size = w.heap.size := by simp [putB]
theorem putB_same (w : World) (b : Nat) (o : Obj) (h : b < w.heap.size) : (putB w b o).heap[b]? = some o := by simp [putB, h]
theorem putB_other (w : World) (b c : Nat) (o : Obj) (h : c ≠ b) : (putB w b o).heap[c]? = w.heap[c]? := by
  simp only [putB]
  rw [Array.getElem?_setIfInBounds_ne (by omega)]
theorem putB_cell (w : World) (b c i : Nat) (o : Obj) (h : c ≠ b) : (putB w b o).cell? ⟨c, i, none⟩ = w.cell? ⟨c, i, none⟩ := by simp [World.cell?, putB_other w b c o h]
theorem putB_ice (w : World) (b c i : Nat) (o : Obj) (h : c ≠ b) : (putB w b o).frozen? ⟨c, i, none⟩ = w.frozen? ⟨c, i, none⟩ := by simp [World.frozen?, putB_other w b c o h]

end Go.Proofs.YtbghpkoimbmijaaGreatDoor

/- append on a row of one's own: where the new row lies. -/
namespace Go.Proofs.YtbghpkoimbmijaaGreatDoor
open Go.RowKit
section
variable {P : Program} {w : World}

theorem ownsRow_form {base : Nat} {e : TypeId} {size : Nat} {v : Value} {n : Nat} {xs : List Value} (h : w.ownsRow base e size v n xs) : ∃ sa cap, v = .slice sa n cap := by
  rcases h.2 with ⟨rfl, rfl⟩ | ⟨g, cap, cur, rfl, _⟩
  · exact ⟨none, 0, rfl⟩
  · exact ⟨_, cap, rfl⟩

theorem run_append_row (t ty e : TypeId) (i : TypeInfo) (z : Value) (size bytes : Nat) (ht : P.underlying t = some (.slice e)) (hi : P.info? e = some i) (hz : i.zero = some z)
    (hsize : i.size = size) (hby : i.bytes = bytes) (hzs : z.cells.size = size) (hsz : 0 < size)
    (v : Value) (n : Nat) (xs : List Value) (hown : w.ownsRow 0 e size v n xs)
    (a : Addr) (m c : Nat) (news : List Value) (hl : news.length = m * size) (hnews : ∀ j u, news[j]? = some u → w.cell? (a.add j) = some u) (h1 : ∀ u ∈ news, u.oneCell' = true)
    (h63 : n + m ≤ maxLen) (hbytes : (n + m) * bytes ≤ 140737488355328) :
    ∃ sa cap w', (Builtin.append_ #[t, t] ty #[v, .slice (some a) m c]).run P w = .ok (.slice sa (n + m) cap) w' ∧ w'.ownsRow 0 e size (.slice sa (n + m) cap) (n + m) (xs ++ news) ∧ w.grownBy w' v.ownBlock ∧
      ((Value.slice sa (n + m) cap).ownBlock = v.ownBlock ∨ ∃ g, (Value.slice sa (n + m) cap).ownBlock = some g ∧ w.heap.size ≤ g) := by
  obtain ⟨v', w', hr, ho, hg, _⟩ := run_append_own (P := P) w 0 t ty e i z size bytes ht hi hz hsize hby hzs hsz v n xs hown a m c news hl hnews h1 h63 hbytes (Nat.zero_le _)
  obtain ⟨sa, cap, rfl⟩ := ownsRow_form ho
  refine ⟨sa, cap, w', hr, ho, hg, ?_⟩
  subst hsize
  subst hby
  have hsmall : n + m ≤ 9223372036854775807 := by simp only [maxLen] at h63; omega
  rcases hown.2 with ⟨rfl, rfl⟩ | ⟨g, cap0, cur, rfl, _, hgb, hnc, hcm, hcs, htake⟩
  · by_cases hm : m = 0
    · subst hm
      left
      rcases ho.2 with ⟨h, _⟩ | ⟨g, cap', cur', h, _, _, _, _, _, _⟩
      · rw [h]
      · cases sa with
        | none => rfl
        | some a' =>
          exfalso
          have hn : news = [] := List.eq_nil_of_length_eq_zero (by simpa using hl)
          have : (Builtin.append_ #[t, t] ty #[.slice none 0 0, .slice (some a) 0 c]).run P w = .ok (.slice none 0 0) w := by
            simp [Builtin.append_, run_underlying ht, sizeOf, typeInfo, hi, Builtin.lenOf, Builtin.firstCells, loadCells, loadCellsFrom]
          rw [this] at hr
          simp at hr
    · right
      have hr2 := run_append_nil (P := P) w t ty e i z ht hi hz a m c news hl hnews (by omega) (by omega) (by have hb := hbytes; simp only [Nat.zero_add] at hb; omega)
      rw [hr2] at hr
      injection hr with h1 h2
      injection h1 with h3 h4 h5
      subst h3
      exact ⟨_, rfl, Nat.le_refl _⟩
  · by_cases hroom : n + m ≤ cap0
    · have hfit : n * i.size + news.length ≤ cur.size := by rw [hl, hcs, ← Nat.add_mul]; exact Nat.mul_le_mul_right _ hroom
      have hr2 := run_append_room (P := P) w t ty e i ht hi g n cap0 cur hgb a m c news hl hnews h1 hroom hfit
      rw [hr2] at hr
      injection hr with h1 h2
      injection h1 with h3 h4 h5
      subst h3
      exact .inl rfl
    · have holds : ∀ j u, xs[j]? = some u → w.cell? ((⟨g, 0, none⟩ : Addr).add j) = some u := hown.cells (g := g) rfl
      have hr2 := run_append_grow (P := P) w t ty e i z ht hi hz ⟨g, 0, none⟩ n cap0 xs hown.1 holds a m c news hl hnews (by omega) (by omega) (growslice_fits (by omega) hbytes)
      rw [hr2] at hr
      injection hr with h1 h2
      injection h1 with h3 h4 h5
      subst h3
      exact .inr ⟨_, rfl, Nat.le_refl _⟩

theorem wp_append_row {o : Oper} {a : Act} {K : Act → World → Prop} {Q : Exit → Act → World → Prop} (s x : Operand) (t : TypeId)
    (ho : o.op = .call { callee := .builtin .append, args := #[s, x], argTypes := #[t, t] })
    (e : TypeId) (i : TypeInfo) (z : Value) (size bytes : Nat) (ht : P.underlying t = some (.slice e)) (hi : P.info? e = some i) (hz : i.zero = some z)
    (hsize : i.size = size) (hby : i.bytes = bytes) (hzs : z.cells.size = size) (hsz : 0 < size)
    (v : Value) (n : Nat) (xs : List Value) (hs : a.eval s = v) (hown : w.ownsRow 0 e size v n xs)
    (ad : Addr) (m c : Nat) (news : List Value) (hx : a.eval x = .slice (some ad) m c) (hl : news.length = m * size) (hnews : ∀ j u, news[j]? = some u → w.cell? (ad.add j) = some u) (h1 : ∀ u ∈ news, u.oneCell' = true)
    (h63 : n + m ≤ maxLen) (hbytes : (n + m) * bytes ≤ 140737488355328)
    (h : ∀ sa cap w', w'.ownsRow 0 e size (.slice sa (n + m) cap) (n + m) (xs ++ news) → w.grownBy w' v.ownBlock →
      ((Value.slice sa (n + m) cap).ownBlock = v.ownBlock ∨ ∃ g, (Value.slice sa (n + m) cap).ownBlock = some g ∧ w.heap.size ≤ g) → K (a.put o.dst (.slice sa (n + m) cap)) w') : o.wp P a w K Q := by
  obtain ⟨sa, cap, w', hr, h2, h3, h4⟩ := run_append_row (P := P) (w := w) t o.type e i z size bytes ht hi hz hsize hby hzs hsz v n xs hown ad m c news hl hnews h1 h63 hbytes
  unfold Oper.wp execOp
  simp only [ho, resolve, invoke, builtin, Sem.run_bind, Sem.run_pure, Result.andThen_ok, List.map_toArray, List.map_cons, List.map_nil, hs, hx, hr]
  exact h sa cap w' h2 h3 h4

theorem wpList_append_row {ops : Array Oper} {rest : List Oper} {o : Oper} {a : Act} {Q : Exit → Act → World → Prop} (hgd : o.guard = none) (s x : Operand) (t : TypeId)
    (ho : o.op = .call { callee := .builtin .append, args := #[s, x], argTypes := #[t, t] })
    (e : TypeId) (i : TypeInfo) (z : Value) (size bytes : Nat) (ht : P.underlying t = some (.slice e)) (hi : P.info? e = some i) (hz : i.zero = some z)
    (hsize : i.size = size) (hby : i.bytes = bytes) (hzs : z.cells.size = size) (hsz : 0 < size)
    (v : Value) (n : Nat) (xs : List Value) (hs : a.eval s = v) (hown : w.ownsRow 0 e size v n xs)
    (ad : Addr) (m c : Nat) (news : List Value) (hx : a.eval x = .slice (some ad) m c) (hl : news.length = m * size) (hnews : ∀ j u, news[j]? = some u → w.cell? (ad.add j) = some u) (h1 : ∀ u ∈ news, u.oneCell' = true)
    (h63 : n + m ≤ maxLen) (hbytes : (n + m) * bytes ≤ 140737488355328)
    (h : ∀ sa cap w', w'.ownsRow 0 e size (.slice sa (n + m) cap) (n + m) (xs ++ news) → w.grownBy w' v.ownBlock →
      ((Value.slice sa (n + m) cap).ownBlock = v.ownBlock ∨ ∃ g, (Value.slice sa (n + m) cap).ownBlock = some g ∧ w.heap.size ≤ g) → wpList P ops Q rest (a.put o.dst (.slice sa (n + m) cap)) w') : wpList P ops Q (o :: rest) a w :=
  wpList_plain hgd fun _ hK => wp_append_row s x t ho e i z size bytes ht hi hz hsize hby hzs hsz v n xs hs hown ad m c news hx hl hnews h1 h63 hbytes fun sa cap w' h2 h3 h4 => hK _ _ (h sa cap w' h2 h3 h4)

theorem cells_new (W : World) (cs : Array Value) (te : TypeId) (b : Nat) (hb : b = W.heap.size) : ∀ (j : Nat) (u : Value), cs.toList[j]? = some u → (W.alloc (.cells cs te)).cell? ((⟨b, 0, none⟩ : Addr).add j) = some u := by
  intro j u hj
  have h1 : (W.alloc (.cells cs te)).heap[b]? = some (.cells cs te (0, 0)) := by rw [hb]; exact alloc_get _ _
  unfold Addr.add
  split
  · rename_i h0
    subst h0
    simp only [World.cell?, h1]
    simpa using hj
  · simp only [World.cell?, h1]
    simpa using hj

/-- append of elements that the operation ahead has laid into a block of their own -/
theorem wpList_append_new {W : World} {cs : Array Value} {te : TypeId} {ops : Array Oper} {rest : List Oper} {o : Oper} {a : Act} {Q : Exit → Act → World → Prop} (hgd : o.guard = none) (s x : Operand) (t : TypeId)
    (ho : o.op = .call { callee := .builtin .append, args := #[s, x], argTypes := #[t, t] })
    (e : TypeId) (i : TypeInfo) (z : Value) (size bytes : Nat) (ht : P.underlying t = some (.slice e)) (hi : P.info? e = some i) (hz : i.zero = some z)
    (hsize : i.size = size) (hby : i.bytes = bytes) (hzs : z.cells.size = size) (hsz : 0 < size)
    (v : Value) (n : Nat) (xs : List Value) (hs : a.eval s = v) (hown : (W.alloc (.cells cs te)).ownsRow 0 e size v n xs)
    (b m c : Nat) (hx : a.eval x = .slice (some ⟨b, 0, none⟩) m c) (hb : b = W.heap.size) (hl : cs.size = m * size) (h1 : ∀ u ∈ cs.toList, u.oneCell' = true)
    (h63 : n + m ≤ maxLen) (hbytes : (n + m) * bytes ≤ 140737488355328)
    (h : ∀ sa cap w', w'.ownsRow 0 e size (.slice sa (n + m) cap) (n + m) (xs ++ cs.toList) → (W.alloc (.cells cs te)).grownBy w' v.ownBlock →
      ((Value.slice sa (n + m) cap).ownBlock = v.ownBlock ∨ ∃ g, (Value.slice sa (n + m) cap).ownBlock = some g ∧ W.heap.size + 1 ≤ g) → wpList P ops Q rest (a.put o.dst (.slice sa (n + m) cap)) w') : wpList P ops Q (o :: rest) a (W.alloc (.cells cs te)) :=
  wpList_append_row hgd s x t ho e i z size bytes ht hi hz hsize hby hzs hsz v n xs hs hown ⟨b, 0, none⟩ m c cs.toList hx (by rw [Array.length_toList]; exact hl) (cells_new W cs te b hb) h1 h63 hbytes
    (fun sa cap w' g1 g2 g3 => h sa cap w' g1 g2 (by simpa only [World.size_alloc] using g3))
end

/-- a block of cells behind a store -/
theorem setCell_block {w : World} {b i : Nat} {cs : Array Value} {t : TypeId} {f : Nat × Nat} (h : w.heap[b]? = some (.cells cs t f)) (v : Value) : (w.setCell ⟨b, i, none⟩ v).heap[b]? = some (.cells (cs.setIfInBounds i v) t f) := by
  simp [World.setCell, Array.getElem?_modify, h]
theorem setCell_other {w : World} {b c i : Nat} (h : c ≠ b) (v : Value) : (w.setCell ⟨b, i, none⟩ v).heap[c]? = w.heap[c]? := Below.heap_setCell _ _ _ _ (by simpa using h)
theorem setCell_size (w : World) (a : Addr) (v : Value) : (w.setCell a v).heap.size = w.heap.size := by simp [World.setCell]
end Go.Proofs.YtbghpkoimbmijaaGreatDoor

/- Words of no program: a world of which just some blocks were written. -/
namespace Go.Proofs.YtbghpkoimbmijaaGreatDoor
open Go.RowKit

theorem lt_of_heap {w : World} {g : Nat} {o : Obj} (h : w.heap[g]? = some o) : g < w.heap.size := by
  rcases Nat.lt_or_ge g w.heap.size with h' | h'
  · exact h'
  · simp [Array.getElem?_eq_none h'] at h
theorem Up.get {w w' : World} (hu : Up w w') {g : Nat} {o : Obj} (h : w.heap[g]? = some o) : w'.heap[g]? = some o := by
  rw [hu.block g (lt_of_heap h)]; exact h
theorem cell_of {w : World} {b : Nat} {cs : Array Value} {t : TypeId} {f : Nat × Nat} (h : w.heap[b]? = some (.cells cs t f)) (i : Nat) : w.cell? ⟨b, i, none⟩ = cs[i]? := by
  simp [World.cell?, h]
theorem ice_of {w : World} {b : Nat} {cs : Array Value} {t : TypeId} (h : w.heap[b]? = some (.cells cs t (0, 0))) (i : Nat) : w.frozen? ⟨b, i, none⟩ = false := by
  simp [World.frozen?, h]
theorem alloc_keep {W : World} {c : Nat} {o p : Obj} (h : W.heap[c]? = some p) : (W.alloc o).heap[c]? = some p := by rw [alloc_old W o c (lt_of_heap h)]; exact h
theorem cell_lt3 {w : World} {b o : Nat} {v : Value} (h : w.cell? ⟨b, o, none⟩ = some v) : b < w.heap.size := by
  rcases Nat.lt_or_ge b w.heap.size with h' | h'
  · exact h'
  · simp [World.cell?, Array.getElem?_eq_none h'] at h
theorem alloc_at (W : World) (o : Obj) (n : Nat) (h : n = W.heap.size) : (W.alloc o).heap[n]? = some o := by subst h; exact alloc_get _ _
structure Kept (S : Nat → Prop) (w w' : World) : Prop where
  os : w'.os = w.os
  tape : w'.tape = w.tape
  output : w'.output = w.output
  size : w.heap.size ≤ w'.heap.size
  block : ∀ b, b < w.heap.size → ¬ S b → w'.heap[b]? = w.heap[b]?
theorem Kept.refl (S : Nat → Prop) (w : World) : Kept S w w := ⟨rfl, rfl, rfl, Nat.le_refl _, fun _ _ _ => rfl⟩
theorem Kept.trans {S : Nat → Prop} {a b c : World} (h : Kept S a b) (k : Kept S b c) : Kept S a c :=
  ⟨k.os.trans h.os, k.tape.trans h.tape, k.output.trans h.output, Nat.le_trans h.size k.size, fun x hx hn => (k.block x (Nat.lt_of_lt_of_le hx h.size) hn).trans (h.block x hx hn)⟩
theorem Kept.up {S : Nat → Prop} {a b c : World} (h : Kept S a b) (k : Up b c) : Kept S a c := h.trans ⟨k.os, k.tape, k.output, k.size, fun x hx _ => k.block x hx⟩
theorem Kept.of_up {S : Nat → Prop} {a b : World} (k : Up a b) : Kept S a b := ⟨k.os, k.tape, k.output, k.size, fun x hx _ => k.block x hx⟩
theorem Kept.alloc {S : Nat → Prop} {a w : World} (h : Kept S a w) (o : Obj) : Kept S a (w.alloc o) := h.up ((Up.refl w).alloc o)
theorem Kept.drew {S : Nat → Prop} {a w : World} (h : Kept S a w) : Kept S a w.drew := h.up (Up.refl w).drew
theorem Kept.drewN {S : Nat → Prop} {a w : World} (h : Kept S a w) (n : Nat) : Kept S a (w.drewN n) := h.up ((Up.refl w).drewN n)
theorem Kept.setCell {S : Nat → Prop} {a w : World} (h : Kept S a w) {p : Addr} (hp : S p.block ∨ a.heap.size ≤ p.block) (v : Value) : Kept S a (w.setCell p v) :=
  ⟨h.os, h.tape, h.output, by rw [setCell_size]; exact h.size, fun b hb hn => by
    rw [Below.heap_setCell _ _ _ _ (fun e => by
      subst e
      rcases hp with hp | hp
      · exact hn hp
      · omega)]
    exact h.block b hb hn⟩
theorem Kept.putB {S : Nat → Prop} {a w : World} (h : Kept S a w) {g : Nat} (hp : S g ∨ a.heap.size ≤ g) (o : Obj) : Kept S a (putB w g o) :=
  ⟨h.os, h.tape, h.output, by rw [putB_size]; exact h.size, fun b hb hn => by
    rw [putB_other _ _ _ _ (fun e => by
      subst e
      rcases hp with hp | hp
      · exact hn hp
      · omega)]
    exact h.block b hb hn⟩
theorem Kept.grow {S : Nat → Prop} {a w w' : World} {r : Option Nat} (h : Kept S a w) (hg : w.grownBy w' r) (hp : ∀ k, r = some k → S k ∨ a.heap.size ≤ k) : Kept S a w' :=
  ⟨hg.os.trans h.os, hg.tape.trans h.tape, hg.output.trans h.output, Nat.le_trans h.size hg.size, fun b hb hn => by
    rw [hg.block b (Nat.lt_of_lt_of_le hb h.size) (fun e => by
      rcases hp b e.symm with hp | hp
      · exact hn hp
      · omega)]
    exact h.block b hb hn⟩
theorem Kept.mono {S T : Nat → Prop} {a b : World} (h : Kept S a b) (hs : ∀ x, x < a.heap.size → S x → T x) : Kept T a b := ⟨h.os, h.tape, h.output, h.size, fun x hx hn => h.block x hx fun hs' => hn (hs x hx hs')⟩
theorem Kept.get {S : Nat → Prop} {a b : World} (h : Kept S a b) {x : Nat} {o : Obj} (hx : a.heap[x]? = some o) (hn : ¬ S x) : b.heap[x]? = some o := by
  rw [h.block x (lt_of_heap hx) hn]; exact hx
theorem ownsRow_keep {w w' : World} {base : Nat} {e : TypeId} {size : Nat} {v : Value} {n : Nat} {xs : List Value} (h : w.ownsRow base e size v n xs) (hk : ∀ g, v.ownBlock = some g → w'.heap[g]? = w.heap[g]?) : w'.ownsRow base e size v n xs := by
  obtain ⟨h1, h2⟩ := h
  refine ⟨h1, ?_⟩
  rcases h2 with h2 | ⟨g, cap, cur, hv, hg, hc, r⟩
  · exact .inl h2
  · exact .inr ⟨g, cap, cur, hv, hg, by rw [hk g (by rw [hv]; rfl)]; exact hc, r⟩
theorem grown_get {W w2 : World} {r : Option Nat} {b : Nat} {o : Obj} (hg : W.grownBy w2 r) (h : W.heap[b]? = some o) (hne : r ≠ some b) : w2.heap[b]? = some o := by
  rw [hg.block b (lt_of_heap h) (fun e => hne e.symm)]; exact h
theorem ownsRow_up {w w' : World} {base : Nat} {e : TypeId} {size : Nat} {v : Value} {n : Nat} {xs : List Value} (h : w.ownsRow base e size v n xs) (hu : Up w w') : w'.ownsRow base e size v n xs := by
  obtain ⟨h1, h2⟩ := h
  refine ⟨h1, ?_⟩
  rcases h2 with h2 | ⟨g, cap, cur, hv, hg, hc, r⟩
  · exact .inl h2
  · exact .inr ⟨g, cap, cur, hv, hg, hu.get hc, r⟩
theorem wp_region_tail {P : Program} {id : Nat} {Q : Exit → Act → World → Prop} {a : Act} {w : World} {l : List Oper} (n : Nat) (hm : P.follows .mixedOrders = true) (hB : Region.lexTailB .any l.toArray n = true)
    (h : wpStill P l.toArray w.drew (fun a' => wpList P l.toArray Q (l.drop n) a' w.drew) (l.take n) a) : (Code.region id l.toArray true).wp P Q a w := wp_region_still_tail n hm hB h
theorem Up.grownBy {a b : World} (h : Up a b) (row : Option Nat) : a.grownBy b row := ⟨h.os, h.tape, h.output, h.size, fun i hi _ => h.block i hi⟩
theorem keep_own {W W' : World} {row : Option Nat} {B b : Nat} {cs : Array Value} {t : TypeId} {f : Nat × Nat} (h : W.heap[b]? = some (.cells cs t f)) (hg : W.grownBy W' row) (hr : ∀ r, row = some r → B ≤ r ∧ ∃ o : Obj, W.heap[r]? = some o ∧ o.isCells = false) : W'.heap[b]? = some (.cells cs t f) := by
  rw [hg.block b (lt_of_heap h) (fun e => by
    obtain ⟨_, o, h1, h2⟩ := hr b e.symm
    rw [h] at h1; cases h1; cases h2)]
  exact h
theorem Up.grown {a W W' : World} {row : Option Nat} (h : Up a W) (hg : W.grownBy W' row) (hr : ∀ r, row = some r → a.heap.size ≤ r) : Up a W' :=
  ⟨hg.os.trans h.os, hg.tape.trans h.tape, hg.output.trans h.output, Nat.le_trans h.size hg.size, fun b hb => (hg.block b (Nat.lt_of_lt_of_le hb h.size) (fun e => by have := hr b e.symm; omega)).trans (h.block b hb)⟩
theorem range_named {P : Program} {c : Code} {Q : Exit → Act → World → Prop} {a : Act} {w : World} (h : ∀ (A : Act) (W : World), A = a → W = w → c.wp P Q A W) : c.wp P Q a w := h a w rfl rfl
theorem slice_form {w : World} {base : Nat} {e : TypeId} {size : Nat} {v : Value} {n : Nat} {xs : List Value} (h : w.ownsRow base e size v n xs) : ∃ ao cap, v = .slice ao n cap := ownsRow_form h

end Go.Proofs.YtbghpkoimbmijaaGreatDoor

/- Walks: types without parts: made, basic, word, text. -/
namespace Go.Proofs.YtbghpkoimbmijaaGreatDoor
open Go.RowKit
set_option linter.unusedSimpArgs false

abbrev TyT : TypeId := 73
abbrev TpT : TypeId := 63
/-- the cells of one of the ten -/
abbrev leafC (k : Int) (s : ByteArray) : Array Value := #[.int .i64 k, .int .i64 0, .string ⟨#[]⟩, .slice none 0 0, .slice none 0 0, .slice none 0 0, .int .i64 1, .string s]
def Leaf (w : World) (b : Nat) (k : Int) (s : ByteArray) : Prop := w.heap[b]? = some (.cells (leafC k s) TyT (0, 0))

def wordS (k : Int) : ByteArray :=
  if k = 1 then ⟨#[97, 110, 121]⟩ else if k = 2 then ⟨#[117, 110, 107, 110, 111, 119, 110]⟩ else if k = 3 then ⟨#[110, 101, 118, 101, 114]⟩ else if k = 4 then ⟨#[118, 111, 105, 100]⟩
  else if k = 5 then ⟨#[117, 110, 100, 101, 102, 105, 110, 101, 100]⟩ else if k = 6 then ⟨#[110, 117, 108, 108]⟩ else if k = 7 then ⟨#[110, 117, 109, 98, 101, 114]⟩ else if k = 8 then ⟨#[115, 116, 114, 105, 110, 103]⟩
  else if k = 9 then ⟨#[116, 114, 117, 101]⟩ else ⟨#[102, 97, 108, 115, 101]⟩

theorem idx_word (k : Int) (h1 : 1 ≤ k) (h2 : k ≤ 10) : ∀ w : World, (Instr.index 153 (.agg #[.string ⟨#[97, 110, 121]⟩, .string ⟨#[117, 110, 107, 110, 111, 119, 110]⟩, .string ⟨#[110, 101, 118, 101, 114]⟩, .string ⟨#[118, 111, 105, 100]⟩, .string ⟨#[117, 110, 100, 101, 102, 105, 110, 101, 100]⟩, .string ⟨#[110, 117, 108, 108]⟩, .string ⟨#[110, 117, 109, 98, 101, 114]⟩, .string ⟨#[115, 116, 114, 105, 110, 103]⟩, .string ⟨#[116, 114, 117, 101]⟩, .string ⟨#[102, 97, 108, 115, 101]⟩]) (.int .i64 (k - 1))).run Tryz.prog w = .ok (.string (wordS k)) w := by
  have hk : k = 1 ∨ k = 2 ∨ k = 3 ∨ k = 4 ∨ k = 5 ∨ k = 6 ∨ k = 7 ∨ k = 8 ∨ k = 9 ∨ k = 10 := by omega
  clear h1 h2
  intro w
  rcases hk with rfl | rfl | rfl | rfl | rfl | rfl | rfl | rfl | rfl | rfl <;> kernel_rfl

set_option maxRecDepth 100000 in
set_option maxHeartbeats 1600000 in
theorem word_any (k : Int) (h1 : 1 ≤ k) (h2 : k ≤ 10) (w : World) : Calls Tryz.prog 77 #[.int .i64 k] w fun e w' => e = .returned (.string (wordS k)) ∧ Up w w' := by
  have i0 := idx_word k h1 h2
  obtain ⟨s, hs⟩ : ∃ s, Hid (wordS k = s) := ⟨_, rfl⟩
  rw [hs.out] at i0 ⊢
  go_enter Tryz.func77, Tryz.ntmps77
  go_wp2_with fail
  go_ret
  exact ⟨rfl, uq⟩

/-- a size, reckoned -/
def sizeL (n : Nat) (l : List (Nat × Nat)) : Nat := l.foldl (fun a x => min (a + x.2) 1099511627776) n
theorem sizeL_le : ∀ (l : List (Nat × Nat)) (n : Nat), n ≤ 1099511627776 → sizeL n l ≤ 1099511627776
  | [], _, h => h
  | _ :: l, _, _ => sizeL_le l _ (Nat.min_le_right _ _)

/-- parts: a row of pointers to blocks, each with its size -/
structure Parts (w : World) (pv : Value) (ps : List (Nat × Nat)) : Prop where
  form : ∃ pa cap, pv = .slice pa ps.length cap
  at_ : ∀ (j : Nat) (x : Nat × Nat), ps[j]? = some x → ∃ g off cap, pv = .slice (some ⟨g, off, none⟩) ps.length cap ∧ g < w.heap.size ∧ w.cell? ⟨g, off + j, none⟩ = some (.pointer (some ⟨x.1, 0, none⟩)) ∧ x.1 < w.heap.size ∧ w.cell? ⟨x.1, 6, none⟩ = some (.int .i64 x.2) ∧ x.2 ≤ 1099511627776
  few : ps.length ≤ 1000000000
theorem Parts.up {w w' : World} {pv : Value} {ps : List (Nat × Nat)} (h : Parts w pv ps) (k : Up w w') : Parts w' pv ps :=
  ⟨h.form, fun j x hx => let ⟨g, off, cap, h1, h2, h3, h4, h5, h6⟩ := h.at_ j x hx; ⟨g, off, cap, h1, Nat.lt_of_lt_of_le h2 k.size, (k.cells _ _ h2).trans h3, Nat.lt_of_lt_of_le h4 k.size, (k.cells _ _ h4).trans h5, h6⟩, h.few⟩
theorem Parts.nil (w : World) : Parts w (.slice none 0 0) [] := ⟨⟨_, 0, rfl⟩, fun j x hx => by simp at hx, by simp⟩

set_option maxRecDepth 100000 in
set_option maxHeartbeats 3200000 in
theorem made_any (k n : Int) (nm : ByteArray) (pv nv mv : Value) (ps : List (Nat × Nat)) (w : World) (h : Parts w pv ps) (hn : ∃ a l c, nv = .slice a l c) (hm : ∃ a l c, mv = .slice a l c) :
    Calls Tryz.prog 26 #[.agg #[.int .i64 k, .int .i64 n, .string nm, pv, nv, mv, .int .i64 0, .string ⟨#[]⟩]] w fun e w' => ∃ b, e = .returned (.pointer (some ⟨b, 0, none⟩)) ∧ w'.heap[b]? = some (.cells #[.int .i64 k, .int .i64 n, .string nm, pv, nv, mv, .int .i64 (sizeL 1 ps), .string ⟨#[]⟩] TyT (0, 0)) ∧ w.heap.size ≤ b ∧ Up w w' := by
  obtain ⟨a1, l1, c1, rfl⟩ := hn
  obtain ⟨a2, l2, c2, rfl⟩ := hm
  have HP := Lib.hid h
  obtain ⟨pa, cap, rfl⟩ := h.form
  have hfew := h.few
  have X0 := Lib.hid (alloc_get w (.cells #[.int .i64 k, .int .i64 n, .string nm, .slice pa ps.length cap, .slice a1 l1 c1, .slice a2 l2 c2, .int .i64 0, .string ⟨#[]⟩] TyT (0, 0)))
  clear h
  obtain ⟨tot, htot⟩ : ∃ tot, Hid (sizeL 1 ps = tot) := ⟨_, rfl⟩
  rw [htot.out]
  go_enter Tryz.func26, Tryz.ntmps26
  go_wp2_with fail
  refine range_named fun A W hA hW => ?_
  have hUW : Up w W := by subst hW; exact uq
  have hb : W.heap[w.heap.size]? = some (.cells #[.int .i64 k, .int .i64 n, .string nm, .slice pa ps.length cap, .slice a1 l1 c1, .slice a2 l2 c2, .int .i64 (1 : Nat), .string ⟨#[]⟩] TyT (0, 0)) := by
    subst hW
    exact alloc_get _ _
  clear hW
  subst hA
  go_loopw [9] (fun i wr => ∃ (j m : Nat), j ≤ ps.length ∧ i = .int .i64 j ∧ m ≤ 1099511627776 ∧ Hid (sizeL m (ps.drop j) = tot) ∧ wr.heap[w.heap.size]? = some (.cells #[.int .i64 k, .int .i64 n, .string nm, .slice pa ps.length cap, .slice a1 l1 c1, .slice a2 l2 c2, .int .i64 m, .string ⟨#[]⟩] TyT (0, 0)) ∧ Up w wr) (fun i _ => ps.length - (intOf i).toNat)
  case atStart => exact ⟨0, 1, Nat.zero_le _, rfl, by omega, by unfold Hid; rw [List.drop_zero]; exact htot.out, hb, hUW⟩
  case round =>
    obtain ⟨j, m, hj, rfl, hm, hq, hbr, hup⟩ := hrel
    by_cases hlt : j < ps.length
    · have hji : (j : Int) < ps.length := by omega
      obtain ⟨x, hx⟩ : ∃ x, ps[j]? = some x := ⟨_, List.getElem?_eq_getElem hlt⟩
      obtain ⟨g, off, cap2, he, hg, hc, hxl, hs, hs2⟩ := HP.out.at_ j x hx
      cases he
      have y0 := (hup.cells _ _ hg).trans hc
      have y1 := (hup.cells _ _ hxl).trans hs
      have hcons : ps.drop j = x :: ps.drop (j + 1) := by
        rw [List.drop_eq_getElem_cons hlt, (List.getElem?_eq_some_iff.1 hx).2]
      have hnext : Hid (sizeL (min (m + x.2) 1099511627776) (ps.drop (j + 1)) = tot) := by
        unfold Hid
        rw [← hq.out, hcons]
        rfl
      have HB := Lib.hid hbr
      have b6 := cell_of hbr 6
      have f6 := ice_of hbr 6
      have hbl := lt_of_heap hbr
      simp only [List.getElem?_toArray, List.getElem?_cons_zero, List.getElem?_cons_succ] at b6
      have i1 : (m : Int) ≤ 1099511627776 := by omega
      have i2 : (x.2 : Int) ≤ 1099511627776 := by omega
      clear hx hc hs hcons hq hbr hlt
      go_wp2_with fail
      have b6 : wr.drew.cell? ⟨w.heap.size, 6, none⟩ = some (.int .i64 m) := b6
      have y1 : wr.drew.cell? ⟨x.1, 6, none⟩ = some (.int .i64 x.2) := y1
      (refine wp_region_tail 9 (by kernel_rfl) (by kernel_rfl) ?_; simp only [List.take_succ_cons, List.take_zero, List.drop_succ_cons, List.drop_zero]; (repeat still_step); refine wpStill_nil ?_)
      go_wp2_with fail
      have e : (if 1099511627776 < (m : Int) + x.2 then (1099511627776 : Int) else (m : Int) + x.2) = ((min (m + x.2) 1099511627776 : Nat) : Int) := by split <;> omega
      have q := setCell_block (i := 6) (show wr.drew.heap[w.heap.size]? = _ from HB.out) (.int .i64 ((min (m + x.2) 1099511627776 : Nat) : Int))
      exact ⟨⟨j + 1, min (m + x.2) 1099511627776, by omega, by simp, Nat.min_le_right _ _, hnext, by rw [e]; exact q, uq⟩, by simp [intOf]; omega⟩
    · obtain rfl : j = ps.length := by omega
      have hend : m = tot := by
        rw [← hq.out, List.drop_length]
        rfl
      subst hend
      clear hq hlt
      go_wp2_with fail
      refine bodyPost_eq (by (simp [results, Tryz.results26, go_sem, *]) <;> rfl) rfl rfl ?_
      exact ⟨_, rfl, hbr, Nat.le_refl _, uq⟩

end Go.Proofs.YtbghpkoimbmijaaGreatDoor

/- Walks: types without parts: basic, spelled, text. -/
namespace Go.Proofs.YtbghpkoimbmijaaGreatDoor
open Go.RowKit
set_option linter.unusedSimpArgs false

set_option maxHeartbeats 1600000 in
theorem basic_any (k : Int) (w : World) : Calls Tryz.prog 22 #[.int .i64 k] w fun e w' => ∃ b, e = .returned (.pointer (some ⟨b, 0, none⟩)) ∧ Leaf w' b k ⟨#[]⟩ ∧ w.heap.size ≤ b ∧ Up w w' := by
  go_enter Tryz.func22, Tryz.ntmps22
  go_wp2_with (first | (go_at_call 26; refine (made_any k 0 ⟨#[]⟩ (.slice none 0 0) (.slice none 0 0) (.slice none 0 0) [] _ (Parts.nil _) ⟨_, _, _, rfl⟩ ⟨_, _, _, rfl⟩).mono ?_; rintro e w2 ⟨b, rfl, hb, hl, hu2⟩))
  go_ret
  exact ⟨b, rfl, hb, hl, uq⟩

set_option maxRecDepth 100000 in
set_option maxHeartbeats 1600000 in
theorem spelled_leaf (b : Nat) (k : Int) (s : ByteArray) (h1 : 1 ≤ k) (h2 : k ≤ 10) (w : World) (h : Leaf w b k s) : Calls Tryz.prog 53 #[.pointer (some ⟨b, 0, none⟩)] w fun e w' => e = .returned (.string (wordS k)) ∧ Up w w' := by
  have HK := Lib.hid (And.intro h1 h2)
  have e11 : (k == 11) = false := by simp; omega
  have e12 : (k == 12) = false := by simp; omega
  have e13 : (k == 13) = false := by simp; omega
  have e14 : (k == 14) = false := by simp; omega
  have e15 : (k == 15) = false := by simp; omega
  have e16 : (k == 16) = false := by simp; omega
  have e17 : (k == 17) = false := by simp; omega
  have e18 : (k == 18) = false := by simp; omega
  have e19 : (k == 19) = false := by simp; omega
  have e20 : (k == 20) = false := by simp; omega
  have e21 : (k == 21) = false := by simp; omega
  have e22 : (k == 22) = false := by simp; omega
  have e23 : (k == 23) = false := by simp; omega
  have a0 := cell_of h 0
  have a4 := lt_of_heap h
  simp only [List.getElem?_toArray, List.getElem?_cons_zero, List.getElem?_cons_succ] at a0
  clear h h1 h2
  go_enter Tryz.func53, Tryz.ntmps53
  go_wp2_with (first | (go_at_call 77; refine (word_any k HK.out.1 HK.out.2 _).mono ?_; rintro e w2 ⟨rfl, hu2⟩))
  go_ret
  exact ⟨rfl, uq⟩

set_option maxHeartbeats 1600000 in
theorem text_leaf (b : Nat) (k : Int) (h1 : 1 ≤ k) (h2 : k ≤ 10) (w : World) (h : Leaf w b k ⟨#[]⟩) : Calls Tryz.prog 34 #[.pointer (some ⟨b, 0, none⟩)] w fun e w' => e = .returned (.string (wordS k)) ∧ Leaf w' b k (wordS k) ∧ Kept (fun x => x = b) w w' := by
  have HK := Lib.hid (And.intro h1 h2)
  have HL := Lib.hid h
  have a7 := cell_of h 7
  have f7 := ice_of h 7
  have a4 := lt_of_heap h
  simp only [List.getElem?_toArray, List.getElem?_cons_zero, List.getElem?_cons_succ] at a7
  clear h h1 h2
  go_enter Tryz.func34, Tryz.ntmps34
  go_wp2_with (first | (go_at_call 53; refine (spelled_leaf b k ⟨#[]⟩ HK.out.1 HK.out.2 _ HL.out).mono ?_; rintro e w2 ⟨rfl, hu2⟩; have HL2 := Lib.hid (hu2.get HL.out); have f7 := ice_of HL2.out 7; have a7 := cell_of HL2.out 7; simp only [List.getElem?_toArray, List.getElem?_cons_zero, List.getElem?_cons_succ] at a7; have a4 := lt_of_heap HL2.out))
  go_ret
  refine ⟨rfl, ?_, Kept.setCell (S := fun x => x = b) (p := ⟨b, 7, none⟩) (Kept.of_up hu2) (.inl rfl) _⟩
  have q := setCell_block (i := 7) HL2.out (.string (wordS k))
  exact q

set_option maxHeartbeats 1600000 in
theorem text_said (b : Nat) (s : ByteArray) (hs : (s.toList == []) = false) (w : World) (h : w.cell? ⟨b, 7, none⟩ = some (.string s)) : Calls Tryz.prog 34 #[.pointer (some ⟨b, 0, none⟩)] w fun e w' => e = .returned (.string s) ∧ w = w' := by
  go_enter Tryz.func34, Tryz.ntmps34
  go_wp2_with fail
  go_ret
  exact ⟨rfl, rfl⟩

end Go.Proofs.YtbghpkoimbmijaaGreatDoor
