import Derived.Lib.Builder
import Derived.Lib.AppendStr
import Derived.Lib.UnsafeStr
import Derived.Laws.Externs
import Derived.Shelf.RegionOpenPlain
import Derived.Test.YtmbipadiaggolaaGreatDoorM02
import Derived.Test.YtmbipadiaggolaaGreatDoorM05
/- YtmbipadiaggolaaGreatDoorM08: lemmas of the proof, in order: ShowA. -/
/- The text that Show lays: a strings.Builder within a shower. -/
namespace Go.Proofs.YtmbipadiaggolaaGreatDoor
open Go.RowKit
set_option linter.unusedSimpArgs false

abbrev ShT : TypeId := 74
abbrev ByT : TypeId := 5

theorem infoByte : (Tryz.prog.info? ByT).map (fun i => (i.zero, i.size, i.bytes)) = some (some (.int .u8 0), 1, 1) := by kernel_rfl
theorem infoB : (Tryz.prog.info? 72).map (·.size) = some 2 := by kernel_rfl
theorem liesB : liesAt Tryz.prog Tryz.prog.depth ShT (3 / Tryz.prog.cellsOf ShT) 1 72 1 = true := by kernel_rfl

/-- which block the buffer lies in -/
def bufOf (w : World) (sb : Nat) : Option Nat :=
  match w.heap[sb]? with
  | some (.cells cs _ _) => (cs[2]?).bind Value.ownBlock
  | _ => none

theorem bufOf_eq {w : World} {sb : Nat} {h p v : Value} {t : TypeId} {f : Nat × Nat} (e : w.heap[sb]? = some (.cells #[h, p, v] t f)) : bufOf w sb = v.ownBlock := by simp [bufOf, e]
theorem bufOf_up {w w' : World} {sb : Nat} (e : w'.heap[sb]? = w.heap[sb]?) : bufOf w' sb = bufOf w sb := by simp [bufOf, e]

/-- a shower at sb, whose text is bs -/
structure ShowAt (B sb : Nat) (hv : Value) (bs : List UInt8) (w : World) : Prop where
  base : B ≤ sb
  room : B ≤ w.heap.size
  there : ∃ p v, w.heap[sb]? = some (.cells #[hv, p, v] ShT (0, 0)) ∧ (p = .pointer none ∨ p = .pointer (some ⟨sb, 1, none⟩)) ∧ w.ownsRow B ByT 1 v bs.length (Lib.byteCells bs) ∧ v.ownBlock ≠ some sb

/-- what a call that lays text keeps -/
structure Showed (sb : Nat) (w w' : World) : Prop where
  kept : Kept (fun b => b = sb ∨ bufOf w sb = some b) w w'
  buf : ∀ b, bufOf w' sb = some b → bufOf w sb = some b ∨ w.heap.size ≤ b

theorem Showed.refl (sb : Nat) (w : World) : Showed sb w w := ⟨Kept.refl _ _, fun _ h => .inl h⟩
theorem Showed.trans {sb : Nat} {a b c : World} (h : Showed sb a b) (k : Showed sb b c) : Showed sb a c where
  kept := ⟨k.kept.os.trans h.kept.os, k.kept.tape.trans h.kept.tape, k.kept.output.trans h.kept.output, Nat.le_trans h.kept.size k.kept.size, fun x hx hn =>
    (k.kept.block x (Nat.lt_of_lt_of_le hx h.kept.size) (fun e => by
      rcases e with e | e
      · exact hn (.inl e)
      · rcases h.buf x e with e | e
        · exact hn (.inr e)
        · omega)).trans (h.kept.block x hx hn)⟩
  buf := fun x e => by
    rcases k.buf x e with e | e
    · exact h.buf x e
    · exact .inr (Nat.le_trans h.kept.size e)
theorem Showed.up {sb : Nat} {a b c : World} (h : Showed sb a b) (k : Up b c) (hsb : sb < b.heap.size) : Showed sb a c :=
  h.trans ⟨Kept.of_up k, fun x e => .inl (by rw [← e]; exact (bufOf_up (k.block sb hsb)).symm)⟩
theorem Showed.of_up {sb : Nat} {a b : World} (k : Up a b) (hsb : sb < a.heap.size) : Showed sb a b := (Showed.refl sb a).up k hsb
theorem Showed.get {sb : Nat} {a b : World} (h : Showed sb a b) {x : Nat} {o : Obj} (hx : a.heap[x]? = some o) (h1 : x ≠ sb) (h2 : bufOf a sb ≠ some x) : b.heap[x]? = some o :=
  h.kept.get hx (fun e => e.elim h1 h2)

theorem ShowAt.lt {B sb : Nat} {hv : Value} {bs : List UInt8} {w : World} (h : ShowAt B sb hv bs w) : sb < w.heap.size := by
  obtain ⟨p, v, h1, _⟩ := h.there
  exact lt_of_heap h1
theorem ShowAt.buf {B sb : Nat} {hv : Value} {bs : List UInt8} {w : World} (h : ShowAt B sb hv bs w) (b : Nat) (e : bufOf w sb = some b) : B ≤ b ∧ b < w.heap.size := by
  obtain ⟨p, v, h1, _, h3, _⟩ := h.there
  rw [bufOf_eq h1] at e
  exact h3.lt b e
theorem ShowAt.up {B sb : Nat} {hv : Value} {bs : List UInt8} {w w' : World} (h : ShowAt B sb hv bs w) (k : Up w w') : ShowAt B sb hv bs w' := by
  obtain ⟨p, v, h1, h2, h3, h4⟩ := h.there
  refine ⟨h.base, Nat.le_trans h.room k.size, p, v, k.get h1, h2, ⟨h3.1, ?_⟩, h4⟩
  rcases h3.2 with h5 | ⟨g, cap, cur, hv, hg, hc, r⟩
  · exact .inl h5
  · exact .inr ⟨g, cap, cur, hv, hg, k.get hc, r⟩
/-- what lay below the base lies as it lay -/
theorem Showed.below {B sb : Nat} {hv : Value} {bs : List UInt8} {w w' : World} (k : Showed sb w w') (h : ShowAt B sb hv bs w) (b : Nat) (hb : b < B) : w'.heap[b]? = w.heap[b]? :=
  k.kept.block b (Nat.lt_of_lt_of_le hb h.room) (fun e => by
    rcases e with e | e
    · have := h.base; omega
    · have := (h.buf b e).1; omega)

theorem hrep_show {w w' : World} {hv : Value} {H : HM} {tvs : List Value} {own : Own} (h : HRep w hv H tvs own) {B : Nat} (hB : ∀ b m, own b = some m → b < B) (hz : w.heap.size ≤ w'.heap.size) (hk : ∀ b, b < B → w'.heap[b]? = w.heap[b]?) : HRep w' hv H tvs own := by
  cases h with
  | nil => exact .nil
  | some hb _ _ _ h =>
    refine .some hb _ _ _ ?_
    exact {
      lt := fun b m hm => Nat.lt_of_lt_of_le (h.lt b m hm) hz
      mine := h.mine
      head := by
        obtain ⟨sv, h1, h2⟩ := h.head
        exact ⟨sv, by rw [hk hb (hB _ _ h.mine)]; exact h1, h2.keep fun b hb' => ⟨hk b (hB _ _ hb'), rfl⟩⟩
      len := h.len
      things := fun i t ht => by
        obtain ⟨tv, h3, h4⟩ := h.things i t ht
        refine ⟨tv, h3, h4.keep ?_ (fun _ _ => rfl) fun b m hm _ => ⟨hk b (hB _ _ hm), rfl⟩⟩
        have := h.len
        rcases Nat.lt_or_ge i H.things.length with h' | h'
        · omega
        · rw [List.getElem?_eq_none h'] at ht; cases ht
      room0 := h.room0
      roomU := h.roomU
      roomM := h.roomM
      few := h.few }

set_option maxRecDepth 100000 in
set_option maxHeartbeats 1000000 in
theorem copyCheck_used (sb : Nat) (w : World) (h0 : w.cell? ⟨sb, 1, none⟩ = some (.pointer (some ⟨sb, 1, none⟩))) :
    Calls Tryz.prog 81 #[.pointer (some ⟨sb, 1, none⟩)] w fun e w' => e = .returned (.tuple #[]) ∧ w' = w := by
  obtain ⟨j, hj, _⟩ := Option.map_eq_some_iff.1 infoB
  go_enter Tryz.func81, Tryz.ntmps81
  go_wp2
  rw [Lib.run_neq_ptr_same w _ Tryz.underlying69 hj]
  go_wp2
  go_end0
  exact ⟨rfl, rfl⟩

set_option maxRecDepth 100000 in
set_option maxHeartbeats 1000000 in
theorem copyCheck_fresh (sb : Nat) (w : World) (h0 : w.cell? ⟨sb, 1, none⟩ = some (.pointer none)) (hsh : w.shape? sb = some (ShT, 3)) (hfz : w.frozen? ⟨sb, 1, none⟩ = false) :
    Calls Tryz.prog 81 #[.pointer (some ⟨sb, 1, none⟩)] w fun e w' => e = .returned (.tuple #[]) ∧ w' = w.setCell ⟨sb, 1, none⟩ (.pointer (some ⟨sb, 1, none⟩)) := by
  obtain ⟨j, hj, hjs⟩ := Option.map_eq_some_iff.1 infoB
  go_enter Tryz.func81, Tryz.ntmps81
  go_wp2
  rw [Lib.run_to_unsafe w ⟨sb, 1, none⟩ Tryz.underlying69 Tryz.underlying149 hj (by rw [hjs]; decide) hsh (by simp)]
  simp only [Result.andThen]
  rw [Oper.upon_value]
  go_wp2
  rw [run_callFunc_extern Tryz.func89 (by kernel_rfl) (by kernel_rfl) (by kernel_rfl) (e := Extern.AbiNoEscape.same) (by kernel_rfl)]
  rw [Lib.run_noEscape]
  simp only [Result.andThen]
  rw [Oper.upon_value]
  go_wp2
  rw [Lib.run_from_unsafe w ⟨sb, 1, none⟩ Tryz.underlying149 Tryz.underlying69 hj hsh liesB]
  simp only [Result.andThen]
  rw [Oper.upon_value]
  go_wp2
  go_end0
  exact ⟨rfl, rfl⟩

theorem ownsRow_low {w : World} {b0 b1 : Nat} {e : TypeId} {size : Nat} {v : Value} {n : Nat} {xs : List Value} (h : w.ownsRow b1 e size v n xs) (hb : b0 ≤ b1) : w.ownsRow b0 e size v n xs := by
  refine ⟨h.1, ?_⟩
  rcases h.2 with h5 | ⟨g, cap, cur, hv, hg, r⟩
  · exact .inl h5
  · exact .inr ⟨g, cap, cur, hv, Nat.le_trans hb hg, r⟩

section
variable {P : Program} {w : World}
/-- append of a text: where the new row lies -/
theorem run_append_text (base : Nat) (t u ty e : TypeId) (i : TypeInfo) (ht : P.underlying t = some (.slice e)) (hu : P.underlying u = some .string) (hi : P.info? e = some i) (hz : i.zero = some (.int .u8 0))
    (hsize : i.size = 1) (hby : i.bytes = 1)
    (v : Value) (n : Nat) (xs : List Value) (hown : w.ownsRow base e 1 v n xs) (s : ByteArray)
    (h63 : n + s.size ≤ maxLen) (hbytes : n + s.size ≤ 140737488355328) (hbase : base ≤ w.heap.size) :
    ∃ v' w', (Builtin.append_ #[t, u] ty #[v, .string s]).run P w = .ok v' w' ∧ w'.ownsRow base e 1 v' (n + s.size) (xs ++ Lib.strCells s) ∧ w.grownBy w' v.ownBlock ∧
      (v'.ownBlock = v.ownBlock ∨ ∃ g, v'.ownBlock = some g ∧ w.heap.size ≤ g) := by
  have hxl : xs.length = n := by simpa using hown.1
  rcases hown.2 with ⟨rfl, rfl⟩ | ⟨g, cap, cur, rfl, hbg, hg, hnc, hcm, hcs, htake⟩
  · obtain ⟨v', w', hr, ho, hgr, hn⟩ := Lib.run_append_own_string (P := P) w w.heap.size t u ty e i ht hu hi hz hsize hby (.slice none 0 0) 0 xs ⟨hown.1, .inl ⟨rfl, rfl⟩⟩ s h63 hbytes (Nat.le_refl _)
    refine ⟨v', w', hr, ownsRow_low ho hbase, hgr, ?_⟩
    rcases ho.2 with ⟨rfl, _⟩ | ⟨g, cap, cur, rfl, hbg, _⟩
    · exact .inl rfl
    · exact .inr ⟨g, rfl, hbg⟩
  · obtain ⟨v', w', hr, ho, hgr, hn⟩ := Lib.run_append_own_string (P := P) w base t u ty e i ht hu hi hz hsize hby _ n xs hown s h63 hbytes hbase
    refine ⟨v', w', hr, ho, hgr, ?_⟩
    by_cases hroom : n + s.size ≤ cap
    · have hr2 := Lib.run_append_room_string (P := P) w t u ty e i ht hu hi hsize g n cap cur hg s hroom (by omega)
      rw [hr2] at hr
      injection hr with h1 h2
      subst h1
      exact .inl rfl
    · have holds : ∀ j u, xs[j]? = some u → w.cell? ((⟨g, 0, none⟩ : Addr).add j) = some u := hown.cells (g := g) rfl
      have hr2 := Lib.run_append_grow_string (P := P) w t u ty e i (.int .u8 0) ht hu hi hz ⟨g, 0, none⟩ n cap xs (by rw [hsize]; simpa using hxl) holds s (by omega) (by unfold maxLen at h63; omega) (by rw [hby]; exact growslice_fits (by omega) (by omega))
      rw [hr2] at hr
      injection hr with h1 h2
      subst h1
      exact .inr ⟨_, rfl, Nat.le_refl _⟩

theorem wpList_append_text {ops : Array Oper} {rest : List Oper} {o : Oper} {a : Act} {Q : Exit → Act → World → Prop} (hgd : o.guard = none) (sl x : Operand) (t u : TypeId)
    (ho : o.op = .call { callee := .builtin .append, args := #[sl, x], argTypes := #[t, u] })
    (base : Nat) (e : TypeId) (i : TypeInfo) (ht : P.underlying t = some (.slice e)) (hu : P.underlying u = some .string) (hi : P.info? e = some i) (hz : i.zero = some (.int .u8 0))
    (hsize : i.size = 1) (hby : i.bytes = 1)
    (v : Value) (n : Nat) (xs : List Value) (hs : a.eval sl = v) (hown : w.ownsRow base e 1 v n xs) (s : ByteArray) (hx : a.eval x = .string s)
    (h63 : n + s.size ≤ maxLen) (hbytes : n + s.size ≤ 140737488355328) (hbase : base ≤ w.heap.size)
    (h : ∀ v' w', w'.ownsRow base e 1 v' (n + s.size) (xs ++ Lib.strCells s) → w.grownBy w' v.ownBlock → (v'.ownBlock = v.ownBlock ∨ ∃ g, v'.ownBlock = some g ∧ w.heap.size ≤ g) → wpList P ops Q rest (a.put o.dst v') w') : wpList P ops Q (o :: rest) a w := by
  refine wpList_plain hgd fun K hK => ?_
  obtain ⟨v', w', hr, h2, h3, h4⟩ := run_append_text (P := P) (w := w) base t u o.type e i ht hu hi hz hsize hby v n xs hown s h63 hbytes hbase
  unfold Oper.wp execOp
  simp only [ho, resolve, invoke, builtin, Sem.run_bind, Sem.run_pure, Result.andThen_ok, List.map_toArray, List.map_cons, List.map_nil, hs, hx, hr]
  exact hK _ _ (h v' w' h2 h3 h4)
end

theorem Showed.setCell {sb : Nat} {a w : World} {h p v : Value} {t : TypeId} {f : Nat × Nat} (hw : Showed sb a w) (i : Nat) (u : Value) (hi : i ≠ 2) (e : w.heap[sb]? = some (.cells #[h, p, v] t f)) : Showed sb a (w.setCell ⟨sb, i, none⟩ u) where
  kept := hw.kept.setCell (.inl (.inl rfl)) u
  buf := fun b hb => by
    refine hw.buf b ?_
    rw [← hb, bufOf_eq e, bufOf, setCell_block e]
    match i, hi with
    | 0, _ => rfl
    | 1, _ => rfl
    | i + 3, _ => rfl

theorem copyCheck_any (B sb : Nat) (hv : Value) (bs : List UInt8) (w : World) (h : ShowAt B sb hv bs w) :
    Calls Tryz.prog 81 #[.pointer (some ⟨sb, 1, none⟩)] w fun e w' => e = .returned (.tuple #[]) ∧ Showed sb w w' ∧
      ∃ v, w'.heap[sb]? = some (.cells #[hv, .pointer (some ⟨sb, 1, none⟩), v] ShT (0, 0)) ∧ w'.ownsRow B ByT 1 v bs.length (Lib.byteCells bs) ∧ v.ownBlock ≠ some sb := by
  obtain ⟨p, v, h1, h2, h3, h4⟩ := h.there
  rcases h2 with rfl | rfl
  · refine (copyCheck_fresh sb w (cell_of h1 1) (by simp [World.shape?, h1]) (ice_of h1 1)).mono ?_
    rintro e w' ⟨rfl, rfl⟩
    exact ⟨rfl, (Showed.refl sb w).setCell 1 _ (by decide) h1, v, setCell_block h1 _, ownsRow_keep h3 fun g hg => setCell_other (fun e => by subst e; exact h4 hg) _, h4⟩
  · refine (copyCheck_used sb w (cell_of h1 1)).mono ?_
    rintro e w' ⟨rfl, rfl⟩
    exact ⟨rfl, Showed.refl sb _, v, h1, h3, h4⟩

theorem slice_form {w : World} {base : Nat} {e : TypeId} {size : Nat} {v : Value} {n : Nat} {xs : List Value} (h : w.ownsRow base e size v n xs) : ∃ ao cap, v = .slice ao n cap := ownsRow_form h

set_option maxRecDepth 100000 in
set_option maxHeartbeats 1000000 in
theorem Builder_Len (B sb : Nat) (hv : Value) (bs : List UInt8) (w : World) (h : ShowAt B sb hv bs w) :
    Calls Tryz.prog 66 #[.pointer (some ⟨sb, 1, none⟩)] w fun e w' => e = .returned (.int .i64 bs.length) ∧ w' = w := by
  obtain ⟨p, v, h1, h2, h3, h4⟩ := h.there
  obtain ⟨ao, cap, rfl⟩ := slice_form h3
  have c1 := cell_of h1 2
  simp only [List.getElem?_toArray, List.getElem?_cons_zero, List.getElem?_cons_succ] at c1
  clear h2 h3 h4 h1
  go_enter Tryz.func66, Tryz.ntmps66
  go_wp2
  go_ret
  exact ⟨rfl, rfl⟩

set_option maxRecDepth 100000 in
set_option maxHeartbeats 1000000 in
theorem WriteString_any (B sb : Nat) (hv : Value) (bs : List UInt8) (s : ByteArray) (w : World) (h : ShowAt B sb hv bs w) (hlen : bs.length + s.size ≤ 140737488355328) :
    Calls Tryz.prog 67 #[.pointer (some ⟨sb, 1, none⟩), .string s] w fun e w' => e = .returned (.tuple #[.int .i64 s.size, .nilIface]) ∧ ShowAt B sb hv (bs ++ s.data.toList) w' ∧ Showed sb w w' := by
  obtain ⟨i0, hi, hz0, hz1, hz2⟩ := info_parts infoByte
  have hh := Lib.hid h
  have hL := Lib.hid hlen
  clear h hlen
  go_enter Tryz.func67, Tryz.ntmps67
  go_wp2_with (go_at_call 81; refine (copyCheck_any B sb hv bs _ hh.out).mono ?_)
  rintro e w1 ⟨rfl, hs1, v, hbk, hown, hne⟩
  have c0 := cell_of hbk 1
  have c1 := cell_of hbk 2
  simp only [List.getElem?_toArray, List.getElem?_cons_zero, List.getElem?_cons_succ] at c0 c1
  have HX := Lib.hid (And.intro hs1 (And.intro hbk (And.intro hown hne)))
  clear hs1 hbk hown hne
  go_wp2_with (at_builtin; refine wpList_append_text rfl _ _ 70 9 rfl B ByT i0 Tryz.underlying70 Tryz.underlying9 hi hz0 hz1 hz2 _ _ _ rfl HX.out.2.2.1 s rfl ?c3 ?c4 ?c5 ?_)
  case c3 => have := hL.out; unfold maxLen; omega
  case c4 => exact hL.out
  case c5 => exact Nat.le_trans hh.out.room HX.out.1.kept.size
  intro v' w2 hown' hgrow hblk
  obtain ⟨hs1, hbk, hown, hne⟩ := HX.out
  have hb2 : w2.heap[sb]? = some (.cells #[hv, .pointer (some ⟨sb, 1, none⟩), v] ShT (0, 0)) := by
    rw [hgrow.block sb (lt_of_heap hbk) (fun e => hne e.symm)]
    exact hbk
  obtain ⟨ao, cap, rfl⟩ := slice_form hown'
  have d0 := cell_of hb2 1
  have d1 := cell_of hb2 2
  have f1 := ice_of hb2 2
  simp only [List.getElem?_toArray, List.getElem?_cons_zero, List.getElem?_cons_succ] at d0 d1
  have HY := Lib.hid (And.intro hown' (And.intro hgrow (And.intro hb2 hblk)))
  clear hs1 hbk hown hne hown' hgrow hb2 hblk
  go_wp2
  go_ret2
  obtain ⟨hs1, hbk, hown, hne⟩ := HX.out
  obtain ⟨hown', hgrow, hb2, hblk⟩ := HY.out
  have hne' : (Value.slice ao (bs.length + s.size) cap).ownBlock ≠ some sb := fun e => by
    refine Lib.ownBlock_ne hown' hb2 (by decide) e
  have hb3 := setCell_block (i := 2) hb2 (.slice ao (bs.length + s.size) cap)
  have hz := hh.out.lt
  refine ⟨rfl, ⟨hh.out.base, ?_, _, _, hb3, .inr rfl, ?_, hne'⟩, ?_, ?_⟩
  · rw [setCell_size]; exact Nat.le_trans hh.out.room (Nat.le_trans hs1.kept.size hgrow.size)
  · refine ownsRow_keep ?_ fun g hg => setCell_other (fun e => by subst e; exact hne' hg) _
    simpa [Lib.byteCells_append, Lib.strCells_eq] using hown'
  · refine (hs1.kept.grow hgrow fun k hk => ?_).setCell (.inl (.inl rfl)) _
    rcases hs1.buf k (by rw [bufOf_eq hbk]; exact hk) with h5 | h5
    · exact .inl (.inr h5)
    · exact .inr h5
  · intro b hb
    rw [bufOf_eq hb3] at hb
    rcases hblk with hk | ⟨g, hk, hk'⟩
    · have hb' : v.ownBlock = some b := by rw [← hk]; exact hb
      exact hs1.buf b (by rw [bufOf_eq hbk]; exact hb')
    · have hb' : some g = some b := by rw [← hk]; exact hb
      cases hb'
      exact .inr (Nat.le_trans hs1.kept.size hk')

def fitsB (bs : List UInt8) (s : ByteArray) : Bool := decide (bs.length + s.size ≤ 65536)
def laid (bs : List UInt8) (s : ByteArray) : List UInt8 := if fitsB bs s then bs ++ s.data.toList else bs
theorem laid_len {bs : List UInt8} {s : ByteArray} (h : bs.length ≤ 65536) : (laid bs s).length ≤ 65536 := by
  unfold laid fitsB
  split
  · rename_i h1
    have h2 : bs.length + s.size ≤ 65536 := by simpa using h1
    simpa using h2
  · exact h

set_option maxRecDepth 100000 in
set_option maxHeartbeats 1000000 in
/-- text is laid, if there is room for it -/
theorem says_any (B sb : Nat) (hv : Value) (bs : List UInt8) (s : ByteArray) (w : World) (h : ShowAt B sb hv bs w) (hb : bs.length ≤ 65536) :
    Calls Tryz.prog 56 #[.pointer (some ⟨sb, 0, none⟩), .string s] w fun e w' => e = .returned (.bool (fitsB bs s)) ∧ ShowAt B sb hv (laid bs s) w' ∧ Showed sb w w' := by
  have hh := Lib.hid h
  clear h
  by_cases hf : bs.length + s.size ≤ 65536
  · have hF : fitsB bs s = true := by simp [fitsB, hf]
    rw [laid, hF, if_pos rfl]
    go_enter Tryz.func56, Tryz.ntmps56
    go_wp2_with (first | (go_at_call 66; refine (Builder_Len B sb hv bs _ (hh.out.up uq)).mono ?_; rintro e w1 ⟨rfl, rfl⟩) | (go_at_call 67; refine (WriteString_any B sb hv bs s _ (hh.out.up uq) (by omega)).mono ?_; rintro e w2 ⟨rfl, hS, hK⟩))
    go_ret
    exact ⟨rfl, hS, hK⟩
  · have hF : fitsB bs s = false := by simp [fitsB, hf]
    rw [laid, hF, if_neg (by simp)]
    go_enter Tryz.func56, Tryz.ntmps56
    go_wp2_with (first | (go_at_call 66; refine (Builder_Len B sb hv bs _ (hh.out.up uq)).mono ?_; rintro e w1 ⟨rfl, rfl⟩))
    go_ret
    exact ⟨rfl, hh.out, Showed.refl _ _⟩

theorem tByteP : Tryz.prog.cellsOf ByT = 1 := by kernel_rfl

set_option maxRecDepth 100000 in
set_option maxHeartbeats 1000000 in
/-- the text that was laid -/
theorem String_any (B sb : Nat) (hv : Value) (l : List UInt8) (w : World) (h : ShowAt B sb hv l w) (h0 : l ≠ []) :
    Calls Tryz.prog 37 #[.pointer (some ⟨sb, 1, none⟩)] w fun e w' => e = .returned (.string ⟨l.toArray⟩) ∧ Below B w w' := by
  obtain ⟨p, v, hbk, h2, hown, hne⟩ := h.there
  have hl0 : l.length ≠ 0 := by simpa using h0
  obtain ⟨g, cap, cur, rfl, hbg, hg, hnc, hcm, hcs, htake⟩ : ∃ g cap cur, v = .slice (some ⟨g, 0, none⟩) l.length cap ∧ B ≤ g ∧ w.heap[g]? = some (.cells cur ByT (0, 0)) ∧ l.length ≤ cap ∧ cap ≤ maxLen ∧ cur.size = cap * 1 ∧ cur.toList.take (l.length * 1) = Lib.byteCells l := by
    rcases hown.2 with ⟨_, hz⟩ | ⟨g, cap, cur, hv, r⟩
    · exact absurd hz hl0
    · exact ⟨g, cap, cur, hv, r⟩
  have c1 : w.drew.cell? ⟨sb, 2, none⟩ = some (.slice (some ⟨g, 0, none⟩) l.length cap) := by
    have : w.drew.heap[sb]? = some (.cells #[hv, p, .slice (some ⟨g, 0, none⟩) l.length cap] ShT (0, 0)) := hbk
    rw [Lib.cell_of_heap this]; rfl
  have hSD : (Builtin.unsafeSliceData_ #[70] 124 #[.slice (some ⟨g, 0, none⟩) l.length cap]).run Tryz.prog w.drew = .ok (.pointer (some ⟨g, 0, none⟩)) w.drew :=
    Lib.run_unsafeSliceData_row _ _ _ _ _ _ (by omega)
  have hUS : (Builtin.unsafeString_ #[124, 3] 9 #[.pointer (some ⟨g, 0, none⟩), .int .i64 l.length]).run Tryz.prog w.drew = .ok (.string ⟨l.toArray⟩) (w.drew.freeze ⟨g, 0, none⟩ l.length) := by
    refine Lib.run_unsafeString_row w.drew 124 3 9 ByT Tryz.underlying124 tByteP g cur.size (by have hg' : w.drew.heap[g]? = some (.cells cur ByT (0, 0)) := hg; simp [World.shape?, hg']) l h0 (by omega) (by unfold maxLen at hcm; omega) ?_
    intro j x hx
    have := hown.cells (g := g) rfl j (.int .u8 x.toNat) (by simp [Lib.byteCells, hx])
    exact this
  clear htake hg hown h2 h
  go_enter Tryz.func37, Tryz.ntmps37
  go_wp2
  (refine wp_region_tail 10 (by kernel_rfl) (by kernel_rfl) ?_; simp only [List.take_succ_cons, List.take_zero, List.drop_succ_cons, List.drop_zero]; (repeat still_step); refine wpStill_nil ?_)
  all_goals (go_wp2; go_ret; exact ⟨rfl, Lib.below_freeze (Below.drew (Below.refl B w)) (p := ⟨g, 0, none⟩) hbg _⟩)

end Go.Proofs.YtmbipadiaggolaaGreatDoor
