import Derived.Test.YtmbipadiaggolaaGreatDoorM23
import Derived.Test.YtmbipadiaggolaaGreatDoorM25
/- YtmbipadiaggolaaGreatDoorM26: lemmas of the proof, in order: RefS, RefT, RefU. -/
/- The document's heap: Push as a whole; a member and a value set anew. -/
namespace Go.Proofs.YtmbipadiaggolaaGreatDoor
open Go.RowKit
set_option linter.unusedSimpArgs false

theorem kindOf_at {H : HM} {N : Nat} {t : Thing} (ht : H.things[N]? = some t) : H.there N = true ∧ H.kindOf N = t.kind := by
  have h1 : H.there N = true := by
    have := (List.getElem?_eq_some_iff.1 ht).1
    simp [HM.there]; omega
  exact ⟨h1, by simp [HM.kindOf, h1, ht]⟩

/-- Push, as a whole -/
theorem s_push (rb : Nat) (H : HM) (rs : List RT) (own : Own) (n : Int) (x : Val) (w : World) (h : RRep w rb H rs own) (hw : H.Wf) :
    Calls Tryz.prog 33 #[.pointer (some ⟨rb, 0, none⟩), .int .i64 n, .agg #[.int .i64 (x).k, .int .i64 (x).n, .string (x).s]] w (RWrote rb (H.push n x).1 own w (.tuple #[.int .i64 (H.push n x).2.1, .int .i64 (H.push n x).2.2])) := by
  unfold HM.push
  by_cases ht : H.there n = true
  · rw [if_pos ht]
    obtain ⟨h0, t, hti⟩ := there_things ht
    rw [hti]
    obtain ⟨N, rfl⟩ := Int.eq_ofNat_of_zero_le h0
    rw [Int.toNat_natCast] at hti ⊢
    have hkd := (kindOf_at hti).2
    dsimp only
    by_cases hk : t.kind = 2
    · rw [if_pos hk]
      by_cases hf : H.used < H.room
      · rw [if_pos hf]
        have e : HM.pushAt H N t.vals x = ⟨H.room, H.used + 1, H.things.set N ⟨t.kind, t.proto, t.slots, t.vals ++ [plainS H x]⟩⟩ := by
          rcases hw.things N t hti with ⟨_, h2, h3⟩ | ⟨h2, _⟩
          · rw [HM.pushAt, hk, h2, h3]
          · omega
        rw [e]
        exact s_push_ok rb H rs own N x w h hw t hti (by rw [hkd]; exact hk) hk hf
      · rw [if_neg hf]
        exact (s_push_full rb H rs own _ x w h hw (by rw [hkd]; exact hk) (by omega)).mono fun e w' ⟨h1, h2⟩ => RWrote.same h h1 h2
    · rw [if_neg hk]
      exact (s_push_no rb H rs own _ x w h hw (by rw [hkd]; exact hk)).mono fun e w' ⟨h1, h2⟩ => RWrote.same h h1 h2
  · rw [if_neg ht]
    exact (s_push_no rb H rs own _ x w h hw (by unfold HM.kindOf; rw [if_neg ht]; simp)).mono fun e w' ⟨h1, h2⟩ => RWrote.same h h1 h2

theorem set_same {α : Type} {l : List α} {i : Nat} {x : α} (h : l[i]? = some x) : l.set i x = l := by
  apply List.ext_getElem?
  intro j
  rw [List.getElem?_set]
  split
  · rename_i e; subst e; split
    · exact h.symm
    · rename_i q; rw [List.getElem?_eq_none (by omega)]
  · rfl

/-- three cells of a block -/
@[reducible] def set3 (w : World) (g j : Nat) (x : Val) : World := ((w.setCell ⟨g, j, none⟩ (.int .i64 x.k)).setCell ⟨g, j + 1, none⟩ (.int .i64 x.n)).setCell ⟨g, j + 2, none⟩ (.string x.s)
theorem set3_other {w : World} {g j : Nat} {x : Val} {b : Nat} (h : b ≠ g) : (set3 w g j x).heap[b]? = w.heap[b]? := by
  unfold set3
  rw [setCell_other h, setCell_other h, setCell_other h]
theorem set3_size {w : World} {g j : Nat} {x : Val} : (set3 w g j x).heap.size = w.heap.size := by unfold set3; rw [setCell_size, setCell_size, setCell_size]
theorem set3_kept {w : World} {g j : Nat} {x : Val} {S : Nat → Prop} (h : S g) : Kept S w (set3 w g j x) := (((Kept.refl _ w).setCell (.inl h) _).setCell (.inl h) _).setCell (.inl h) _

/-- a member is set anew -/
theorem RRep.slotPut {w : World} {rb : Nat} {H : HM} {rs : List RT} {own : Own} {i : Nat} {t : Thing} {r : RT} (h : RRep w rb H rs own) (ht : H.things[i]? = some t) (hr : rs[i]? = some r) (hi : RTIs w own i t r)
    {sg sc : Nat} (hsv : r.sv = .slice (some ⟨sg, 0, none⟩) t.slots.length sc) {j : Nat} {key : ByteArray} {y : Val} (hx : t.slots[j]? = some (key, y)) (x : Val) :
    RRep (set3 w sg (j * 4 + 1) x) rb ⟨H.room, H.used, H.things.set i ⟨t.kind, t.proto, t.slots.set j (key, x), t.vals⟩⟩ (rs.set i r) own ∧ Mut own own w (set3 w sg (j * 4 + 1) x) := by
  obtain ⟨tv, h1, h2⟩ := h.head
  have hsr := hi.slots
  rw [hsv] at hsr
  have hso := hsr.2 sg rfl
  have hne : ∀ b m, own b = some m → m ≠ (i + 1, 0) → b ≠ sg := fun b m hm hn e => by subst e; rw [hso] at hm; cases hm; exact hn rfl
  refine RRep.turned h (set3_kept (.inl ⟨_, hso, rfl⟩)) (fun _ _ => rfl) (fun b m hm => ⟨by rw [set3_size]; exact h.lt b m hm, fun hb => by have := h.lt b m hm; omega⟩) ht hr h1 ?_ ?_
  · rw [set_same hr]
    exact h2.keep fun b hb => ⟨set3_other (hne b _ hb (by simp)), rfl⟩
  · refine ⟨hi.kind, hi.proto, ?_, hi.vals.keep fun b hb => ⟨set3_other (hne b _ hb (by simp)), rfl⟩⟩
    have h3 := ((hsr.set (j * 4 + 1) (.int .i64 x.k)).set (j * 4 + 2) (.int .i64 x.n)).set (j * 4 + 3) (.string x.s)
    have hs0 : ∀ (z : ByteArray × Val), (slotCells z).length = 4 := fun _ => rfl
    have hjl : j < t.slots.length := (List.getElem?_eq_some_iff.1 hx).1
    rw [flat_set slotCells 4 hs0 t.slots j 1 (key, y) (key, ⟨x.k, y.n, y.s⟩) _ hx (by omega) rfl,
      flat_set slotCells 4 hs0 _ j 2 (key, ⟨x.k, y.n, y.s⟩) (key, ⟨x.k, x.n, y.s⟩) _ (by rw [List.getElem?_set]; simp [hjl]) (by omega) rfl,
      flat_set slotCells 4 hs0 _ j 3 (key, ⟨x.k, x.n, y.s⟩) (key, x) _ (by rw [List.getElem?_set]; simp [hjl]) (by omega) rfl, List.set_set, List.set_set] at h3
    dsimp only
    rw [hsv, List.length_set]
    exact h3

/-- a value is set anew -/
theorem RRep.valPut {w : World} {rb : Nat} {H : HM} {rs : List RT} {own : Own} {i : Nat} {t : Thing} {r : RT} (h : RRep w rb H rs own) (ht : H.things[i]? = some t) (hr : rs[i]? = some r) (hi : RTIs w own i t r)
    {sg sc : Nat} (hsv : r.vv = .slice (some ⟨sg, 0, none⟩) t.vals.length sc) {j : Nat} {y : Val} (hx : t.vals[j]? = some y) (x : Val) :
    RRep (set3 w sg (j * 3) x) rb ⟨H.room, H.used, H.things.set i ⟨t.kind, t.proto, t.slots, t.vals.set j x⟩⟩ (rs.set i r) own ∧ Mut own own w (set3 w sg (j * 3) x) := by
  obtain ⟨tv, h1, h2⟩ := h.head
  have hsr := hi.vals
  rw [hsv] at hsr
  have hso := hsr.2 sg rfl
  have hne : ∀ b m, own b = some m → m ≠ (i + 1, 1) → b ≠ sg := fun b m hm hn e => by subst e; rw [hso] at hm; cases hm; exact hn rfl
  refine RRep.turned h (set3_kept (.inl ⟨_, hso, rfl⟩)) (fun _ _ => rfl) (fun b m hm => ⟨by rw [set3_size]; exact h.lt b m hm, fun hb => by have := h.lt b m hm; omega⟩) ht hr h1 ?_ ?_
  · rw [set_same hr]
    exact h2.keep fun b hb => ⟨set3_other (hne b _ hb (by simp)), rfl⟩
  · refine ⟨hi.kind, hi.proto, hi.slots.keep fun b hb => ⟨set3_other (hne b _ hb (by simp)), rfl⟩, ?_⟩
    have h3 := ((hsr.set (j * 3 + 0) (.int .i64 x.k)).set (j * 3 + 1) (.int .i64 x.n)).set (j * 3 + 2) (.string x.s)
    have hs0 : ∀ (z : Val), (Val.cells z).length = 3 := fun _ => rfl
    have hjl : j < t.vals.length := (List.getElem?_eq_some_iff.1 hx).1
    rw [flat_set Val.cells 3 hs0 t.vals j 0 y ⟨x.k, y.n, y.s⟩ _ hx (by omega) rfl,
      flat_set Val.cells 3 hs0 _ j 1 ⟨x.k, y.n, y.s⟩ ⟨x.k, x.n, y.s⟩ _ (by rw [List.getElem?_set]; simp [hjl]) (by omega) rfl,
      flat_set Val.cells 3 hs0 _ j 2 ⟨x.k, x.n, y.s⟩ x _ (by rw [List.getElem?_set]; simp [hjl]) (by omega) rfl, List.set_set, List.set_set] at h3
    dsimp only
    rw [hsv, List.length_set]
    exact h3

end Go.Proofs.YtmbipadiaggolaaGreatDoor

/- Walks: the document's heap: Set, where nothing is set. -/
namespace Go.Proofs.YtmbipadiaggolaaGreatDoor
open Go.RowKit
set_option linter.unusedSimpArgs false

set_option maxHeartbeats 1600000 in
theorem s_set_plain (rb : Nat) (H : HM) (rs : List RT) (own : Own) (k n : Int) (s key : ByteArray) (x : Val) (w : World) (h : RRep w rb H rs own) (hw : H.Wf) (pk pn : Int) (ps : ByteArray) (hp : plainS H ⟨k, n, s⟩ = ⟨pk, pn, ps⟩) (hk : (pk != 5) = true) :
    Calls Tryz.prog 25 #[.pointer (some ⟨rb, 0, none⟩), .agg #[.int .i64 k, .int .i64 n, .string s], .string key, .agg #[.int .i64 (x).k, .int .i64 (x).n, .string (x).s]] w fun e w' => e = .returned (outV ⟨0, 0, ⟨#[]⟩⟩ noMembers 1) ∧ Up w w' := by
  have HR := Lib.hid h
  have HW := Lib.hid hw
  have HP := Lib.hid hp
  clear h hw hp
  go_enter Tryz.func25, Tryz.ntmps25
  go_wp2_with (first | (go_at_call 38; refine (s_sane rb H rs own _ _ _ _ (HR.out.up uq) HW.out).mono ?_; rintro e w' ⟨rfl, hu⟩; simp only [HP.out]; have s0 : w'.heap[w.heap.size + 1 + 1]? = some (.cells #[.int .i64 0, .int .i64 0, .string ⟨#[]⟩, .string ⟨#[]⟩, .int .i64 0] 56 (0, 0)) := hu.get (alloc_at _ _ _ (by simp)); have B1 := Lib.hid s0; have b0 := cell_of s0 0; have g0 := ice_of s0 0; have b1 := cell_of s0 1; have g1 := ice_of s0 1; have b2 := cell_of s0 2; have g2 := ice_of s0 2; have b3 := cell_of s0 3; have g3 := ice_of s0 3; have b4 := cell_of s0 4; have g4 := ice_of s0 4; have b9 := lt_of_heap s0; (try simp only [World.size_alloc, List.getElem?_toArray, List.getElem?_cons_zero, List.getElem?_cons_succ] at b0 b1 b2 b3 b4 g0 g1 g2 g3 g4 b9); clear s0) | (go_at_call 49; refine (rThrow_any _ _).mono ?_; rintro e w3 ⟨rfl, hu3⟩; have s0 := hu3.get (Up.get (w := w') uq B1.out); have b0 := cell_of s0 0; have g0 := ice_of s0 0; have b1 := cell_of s0 1; have g1 := ice_of s0 1; have b2 := cell_of s0 2; have g2 := ice_of s0 2; have b3 := cell_of s0 3; have g3 := ice_of s0 3; have b4 := cell_of s0 4; have g4 := ice_of s0 4; have b9 := lt_of_heap s0; (try simp only [World.size_alloc, List.getElem?_toArray, List.getElem?_cons_zero, List.getElem?_cons_succ] at b0 b1 b2 b3 b4 g0 g1 g2 g3 g4 b9); clear s0))
  all_goals (refine bodyPost_eq (by (simp [results, Tryz.results25, go_sem, *]) <;> rfl) rfl rfl ⟨rfl, uq⟩)

set_option maxHeartbeats 1600000 in
theorem s_set_arr (rb : Nat) (H : HM) (rs : List RT) (own : Own) (k n : Int) (s key : ByteArray) (x : Val) (w : World) (h : RRep w rb H rs own) (hw : H.Wf) (pn : Int) (ps : ByteArray) (hp : plainS H ⟨k, n, s⟩ = ⟨5, pn, ps⟩) (ha : H.isArr 5 pn = true) :
    Calls Tryz.prog 25 #[.pointer (some ⟨rb, 0, none⟩), .agg #[.int .i64 k, .int .i64 n, .string s], .string key, .agg #[.int .i64 (x).k, .int .i64 (x).n, .string (x).s]] w fun e w' => e = .returned (outV ⟨0, 0, ⟨#[]⟩⟩ noMembers 1) ∧ Up w w' := by
  have HR := Lib.hid h
  have HW := Lib.hid hw
  have HP := Lib.hid hp
  have HA := Lib.hid ha
  clear h hw hp ha
  go_enter Tryz.func25, Tryz.ntmps25
  go_wp2_with (first | (go_at_call 38; refine (s_sane rb H rs own _ _ _ _ (HR.out.up uq) HW.out).mono ?_; rintro e w' ⟨rfl, hu⟩; simp only [HP.out]; have s0 : w'.heap[w.heap.size + 1 + 1]? = some (.cells #[.int .i64 0, .int .i64 0, .string ⟨#[]⟩, .string ⟨#[]⟩, .int .i64 0] 56 (0, 0)) := hu.get (alloc_at _ _ _ (by simp)); have B1 := Lib.hid s0; have b0 := cell_of s0 0; have g0 := ice_of s0 0; have b1 := cell_of s0 1; have g1 := ice_of s0 1; have b2 := cell_of s0 2; have g2 := ice_of s0 2; have b3 := cell_of s0 3; have g3 := ice_of s0 3; have b4 := cell_of s0 4; have g4 := ice_of s0 4; have b9 := lt_of_heap s0; (try simp only [World.size_alloc, List.getElem?_toArray, List.getElem?_cons_zero, List.getElem?_cons_succ] at b0 b1 b2 b3 b4 g0 g1 g2 g3 g4 b9); clear s0) | (go_at_call 52; refine (s_array rb H rs own _ _ _ _ (HR.out.up uq) HW.out).mono ?_; rintro e w2 ⟨rfl, hu2⟩; rw [HA.out]; have s0 := hu2.get (Up.get (w := w') uq B1.out); have b0 := cell_of s0 0; have g0 := ice_of s0 0; have b1 := cell_of s0 1; have g1 := ice_of s0 1; have b2 := cell_of s0 2; have g2 := ice_of s0 2; have b3 := cell_of s0 3; have g3 := ice_of s0 3; have b4 := cell_of s0 4; have g4 := ice_of s0 4; have b9 := lt_of_heap s0; (try simp only [World.size_alloc, List.getElem?_toArray, List.getElem?_cons_zero, List.getElem?_cons_succ] at b0 b1 b2 b3 b4 g0 g1 g2 g3 g4 b9); clear s0; have s0 := hu2.get (Up.get uq (alloc_get w' _)); have a0 := cell_of s0 0; have a1 := cell_of s0 1; have a2 := cell_of s0 2; have f0 := ice_of s0 0; have f1 := ice_of s0 1; have f2 := ice_of s0 2; have a4 := lt_of_heap s0; (try simp only [World.size_alloc, List.getElem?_toArray, List.getElem?_cons_zero, List.getElem?_cons_succ] at a0 a1 a2 f0 f1 f2 a4); clear s0) | (go_at_call 49; refine (rThrow_any _ _).mono ?_; rintro e w3 ⟨rfl, hu3⟩; have s0 := hu3.get (Up.get (w := w') uq B1.out); have b0 := cell_of s0 0; have g0 := ice_of s0 0; have b1 := cell_of s0 1; have g1 := ice_of s0 1; have b2 := cell_of s0 2; have g2 := ice_of s0 2; have b3 := cell_of s0 3; have g3 := ice_of s0 3; have b4 := cell_of s0 4; have g4 := ice_of s0 4; have b9 := lt_of_heap s0; (try simp only [World.size_alloc, List.getElem?_toArray, List.getElem?_cons_zero, List.getElem?_cons_succ] at b0 b1 b2 b3 b4 g0 g1 g2 g3 g4 b9); clear s0))
  all_goals (refine bodyPost_eq (by (simp [results, Tryz.results25, go_sem, *]) <;> rfl) rfl rfl ⟨rfl, uq⟩)

end Go.Proofs.YtmbipadiaggolaaGreatDoor

/- Walks: the document's heap: Set of a member. -/
namespace Go.Proofs.YtmbipadiaggolaaGreatDoor
open Go.RowKit
set_option linter.unusedSimpArgs false

theorem RRep.off {w w' : World} {rb : Nat} {H : HM} {rs : List RT} {own : Own} (h : RRep w rb H rs own) (hk : ∀ b m, own b = some m → w'.heap[b]? = w.heap[b]?) (hs : w.heap.size ≤ w'.heap.size) : RRep w' rb H rs own where
  lt b m hm := Nat.lt_of_lt_of_le (h.lt b m hm) hs
  mine := h.mine
  head := let ⟨tv, h1, h2⟩ := h.head; ⟨tv, by rw [hk rb _ h.mine]; exact h1, h2.keep fun b hb => ⟨hk b _ hb, rfl⟩⟩
  len := h.len
  things i t ht := let ⟨r, h1, h2⟩ := h.things i t ht; ⟨r, h1, h2.keep fun b m hm _ => ⟨hk b m hm, rfl⟩⟩

/-- behind the change a box of one's own is written -/
theorem RWrote.off {rb : Nat} {H : HM} {own own' : Own} {w w4 w5 : World} {v : Value} {e : Ending} {rs' : List RT} (hR : RRep w4 rb H rs' own') (hM : Mut own own' w w4) (g : Nat) (hg : w.heap.size ≤ g) (hgo : own' g = none) (hk : Kept (fun b => b = g) w4 w5) (he : e = .returned v) :
    RWrote rb H own w v e w5 :=
  ⟨he, rs', own', hR.off (fun b m hm => hk.block b (hR.lt b m hm) fun e => by subst e; rw [hgo] at hm; cases hm) hk.size,
    hk.os.trans hM.os, hk.tape.trans hM.tape, hk.output.trans hM.output, Nat.le_trans hM.size hk.size,
    fun b hb hn => (hk.block b (Nat.lt_of_lt_of_le hb hM.size) (fun e => by omega)).trans (hM.block b hb hn), hM.ext⟩

theorem key_eq {a b : ByteArray} (h : a = b) : (a.toList == b.toList) = true := by simp [h]
theorem key_ne {a b : ByteArray} (h : a ≠ b) : (a.toList == b.toList) = false := by
  rw [beq_eq_false_iff_ne]
  intro e
  rw [ByteArray.toList_eq, ByteArray.toList_eq] at e
  exact h (ByteArray.ext (Array.ext' e))
theorem any_hit {l : List (ByteArray × Val)} {key : ByteArray} {j : Nat} {y : Val} (h : l[j]? = some (key, y)) : l.any (fun y => decide (y.1 = key)) = true := by
  rw [List.any_eq_true]
  exact ⟨_, List.mem_of_getElem? h, by simp⟩
theorem any_miss {l : List (ByteArray × Val)} {key : ByteArray} (h : ∀ (j : Nat) (y : ByteArray × Val), l[j]? = some y → y.1 ≠ key) : l.any (fun y => decide (y.1 = key)) = false := by
  rw [List.any_eq_false]
  intro y hy
  obtain ⟨j, hj⟩ := List.getElem?_of_mem hy
  simpa using h j y hj

theorem slot_info : (Tryz.prog.info? 112).map (fun i => (i.zero, i.size, i.bytes)) = some (some (.agg #[.string ⟨#[]⟩, .int .i64 0, .int .i64 0, .string ⟨#[]⟩]), 4, 48) := by kernel_rfl

set_option maxRecDepth 100000 in
set_option maxHeartbeats 8000000 in
theorem s_set_obj (rb : Nat) (H : HM) (rs : List RT) (own : Own) (k n : Int) (s key : ByteArray) (x : Val) (w : World) (h : RRep w rb H rs own) (hw : H.Wf) (N : Nat) (ps : ByteArray) (t : Thing) (hp : plainS H ⟨k, n, s⟩ = ⟨5, N, ps⟩) (hti : H.things[N]? = some t) (htk : t.kind ≠ 2) :
    Calls Tryz.prog 25 #[.pointer (some ⟨rb, 0, none⟩), .agg #[.int .i64 k, .int .i64 n, .string s], .string key, .agg #[.int .i64 (x).k, .int .i64 (x).n, .string (x).s]] w (RWrote rb (H.set 5 N key x).1 own w (outV ⟨0, 0, ⟨#[]⟩⟩ (H.set 5 N key x).2.1 (H.set 5 N key x).2.2)) := by
  obtain ⟨i0, hi0, y0, y1, y2⟩ := info_parts slot_info
  obtain ⟨R, hS⟩ : ∃ R, Hid (H.set 5 N key x = R) := ⟨_, rfl⟩
  rw [hS.out]
  have hset : Hid (H.set 5 N key x = if t.slots.any (fun y => decide (y.1 = key)) then (H.setAt N key x 0, ⟨#[]⟩, 0) else if H.used < H.room then (H.setAt N key x 1, ⟨#[]⟩, 0) else (H, ⟨#[]⟩, 3)) := by
    unfold Hid HM.set
    rw [if_pos ⟨rfl, (kindOf_at hti).1⟩, Int.toNat_natCast, hti]
    dsimp only
    rw [if_neg htk]
  have HR := Lib.hid h
  have HW := Lib.hid hw
  have HP := Lib.hid hp
  have HT := Lib.hid (And.intro hti htk)
  have HA : Hid (H.isArr 5 N = false) := by unfold Hid HM.isArr; rw [(kindOf_at hti).2]; simp [htk]
  have hnd : Hid ((t.slots.map (·.1)).Nodup) := by
    rcases hw.things N t hti with ⟨q, _⟩ | ⟨_, _, _, _, q⟩
    · exact absurd q htk
    · exact q
  have hur : H.used ≤ 1048576 := by have := hw.roomM; have := hw.roomU; omega
  have hu0 := hw.room0
  have hsl : t.slots.length ≤ 1048576 := by have := sizes_at _ _ _ hti; have q1 := hw.few; have q2 := hw.roomU; have q3 := hw.roomM; simp only [Thing.size] at this; omega
  have hNl : (N : Int) < H.things.length := by have := (List.getElem?_eq_some_iff.1 hti).1; omega
  have hll := wf_len hw
  obtain ⟨tg, cap, r, h1, hr, c2, _, hi, ⟨cur, hcur⟩, hrow⟩ := h.at2 hti
  obtain ⟨sa, sc, hsv⟩ := ownsRow_form hi.slots.1
  rw [hsv] at c2
  have HX := Lib.hid (And.intro h1 (And.intro c2 (And.intro hi (And.intro hcur (And.intro hrow (And.intro hsv hr))))))
  have ltg := lt_of_heap hcur
  have lrb := lt_of_heap h1
  clear h hw hp hti htk h1 c2 hi hcur hrow hsv hr
  have I2 : (((w.alloc (.cells #[.int .i64 k, .int .i64 n, .string s] 34)).alloc (.cells #[.int .i64 x.k, .int .i64 x.n, .string x.s] 34)).alloc (.cells #[.int .i64 0, .int .i64 0, .string ⟨#[]⟩, .string ⟨#[]⟩, .int .i64 0] 56)).heap[w.heap.size + 1]? = some (.cells #[.int .i64 x.k, .int .i64 x.n, .string x.s] 34 (0, 0)) := alloc_keep (alloc_at _ _ _ (by simp))
  go_enter Tryz.func25, Tryz.ntmps25
  go_wp2_with (first | (go_at_call 38; refine (s_sane rb H rs own _ _ _ _ (HR.out.up uq) HW.out).mono ?_; rintro e w' ⟨rfl, hu⟩; simp only [HP.out]; have s0 : w'.heap[w.heap.size + 1 + 1]? = some (.cells #[.int .i64 0, .int .i64 0, .string ⟨#[]⟩, .string ⟨#[]⟩, .int .i64 0] 56 (0, 0)) := hu.get (alloc_at _ _ _ (by simp)); have B1 := Lib.hid s0; have B2 := Lib.hid (hu.get I2); clear s0 I2) | (go_at_call 52; refine (s_array rb H rs own _ _ _ _ (HR.out.up uq) HW.out).mono ?_; rintro e w2 ⟨rfl, hu2⟩; rw [HA.out]; have hw2 : Up w w2 := uq; have s0 := hw2.get HX.out.1; have a0 := cell_of s0 0; have a1 := cell_of s0 1; have a2 := cell_of s0 2; have f0 := ice_of s0 0; have f1 := ice_of s0 1; have f2 := ice_of s0 2; have a4 := lt_of_heap s0; (try simp only [World.size_alloc, List.getElem?_toArray, List.getElem?_cons_zero, List.getElem?_cons_succ] at a0 a1 a2 f0 f1 f2 a4); clear s0; have c2 := (hw2.cells tg (N * 4 + 2) ltg).trans HX.out.2.1; have B3 := Lib.hid (hu2.get (alloc_get w' _)); have s0 := B3.out; have a0 := cell_of s0 0; have a1 := cell_of s0 1; have a2 := cell_of s0 2; have f0 := ice_of s0 0; have f1 := ice_of s0 1; have f2 := ice_of s0 2; have a4 := lt_of_heap s0; (try simp only [World.size_alloc, List.getElem?_toArray, List.getElem?_cons_zero, List.getElem?_cons_succ] at a0 a1 a2 f0 f1 f2 a4); clear s0))
  go_quiet (fail)
  go_wp2_with fail
  refine range_named fun A W hA hW => ?_
  have hUW : Up w W := by subst hW; exact uq
  have hB1 : Hid (W.heap[w.heap.size + 1 + 1]? = some (.cells #[.int .i64 0, .int .i64 0, .string ⟨#[]⟩, .string ⟨#[]⟩, .int .i64 0] 56 (0, 0))) := by subst hW; exact hu2.get (Up.get (w := w') uq B1.out)
  have hB2 : Hid (W.heap[w.heap.size + 1]? = some (.cells #[.int .i64 x.k, .int .i64 x.n, .string x.s] 34 (0, 0))) := by subst hW; exact hu2.get (Up.get (w := w') uq B2.out)
  have hB3 : Hid (W.heap[w'.heap.size]? = some (.cells #[.int .i64 5, .int .i64 N, .string ps] 34 (0, 0))) := by subst hW; exact B3.out
  have hz : w.heap.size + 3 ≤ w'.heap.size := by have := hu.size; simpa only [World.size_alloc] using this
  clear hW a0 a1 a2 f0 f1 f2 a4 c2
  subst hA
  go_loopw [11] (fun i w9 => ∃ j : Nat, j ≤ t.slots.length ∧ i = .int .i64 j ∧ Hid (∀ (m : Nat) (y : ByteArray × Val), m < j → t.slots[m]? = some y → y.1 ≠ key) ∧ w9 = W) (fun i _ => t.slots.length - (intOf i).toNat)
  case atStart => exact ⟨0, Nat.zero_le _, rfl, fun j y hj => by omega, rfl⟩
  case round =>
    obtain ⟨j, hj, rfl, hne, rfl⟩ := hrel
    have HW1 : Hid (RRep wr rb H rs own) := HR.out.up hUW
    by_cases hlt : j < t.slots.length
    · obtain ⟨⟨ks, kv⟩, hx⟩ : ∃ x, t.slots[j]? = some x := ⟨_, List.getElem?_eq_getElem hlt⟩
      have e := fun q hq => flat_get slotCells 4 (fun _ => rfl) t.slots j _ q hx hq
      have hrow := HX.out.2.2.1.slots.up hUW
      rw [HX.out.2.2.2.2.2.1] at hrow
      obtain ⟨sg, rfl, d0⟩ := row_at hrow (j * 4 + 0) _ (e 0 (by omega))
      obtain ⟨_, hg, d1⟩ := row_at hrow (j * 4 + 1) _ (e 1 (by omega)); cases hg
      obtain ⟨_, hg, d2⟩ := row_at hrow (j * 4 + 2) _ (e 2 (by omega)); cases hg
      obtain ⟨_, hg, d3⟩ := row_at hrow (j * 4 + 3) _ (e 3 (by omega)); cases hg
      rw [Nat.add_zero] at d0
      dsimp only at d0 d1 d2 d3
      obtain ⟨scur, hscur⟩ := hrow.block
      have HY := Lib.hid (And.intro hx (And.intro hrow hscur))
      have lsg := lt_of_heap hscur
      clear e hrow hx hscur
      by_cases hkey : ks = key
      · have hkey2 := key_eq hkey
        have HK := Lib.hid hkey
        have HD := Lib.hid (And.intro d1 (And.intro d2 d3))
        have hsgo : own sg = some (N + 1, 0) := HY.out.2.1.2 sg rfl
        have lsg0 := HR.out.lt _ _ hsgo
        clear hkey d1 d2 d3
        have s0 := hB2.out
        have a0 := cell_of s0 0; have a1 := cell_of s0 1; have a2 := cell_of s0 2; have f0 := ice_of s0 0; have f1 := ice_of s0 1; have f2 := ice_of s0 2; have a4 := lt_of_heap s0; (try simp only [World.size_alloc, List.getElem?_toArray, List.getElem?_cons_zero, List.getElem?_cons_succ] at a0 a1 a2 f0 f1 f2 a4); clear s0
        go_wp2_with (first | (go_at_call 38; refine (s_sane rb H rs own _ _ _ _ HW1.out HW.out).mono ?_; rintro e w3 ⟨rfl, hu3⟩; have s0 := hu3.get hB1.out; have b0 := cell_of s0 0; have g0 := ice_of s0 0; have b1 := cell_of s0 1; have g1 := ice_of s0 1; have b2 := cell_of s0 2; have g2 := ice_of s0 2; have b3 := cell_of s0 3; have g3 := ice_of s0 3; have b4 := cell_of s0 4; have g4 := ice_of s0 4; have b9 := lt_of_heap s0; (try simp only [World.size_alloc, List.getElem?_toArray, List.getElem?_cons_zero, List.getElem?_cons_succ] at b0 b1 b2 b3 b4 g0 g1 g2 g3 g4 b9); clear s0; have d1 := (hu3.cells sg (j * 4 + 1) lsg).trans HD.out.1; have d2 := (hu3.cells sg (j * 4 + 2) lsg).trans HD.out.2.1; have d3 := (hu3.cells sg (j * 4 + 3) lsg).trans HD.out.2.2; have i1 := ice_of (hu3.get HY.out.2.2) (j * 4 + 1); have i2 := ice_of (hu3.get HY.out.2.2) (j * 4 + 2); have i3 := ice_of (hu3.get HY.out.2.2) (j * 4 + 3)))
        have hRe : R = (⟨H.room, H.used, H.things.set N ⟨t.kind, t.proto, t.slots.set j (key, plainS H x), t.vals⟩⟩, ⟨#[]⟩, 0) := by
          have hx := HY.out.1
          rw [HK.out] at hx
          rw [← hS.out, hset.out, if_pos (any_hit hx), HM.setAt, HT.out.1]
          dsimp only
          rw [setSlot_hit _ hnd.out hx, Int.add_zero]
        subst hRe
        refine bodyPost_eq (by (simp [results, Tryz.results25, go_sem, *]) <;> rfl) rfl rfl ?_
        obtain ⟨q1, q2⟩ := RRep.slotPut (HW1.out.up hu3) HT.out.1 HX.out.2.2.2.2.2.2 (HX.out.2.2.1.up (hUW.trans hu3)) HX.out.2.2.2.2.2.1 (j := j) (y := kv) (by rw [HY.out.1, HK.out]) (plainS H x)
        exact RWrote.off q1 (((hUW.trans hu3).mut own).trans q2) (w.heap.size + 1 + 1) (by omega) (by
          cases ho : own (w.heap.size + 1 + 1) with
          | none => rfl
          | some m => have := HR.out.lt _ _ ho; omega) (by repeat (first | with_reducible exact Kept.refl _ _ | with_reducible refine Kept.alloc ?_ _ | with_reducible refine Kept.drew ?_ | with_reducible refine Kept.drewN ?_ _ | with_reducible refine Kept.setCell ?_ (by first | exact .inl rfl | exact .inr (by first | omega | (simp; omega))) _)) rfl
      · have hkey2 := key_ne hkey
        have HK := Lib.hid hkey
        clear hkey
        go_wp2_with fail
        go_roundw
        case rel =>
          refine ⟨j + 1, by omega, by simp, fun m y hm hy => ?_, trivial⟩
          rcases Nat.lt_or_ge m j with h' | h'
          · exact hne.out m y h' hy
          · obtain rfl : m = j := by omega
            rw [HY.out.1] at hy
            cases hy
            exact HK.out
        case measure => simp [intOf]; omega
    · obtain rfl : j = t.slots.length := by omega
      have hmiss := any_miss fun m y hy => hne.out m y (List.getElem?_eq_some_iff.1 hy).1 hy
      have s0 := hUW.get HX.out.1
      have a0 := cell_of s0 0; have a1 := cell_of s0 1; have a2 := cell_of s0 2; have f0 := ice_of s0 0; have f1 := ice_of s0 1; have f2 := ice_of s0 2; have a4 := lt_of_heap s0; (try simp only [World.size_alloc, List.getElem?_toArray, List.getElem?_cons_zero, List.getElem?_cons_succ] at a0 a1 a2 f0 f1 f2 a4); clear s0
      by_cases hf : H.used < H.room
      · have hd : decide (H.room ≤ H.used) = false := by simp; omega
        have hur2 : H.used < 1048576 := by have := HW.out.roomM; omega
        go_wp2_with fail
        go_quiet (fail)
        go_wp2_with fail
        refine range_named fun A W1 hA hW => ?_
        have hR1 : RRep W1 rb ⟨H.room, H.used + 1, H.things⟩ rs own ∧ Mut own own wr W1 := by
          subst hW
          have h5 := RRep.bump (HW1.out.up (show Up wr (wr.drewN nq) from uq))
          exact ⟨h5.1, (show Up wr (wr.drewN nq) from uq).mut own |>.trans h5.2⟩
        have hC1 : Hid (W1.heap[w.heap.size + 1 + 1]? = some (.cells #[.int .i64 0, .int .i64 0, .string ⟨#[]⟩, .string ⟨#[]⟩, .int .i64 0] 56 (0, 0))) := by subst hW; unfold Hid; rw [setCell_other (by omega)]; exact hB1.out
        have hC2 : Hid (W1.heap[w.heap.size + 1]? = some (.cells #[.int .i64 x.k, .int .i64 x.n, .string x.s] 34 (0, 0))) := by subst hW; unfold Hid; rw [setCell_other (by omega)]; exact hB2.out
        have hC3 : Hid (W1.heap[w'.heap.size]? = some (.cells #[.int .i64 5, .int .i64 N, .string ps] 34 (0, 0))) := by subst hW; unfold Hid; rw [setCell_other (by omega)]; exact hB3.out
        clear hW a0 a1 a2 f0 f1 f2 a4
        obtain ⟨tg2, cap2, r2, h1, hr, c2, _, hi, ⟨cur2, hcur⟩, hrow⟩ := hR1.1.at2 HT.out.1
        obtain rfl : r2 = r := by rw [HX.out.2.2.2.2.2.2] at hr; cases hr; rfl
        have hsv := HX.out.2.2.2.2.2.1
        rw [hsv] at c2
        have HC := Lib.hid (And.intro h1 (And.intro hcur c2))
        have HI := Lib.hid (And.intro hi (And.intro hrow (And.intro hsv hr)))
        have hvals := Lib.hid (show W1.ownsRow 0 112 4 (.slice sa t.slots.length sc) t.slots.length (t.slots.flatMap slotCells) by rw [← hsv]; exact hi.slots.1)
        have HV := Lib.hid (show ∀ b, (Value.slice sa t.slots.length sc).ownBlock = some b → own b = some (N + 1, 0) from fun b e => hi.slots.2 b (by rw [hsv]; exact e))
        have i2 := ice_of hcur (N * 4 + 2)
        have ltg3 := lt_of_heap hcur
        have s0 := h1
        have a0 := cell_of s0 0; have a1 := cell_of s0 1; have a2 := cell_of s0 2; have f0 := ice_of s0 0; have f1 := ice_of s0 1; have f2 := ice_of s0 2; have a4 := lt_of_heap s0; (try simp only [World.size_alloc, List.getElem?_toArray, List.getElem?_cons_zero, List.getElem?_cons_succ] at a0 a1 a2 f0 f1 f2 a4); clear s0
        have s0 := hC2.out
        have a0 := cell_of s0 0; have a1 := cell_of s0 1; have a2 := cell_of s0 2; have f0 := ice_of s0 0; have f1 := ice_of s0 1; have f2 := ice_of s0 2; have a4 := lt_of_heap s0; (try simp only [World.size_alloc, List.getElem?_toArray, List.getElem?_cons_zero, List.getElem?_cons_succ] at a0 a1 a2 f0 f1 f2 a4); clear s0
        have s0 := hC3.out
        have a0 := cell_of s0 0; have a1 := cell_of s0 1; have a2 := cell_of s0 2; have f0 := ice_of s0 0; have f1 := ice_of s0 1; have f2 := ice_of s0 2; have a4 := lt_of_heap s0; (try simp only [World.size_alloc, List.getElem?_toArray, List.getElem?_cons_zero, List.getElem?_cons_succ] at a0 a1 a2 f0 f1 f2 a4); clear s0
        have hno : ∀ b, w.heap.size ≤ b → own b ≠ some (N + 1, 0) := fun b hb e => by have := HR.out.lt _ _ e; omega
        have hne1 : rb ≠ tg2 := fun e => by subst e; have := HI.out.2.1.2 rb rfl; rw [hR1.1.mine] at this; cases this
        have ltg0 := HR.out.lt _ _ (HI.out.2.1.2 tg2 rfl)
        dsimp only at *
        clear h1 hcur hi hrow hsv hr
        subst hA
        go_region_held3 (fun W => W.cell? ⟨rb, 2, none⟩ = some (.slice (some ⟨tg2, 0, none⟩) H.things.length cap2) ∧ W.cell? ⟨w'.heap.size, 1, none⟩ = some (.int .i64 N) ∧ W.cell? ⟨w.heap.size + 1, 0, none⟩ = some (.int .i64 x.k) ∧ W.cell? ⟨w.heap.size + 1, 1, none⟩ = some (.int .i64 x.n) ∧ W.cell? ⟨w.heap.size + 1, 2, none⟩ = some (.string x.s)) (((try dsimp only); (repeat' apply And.intro); all_goals (first | go_keep | ((simp (disch := omega) only [cell_set_ne']); assumption)))) (first | (go_at_call 38; refine (s_sane rb ⟨H.room, H.used + 1, H.things⟩ rs own _ _ _ _ (hR1.1.up uq) (Wf.more HW.out hf)).mono ?_; rintro e w3 ⟨rfl, hu3⟩; have hw3 : Up W1 w3 := uq; have s0 := hw3.get HC.out.1; have a0 := cell_of s0 0; have a1 := cell_of s0 1; have a2 := cell_of s0 2; have f0 := ice_of s0 0; have f1 := ice_of s0 1; have f2 := ice_of s0 2; have a4 := lt_of_heap s0; (try simp only [World.size_alloc, List.getElem?_toArray, List.getElem?_cons_zero, List.getElem?_cons_succ] at a0 a1 a2 f0 f1 f2 a4); clear s0; have s0 := hw3.get hC2.out; have a0 := cell_of s0 0; have a1 := cell_of s0 1; have a2 := cell_of s0 2; have f0 := ice_of s0 0; have f1 := ice_of s0 1; have f2 := ice_of s0 2; have a4 := lt_of_heap s0; (try simp only [World.size_alloc, List.getElem?_toArray, List.getElem?_cons_zero, List.getElem?_cons_succ] at a0 a1 a2 f0 f1 f2 a4); clear s0; have s0 := hw3.get hC3.out; have a0 := cell_of s0 0; have a1 := cell_of s0 1; have a2 := cell_of s0 2; have f0 := ice_of s0 0; have f1 := ice_of s0 1; have f2 := ice_of s0 2; have a4 := lt_of_heap s0; (try simp only [World.size_alloc, List.getElem?_toArray, List.getElem?_cons_zero, List.getElem?_cons_succ] at a0 a1 a2 f0 f1 f2 a4); clear s0; have c2 := (hw3.cells tg2 (N * 4 + 2) ltg3).trans HC.out.2.2; have i2 := ice_of (hw3.get HC.out.2.1) (N * 4 + 2); have ltg4 := Nat.lt_of_lt_of_le ltg3 hw3.size) | (refine step_append_new rfl _ _ 82 rfl 112 i0 (.agg #[.string ⟨#[]⟩, .int .i64 0, .int .i64 0, .string ⟨#[]⟩]) 4 48 Tryz.underlying82 hi0 y0 y1 y2 rfl (by decide) (.slice sa t.slots.length sc) t.slots.length (t.slots.flatMap slotCells) rfl (ownsRow_up hvals.out uq) _ 1 1 rfl ?_ rfl ?_ ?_ ?_ ?_; rfl; (simp [Value.oneCell']); (unfold maxLen; omega); omega; intro sa' cap' w4 hown' hgrow hblk; have s0 := grown_get hgrow (Up.get (w := W1) uq HC.out.1) (fun e => by have h9 := HV.out rb e; rw [hR1.1.mine] at h9; cases h9); have a0 := cell_of s0 0; have a1 := cell_of s0 1; have a2 := cell_of s0 2; have f0 := ice_of s0 0; have f1 := ice_of s0 1; have f2 := ice_of s0 2; have a4 := lt_of_heap s0; (try simp only [World.size_alloc, List.getElem?_toArray, List.getElem?_cons_zero, List.getElem?_cons_succ] at a0 a1 a2 f0 f1 f2 a4); clear s0; have s0 := grown_get hgrow (Up.get (w := W1) uq hC2.out) (fun e => hno _ (by omega) (HV.out _ e)); have a0 := cell_of s0 0; have a1 := cell_of s0 1; have a2 := cell_of s0 2; have f0 := ice_of s0 0; have f1 := ice_of s0 1; have f2 := ice_of s0 2; have a4 := lt_of_heap s0; (try simp only [World.size_alloc, List.getElem?_toArray, List.getElem?_cons_zero, List.getElem?_cons_succ] at a0 a1 a2 f0 f1 f2 a4); clear s0; have s0 := grown_get hgrow (Up.get (w := W1) uq hC3.out) (fun e => hno _ (by omega) (HV.out _ e)); have a0 := cell_of s0 0; have a1 := cell_of s0 1; have a2 := cell_of s0 2; have f0 := ice_of s0 0; have f1 := ice_of s0 1; have f2 := ice_of s0 2; have a4 := lt_of_heap s0; (try simp only [World.size_alloc, List.getElem?_toArray, List.getElem?_cons_zero, List.getElem?_cons_succ] at a0 a1 a2 f0 f1 f2 a4); clear s0; have s0 := grown_get hgrow (Up.get (w := W1) uq hC1.out) (fun e => hno _ (by omega) (HV.out _ e)); have b0 := cell_of s0 0; have g0 := ice_of s0 0; have b1 := cell_of s0 1; have g1 := ice_of s0 1; have b2 := cell_of s0 2; have g2 := ice_of s0 2; have b3 := cell_of s0 3; have g3 := ice_of s0 3; have b4 := cell_of s0 4; have g4 := ice_of s0 4; have b9 := lt_of_heap s0; (try simp only [World.size_alloc, List.getElem?_toArray, List.getElem?_cons_zero, List.getElem?_cons_succ] at b0 b1 b2 b3 b4 g0 g1 g2 g3 g4 b9); clear s0; have t0 := grown_get hgrow (Up.get (w := W1) uq HC.out.2.1) (fun e => by have h9 := HV.out tg2 e; rw [HI.out.2.1.2 tg2 rfl] at h9; cases h9); have i2 := ice_of t0 (N * 4 + 2); have c2 := (cell_of t0 (N * 4 + 2)).trans ((cell_of (Up.get (w := W1) uq HC.out.2.1) (N * 4 + 2)).symm.trans ((Up.cells (show Up W1 _ from uq) tg2 _ ltg3).trans HC.out.2.2)); have ltg5 := lt_of_heap t0; clear t0))
        all_goals
          have HG := Lib.hid (And.intro hown' (And.intro hgrow hblk))
          clear hown' hgrow hblk
          go_wp2_with fail
          have hRe : R = (⟨H.room, H.used + 1, H.things.set N ⟨t.kind, t.proto, t.slots ++ [(key, plainS H x)], t.vals⟩⟩, ⟨#[]⟩, 0) := by
            rw [← hS.out, hset.out, hmiss, if_neg (by simp), if_pos hf, HM.setAt, HT.out.1]
            dsimp only
            rw [setSlot_miss _ (fun y hy => by obtain ⟨m, hm⟩ := List.getElem?_of_mem hy; exact hne.out m y (List.getElem?_eq_some_iff.1 hm).1 hm)]
          subst hRe
          refine bodyPost_eq (by (simp [results, Tryz.results25, go_sem, *]) <;> rfl) rfl rfl ?_
          obtain ⟨hown', hgrow, hblk⟩ := HG.out
          obtain ⟨own', h1, h2⟩ := RRep.slotted (x := (key, plainS H x)) (hR1.1.up uq) HT.out.1 HI.out.2.2.2 (Up.get (w := W1) uq HC.out.1) (HI.out.2.1.up uq) (HI.out.1.up uq) HI.out.2.2.1 hown' hgrow (by simpa only [World.size_alloc] using hblk)
          exact RWrote.off h1 (((hUW.mut own).trans (hR1.2.up uq)).trans h2) (w.heap.size + 1 + 1) (by omega) (by
            rw [h2.ext _ (lt_of_heap (Up.get (w := W1) uq hC1.out))]
            cases ho : own (w.heap.size + 1 + 1) with
            | none => rfl
            | some m => have := HR.out.lt _ _ ho; omega) (by repeat (first | with_reducible exact Kept.refl _ _ | with_reducible refine Kept.alloc ?_ _ | with_reducible refine Kept.drew ?_ | with_reducible refine Kept.drewN ?_ _ | with_reducible refine Kept.setCell ?_ (by first | exact .inl rfl | exact .inr (by first | omega | (simp; omega))) _)) rfl
      · have hd : decide (H.room ≤ H.used) = true := by simp; omega
        have s0 := hB1.out
        have b0 := cell_of s0 0; have g0 := ice_of s0 0; have b1 := cell_of s0 1; have g1 := ice_of s0 1; have b2 := cell_of s0 2; have g2 := ice_of s0 2; have b3 := cell_of s0 3; have g3 := ice_of s0 3; have b4 := cell_of s0 4; have g4 := ice_of s0 4; have b9 := lt_of_heap s0; (try simp only [World.size_alloc, List.getElem?_toArray, List.getElem?_cons_zero, List.getElem?_cons_succ] at b0 b1 b2 b3 b4 g0 g1 g2 g3 g4 b9); clear s0
        go_wp2_with fail
        go_quiet (fail)
        go_wp2_with fail
        have hRe : R = (H, ⟨#[]⟩, 3) := by rw [← hS.out, hset.out, hmiss, if_neg (by simp), if_neg (by omega)]
        subst hRe
        refine bodyPost_eq (by (simp [results, Tryz.results25, go_sem, *]) <;> rfl) rfl rfl ?_
        exact RWrote.same HR.out rfl uq

end Go.Proofs.YtmbipadiaggolaaGreatDoor
