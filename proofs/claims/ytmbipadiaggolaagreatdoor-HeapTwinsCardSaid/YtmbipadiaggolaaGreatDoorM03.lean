import Derived.Test.YtmbipadiaggolaaGreatDoorM01
import Derived.Test.YtmbipadiaggolaaGreatDoorM02
/- YtmbipadiaggolaaGreatDoorM03: lemmas of the proof, in order: HeapR. -/
/- What a call that writes its heap leaves alone; how a heap is laid anew behind a change. -/
namespace Go.Proofs.YtmbipadiaggolaaGreatDoor
open Go.RowKit

abbrev Own := Nat → Option (Nat × Nat)

/-- the owner has written to blocks of its own, and may have more -/
structure Mut (own own' : Own) (w w' : World) : Prop where
  os : w'.os = w.os
  tape : w'.tape = w.tape
  output : w'.output = w.output
  size : w.heap.size ≤ w'.heap.size
  block : ∀ b, b < w.heap.size → own b = none → w'.heap[b]? = w.heap[b]?
  ext : ∀ b, b < w.heap.size → own' b = own b

theorem Mut.refl (own : Own) (w : World) : Mut own own w w := ⟨rfl, rfl, rfl, Nat.le_refl _, fun _ _ _ => rfl, fun _ _ => rfl⟩
theorem Mut.trans {o1 o2 o3 : Own} {a b c : World} (h : Mut o1 o2 a b) (k : Mut o2 o3 b c) : Mut o1 o3 a c :=
  ⟨k.os.trans h.os, k.tape.trans h.tape, k.output.trans h.output, Nat.le_trans h.size k.size,
   fun x hx hn => (k.block x (Nat.lt_of_lt_of_le hx h.size) (by rw [h.ext x hx]; exact hn)).trans (h.block x hx hn),
   fun x hx => (k.ext x (Nat.lt_of_lt_of_le hx h.size)).trans (h.ext x hx)⟩
theorem Up.mut {a b : World} (h : Up a b) (own : Own) : Mut own own a b := ⟨h.os, h.tape, h.output, h.size, fun x hx _ => h.block x hx, fun _ _ => rfl⟩
theorem Mut.up {o1 o2 : Own} {a b c : World} (h : Mut o1 o2 a b) (k : Up b c) : Mut o1 o2 a c := h.trans (k.mut o2)
theorem Mut.after {o1 o2 : Own} {a b c : World} (k : Up a b) (h : Mut o1 o2 b c) : Mut o1 o2 a c := (k.mut o1).trans h

theorem Row.keep {w w' : World} {own own' : Own} {m : Nat × Nat} {e : TypeId} {size : Nat} {v : Value} {n : Nat} {xs : List Value} (h : Row w own m e size v n xs)
    (hk : ∀ b, own b = some m → w'.heap[b]? = w.heap[b]? ∧ own' b = own b) : Row w' own' m e size v n xs := by
  obtain ⟨⟨h1, h2⟩, h3⟩ := h
  refine ⟨⟨h1, ?_⟩, fun g hg => by rw [(hk g (h3 g hg)).2]; exact h3 g hg⟩
  rcases h2 with h2 | ⟨g, cap, cur, hv, hg, hc, r⟩
  · exact .inl h2
  · exact .inr ⟨g, cap, cur, hv, hg, by rw [(hk g (h3 g (by rw [hv]; rfl))).1]; exact hc, r⟩

theorem MapIs.keep {w w' : World} {own own' : Own} {m : Nat × Nat} {v : Value} {l : List (ByteArray × Val)} (h : MapIs w own m v l) (hk : ∀ b, own b = some m → w'.heap[b]? = w.heap[b]? ∧ own' b = own b) : MapIs w' own' m v l := by
  rcases h with h | ⟨g, es, clk, hv, ho, hg, r⟩
  · exact .inl h
  · exact .inr ⟨g, es, clk, hv, by rw [(hk g ho).2]; exact ho, by rw [(hk g ho).1]; exact hg, r⟩

theorem protoV_more {tvs : List Value} {tvs' : List Value} {p : Int} {i : Nat} (hp : p < i) (hi : i ≤ tvs.length) (he : ∀ j, j < tvs.length → tvs'[j]? = tvs[j]?) : protoV tvs' p = protoV tvs p := by
  unfold protoV
  by_cases h : p < 0
  · rw [if_pos h, if_pos h]
  · rw [if_neg h, if_neg h, List.getD, List.getD, he _ (by omega)]

theorem ThingIs.keep {w w' : World} {own own' : Own} {tvs tvs' : List Value} {i : Nat} {t : Thing} {v : Value} (h : ThingIs w own tvs i t v) (hi : i ≤ tvs.length) (he : ∀ j, j < tvs.length → tvs'[j]? = tvs[j]?)
    (hk : ∀ b m, own b = some m → m.1 = i + 1 → w'.heap[b]? = w.heap[b]? ∧ own' b = own b) : ThingIs w' own' tvs' i t v := by
  cases h with
  | arr vals b av hb hc hr =>
    exact .arr vals b av (by rw [(hk b _ hb rfl).2]; exact hb) (by rw [(hk b _ hb rfl).1]; exact hc) (hr.keep fun b hb => hk b _ hb rfl)
  | obj k p l b mv kv hk' hp hpi hb hc hm hr hn =>
    rw [← protoV_more hpi hi he]
    exact .obj k p l b mv kv hk' hp hpi (by rw [(hk b _ hb rfl).2]; exact hb) (by rw [(hk b _ hb rfl).1]; exact hc) (hm.keep fun b hb => hk b _ hb rfl) (hr.keep fun b hb => hk b _ hb rfl) hn

theorem ownBlock_lt {w : World} {base : Nat} {e : TypeId} {size : Nat} {v : Value} {n : Nat} {xs : List Value} (h : w.ownsRow base e size v n xs) {g : Nat} (hg : v.ownBlock = some g) : g < w.heap.size := (h.lt g hg).2

/-- a cell is taken -/
theorem Rep.bump {w : World} {hb : Nat} {H : HM} {tvs : List Value} {own : Own} (h : Rep w hb H tvs own) (hlt : H.used < H.room) (n : Nat) :
    Rep ((w.drewN n).setCell ⟨hb, 1, none⟩ (.int .i64 (H.used + 1))) hb ⟨H.room, H.used + 1, H.things⟩ tvs own ∧ Mut own own w ((w.drewN n).setCell ⟨hb, 1, none⟩ (.int .i64 (H.used + 1))) := by
  have hot : ∀ b, b ≠ hb → ((w.drewN n).setCell ⟨hb, 1, none⟩ (.int .i64 (H.used + 1))).heap[b]? = w.heap[b]? := fun b hne => setCell_other hne _
  obtain ⟨sv, h1, h2⟩ := h.head
  have hkeep : ∀ b m, own b = some m → m ≠ (0, 0) → ((w.drewN n).setCell ⟨hb, 1, none⟩ (.int .i64 (H.used + 1))).heap[b]? = w.heap[b]? ∧ own b = own b := fun b m hm hne => ⟨hot b (fun e => by subst e; rw [h.mine] at hm; cases hm; exact hne rfl), rfl⟩
  constructor
  · exact {
      lt := fun b m hm => by rw [setCell_size]; exact h.lt b m hm
      mine := h.mine
      head := ⟨sv, setCell_block (w := w.drewN n) h1 _, h2.keep fun b hb' => hkeep b _ hb' (by simp)⟩
      len := h.len
      things := fun i t ht => by
        obtain ⟨tv, h3, h4⟩ := h.things i t ht
        refine ⟨tv, h3, h4.keep ?_ (fun _ _ => rfl) fun b m hm hi => hkeep b m hm (fun e => by rw [e] at hi; simp at hi)⟩
        have := h.len
        rcases Nat.lt_or_ge i H.things.length with h' | h'
        · omega
        · rw [List.getElem?_eq_none h'] at ht; cases ht
      room0 := by have := h.room0; show (0 : Int) ≤ H.used + 1; omega
      roomU := by show H.used + 1 ≤ H.room; omega
      roomM := h.roomM
      few := by have := h.few; show (sizes H.things : Int) ≤ H.used + 1; omega }
  · exact ⟨rfl, rfl, rfl, by rw [setCell_size]; exact Nat.le_refl _, fun b _ hn => hot b (fun e => by rw [e, h.mine] at hn; cases hn), fun _ _ => rfl⟩

/-- a new thing behind the others: its own blocks were laid ahead (own1), its value was appended to the row, the row stored back -/
theorem Rep.pushed {w0 W w2 : World} {hb : Nat} {H : HM} {tvs : List Value} {own own1 : Own} {t : Thing} {tv sv : Value} {c0 c1 : Value} {sa : Option Addr} {cap : Nat}
    (h : Rep W hb H tvs own) (hu0 : Up w0 W) (hhead : W.heap[hb]? = some (.cells #[c0, c1, sv] 46 (0, 0))) (hrow : Row W own (0, 1) 79 1 sv tvs.length tvs)
    (hsame : ∀ b m, own b = some m → own1 b = some m) (hnew : ∀ b m, own1 b = some m → own b = some m ∨ (w0.heap.size ≤ b ∧ b < W.heap.size ∧ m.1 = tvs.length + 1))
    (ht : ThingIs W own1 (tvs ++ [tv]) tvs.length t tv) (hroom : (sizes H.things : Int) + t.size ≤ H.used)
    (hown : w2.ownsRow 0 79 1 (.slice sa (tvs.length + 1) cap) (tvs.length + 1) (tvs ++ [tv])) (hgrow : W.grownBy w2 sv.ownBlock)
    (hblk : (Value.slice sa (tvs.length + 1) cap).ownBlock = sv.ownBlock ∨ ∃ g, (Value.slice sa (tvs.length + 1) cap).ownBlock = some g ∧ W.heap.size ≤ g) :
    ∃ own', Rep (w2.setCell ⟨hb, 2, none⟩ (.slice sa (tvs.length + 1) cap)) hb ⟨H.room, H.used, H.things ++ [t]⟩ (tvs ++ [tv]) own' ∧ Mut own own' w0 (w2.setCell ⟨hb, 2, none⟩ (.slice sa (tvs.length + 1) cap)) := by
  have hw2 : W.heap.size ≤ w2.heap.size := hgrow.size
  have hhb : hb < W.heap.size := lt_of_heap hhead
  have hnb : ∀ b m, own b = some m → m ≠ (0, 1) → some b ≠ sv.ownBlock := fun b m hm hne e => by
    have := hrow.2 b e.symm
    rw [hm] at this; cases this; exact hne rfl
  have hgb : ∀ g, (Value.slice sa (tvs.length + 1) cap).ownBlock = some g → own g = some (0, 1) ∨ W.heap.size ≤ g := fun g hg => by
    rcases hblk with hk | ⟨g', hk, hk'⟩
    · exact .inl (hrow.2 g (by rw [← hk]; exact hg))
    · rw [hk] at hg; cases hg; exact .inr hk'
  have hgne : ∀ g b m, (Value.slice sa (tvs.length + 1) cap).ownBlock = some g → own1 b = some m → m ≠ (0, 1) → b ≠ g := fun g b m hg hm hne e => by
    subst e
    have hb1 : b < W.heap.size := by
      rcases hnew b m hm with h' | ⟨_, h', _⟩
      · exact h.lt b m h'
      · exact h'
    rcases hgb b hg with h' | h'
    · have := hsame _ _ h'
      rw [hm] at this; cases this; exact hne rfl
    · omega
  have hglt : ∀ g, (Value.slice sa (tvs.length + 1) cap).ownBlock = some g → g < w2.heap.size := fun g hg => ownBlock_lt hown hg
  have hmine1 := hsame _ _ h.mine
  -- what is kept of the blocks
  have hkeep : ∀ b m, own1 b = some m → m ≠ (0, 0) → m ≠ (0, 1) → (w2.setCell ⟨hb, 2, none⟩ (.slice sa (tvs.length + 1) cap)).heap[b]? = W.heap[b]? := fun b m hm h0 h1 => by
    have hne : b ≠ hb := fun e => by subst e; rw [hm] at hmine1; cases hmine1; exact h0 rfl
    rw [setCell_other hne]
    have hb1 : b < W.heap.size := by
      rcases hnew b m hm with h' | ⟨_, h', _⟩
      · exact h.lt b m h'
      · exact h'
    refine hgrow.block b hb1 fun e => ?_
    have h5 := hsame _ _ (hrow.2 b e.symm)
    rw [hm] at h5; cases h5; exact h1 rfl
  refine ⟨fun b => if (Value.slice sa (tvs.length + 1) cap).ownBlock = some b then some (0, 1) else own1 b, ?_, ?_⟩
  · have hown' : ∀ b m, own1 b = some m → m ≠ (0, 1) → (if (Value.slice sa (tvs.length + 1) cap).ownBlock = some b then some (0, 1) else own1 b) = own1 b := fun b m hm hne => by
      rw [if_neg]
      intro hg
      exact hgne b b m hg hm hne rfl
    have hbhb : (w2.setCell ⟨hb, 2, none⟩ (.slice sa (tvs.length + 1) cap)).heap[hb]? = some (.cells #[c0, c1, .slice sa (tvs.length + 1) cap] 46 (0, 0)) := by
      have h5 : w2.heap[hb]? = some (.cells #[c0, c1, sv] 46 (0, 0)) := by
        rw [hgrow.block hb hhb (hnb hb _ h.mine (by simp))]; exact hhead
      have := setCell_block (i := 2) h5 (.slice sa (tvs.length + 1) cap)
      simpa using this
    obtain ⟨sv', hh, _⟩ := h.head
    rw [hhead] at hh
    simp only [Option.some.injEq, Obj.cells.injEq, and_true] at hh
    have hc0 : c0 = .int .i64 H.room := by have := congrArg (fun a => a[0]?) hh; simpa using this
    have hc1 : c1 = .int .i64 H.used := by have := congrArg (fun a => a[1]?) hh; simpa using this
    exact {
      lt := fun b m hm => by
        rw [setCell_size]
        by_cases hg : (Value.slice sa (tvs.length + 1) cap).ownBlock = some b
        · exact hglt b hg
        · rw [if_neg hg] at hm
          rcases hnew b m hm with h' | ⟨_, h', _⟩
          · exact Nat.lt_of_lt_of_le (h.lt b m h') hw2
          · omega
      mine := by rw [hown' hb _ hmine1 (by simp)]; exact hmine1
      head := ⟨.slice sa (tvs.length + 1) cap, by rw [hbhb, hc0, hc1], by
        rw [List.length_append, List.length_singleton]
        refine ⟨⟨hown.1, ?_⟩, fun g hg => by simp [hg]⟩
        rcases hown.2 with h2 | ⟨g, cap', cur, hv, hg, hc, r⟩
        · exact .inl h2
        · refine .inr ⟨g, cap', cur, hv, hg, ?_, r⟩
          rw [setCell_other]
          · exact hc
          · intro e
            subst e
            exact hgne g g _ (by rw [hv]; rfl) hmine1 (by simp) rfl⟩
      len := by simp [h.len]
      things := fun i t' ht' => by
        rcases Nat.lt_or_ge i H.things.length with hi | hi
        · rw [List.getElem?_append_left hi] at ht'
          obtain ⟨tv', h3, h4⟩ := h.things i t' ht'
          refine ⟨tv', by rw [List.getElem?_append_left (by rw [h.len]; exact hi)]; exact h3, h4.keep (by rw [h.len]; omega) (fun j hj => List.getElem?_append_left hj) fun b m hm hmi => ?_⟩
          have hm1 := hsame b m hm
          have hx : m.1 ≠ 0 := by omega
          have n0 : m ≠ (0, 0) := fun e => hx (by rw [e])
          have n1 : m ≠ (0, 1) := fun e => hx (by rw [e])
          refine ⟨hkeep b m hm1 n0 n1, ?_⟩
          show (if _ then _ else _) = _
          rw [hown' b m hm1 n1, hm1, hm]
        · rw [List.getElem?_append_right hi] at ht'
          have hi0 : i = tvs.length := by
            rcases Nat.lt_or_ge (i - H.things.length) 1 with h' | h'
            · rw [h.len]; omega
            · rw [List.getElem?_eq_none (by simpa using h')] at ht'; cases ht'
          have ht2 : t' = t := by
            have : i - H.things.length = 0 := by rw [hi0, h.len]; omega
            rw [this] at ht'; simpa using ht'.symm
          subst ht2
          subst hi0
          refine ⟨tv, by simp, ht.keep (by simp) (fun j _ => rfl) fun b m hm hmi => ?_⟩
          have hx : m.1 ≠ 0 := by omega
          have n0 : m ≠ (0, 0) := fun e => hx (by rw [e])
          have n1 : m ≠ (0, 1) := fun e => hx (by rw [e])
          exact ⟨hkeep b m hm n0 n1, hown' b m hm n1⟩
      room0 := h.room0
      roomU := h.roomU
      roomM := h.roomM
      few := by show (sizes (H.things ++ [t]) : Int) ≤ H.used; rw [sizes_append]; omega }
  · exact ⟨hgrow.os.trans hu0.os, hgrow.tape.trans hu0.tape, hgrow.output.trans hu0.output, by rw [setCell_size]; exact Nat.le_trans hu0.size hw2,
      fun b hb0 hn => by
        have hne : b ≠ hb := fun e => by rw [e, h.mine] at hn; cases hn
        rw [setCell_other hne, hgrow.block b (Nat.lt_of_lt_of_le hb0 hu0.size) (fun e => by have := hrow.2 b e.symm; rw [hn] at this; cases this)]
        exact hu0.block b hb0,
      fun b hb0 => by
        show (if _ then _ else _) = _
        by_cases hg : (Value.slice sa (tvs.length + 1) cap).ownBlock = some b
        · rw [if_pos hg]
          rcases hgb b hg with h' | h'
          · exact h'.symm
          · have := hu0.size; omega
        · rw [if_neg hg]
          cases ho : own b with
          | some m => exact hsame b m ho
          | none =>
            cases ho1 : own1 b with
            | none => rfl
            | some m =>
              rcases hnew b m ho1 with h' | ⟨h', _, _⟩
              · rw [ho] at h'; cases h'
              · omega⟩

end Go.Proofs.YtmbipadiaggolaaGreatDoor
