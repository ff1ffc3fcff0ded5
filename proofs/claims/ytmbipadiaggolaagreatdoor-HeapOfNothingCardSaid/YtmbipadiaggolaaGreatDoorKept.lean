import Derived.Test.YtmbipadiaggolaaGreatDoorHeapR
import Derived.StillTailTactics
import Derived.Deep.RegionHeld3
/- A world in which blocks of a set alone may have turned. -/
namespace Go.Proofs.YtmbipadiaggolaaGreatDoor
open Go.RowKit

structure Kept (S : Nat → Prop) (w w' : World) : Prop where
  os : w'.os = w.os
  tape : w'.tape = w.tape
  output : w'.output = w.output
  size : w.heap.size ≤ w'.heap.size
  block : ∀ b, b < w.heap.size → ¬ S b → w'.heap[b]? = w.heap[b]?

theorem Kept.refl (S : Nat → Prop) (w : World) : Kept S w w := ⟨rfl, rfl, rfl, Nat.le_refl _, fun _ _ _ => rfl⟩
theorem Kept.trans {S : Nat → Prop} {a b c : World} (h : Kept S a b) (k : Kept S b c) : Kept S a c :=
  ⟨k.os.trans h.os, k.tape.trans h.tape, k.output.trans h.output, Nat.le_trans h.size k.size, fun x hx hn => (k.block x (Nat.lt_of_lt_of_le hx h.size) hn).trans (h.block x hx hn)⟩
theorem Kept.up {S : Nat → Prop} {a b c : World} (h : Kept S a b) (k : Up b c) : Kept S a c := h.trans ⟨k.os, k.tape, k.output, k.size, fun x hx _ => k.block x hx⟩
theorem Kept.of_up {S : Nat → Prop} {a b : World} (k : Up a b) : Kept S a b := ⟨k.os, k.tape, k.output, k.size, fun x hx _ => k.block x hx⟩
theorem Kept.alloc {S : Nat → Prop} {a w : World} (h : Kept S a w) (o : Obj) : Kept S a (w.alloc o) := h.up ((Up.refl w).alloc o)
theorem Kept.drew {S : Nat → Prop} {a w : World} (h : Kept S a w) : Kept S a w.drew := h.up (Up.refl w).drew
theorem Kept.drewN {S : Nat → Prop} {a w : World} (h : Kept S a w) (n : Nat) : Kept S a (w.drewN n) := h.up ((Up.refl w).drewN n)
theorem Kept.setCell {S : Nat → Prop} {a w : World} (h : Kept S a w) {p : Addr} (hp : S p.block ∨ a.heap.size ≤ p.block) (v : Value) : Kept S a (w.setCell p v) :=
  ⟨h.os, h.tape, h.output, by rw [setCell_size]; exact h.size, fun b hb hn => by
    rw [Below.heap_setCell _ _ _ _ (fun e => by
      subst e
      rcases hp with hp | hp
      · exact hn hp
      · omega)]
    exact h.block b hb hn⟩
theorem Kept.putB {S : Nat → Prop} {a w : World} (h : Kept S a w) {g : Nat} (hp : S g ∨ a.heap.size ≤ g) (o : Obj) : Kept S a (putB w g o) :=
  ⟨h.os, h.tape, h.output, by rw [putB_size]; exact h.size, fun b hb hn => by
    rw [putB_other _ _ _ _ (fun e => by
      subst e
      rcases hp with hp | hp
      · exact hn hp
      · omega)]
    exact h.block b hb hn⟩
theorem Kept.grow {S : Nat → Prop} {a w w' : World} {r : Option Nat} (h : Kept S a w) (hg : w.grownBy w' r) (hp : ∀ k, r = some k → S k ∨ a.heap.size ≤ k) : Kept S a w' :=
  ⟨hg.os.trans h.os, hg.tape.trans h.tape, hg.output.trans h.output, Nat.le_trans h.size hg.size, fun b hb hn => by
    rw [hg.block b (Nat.lt_of_lt_of_le hb h.size) (fun e => by
      rcases hp b e.symm with hp | hp
      · exact hn hp
      · omega)]
    exact h.block b hb hn⟩
theorem Kept.mono {S T : Nat → Prop} {a b : World} (h : Kept S a b) (hs : ∀ x, x < a.heap.size → S x → T x) : Kept T a b := ⟨h.os, h.tape, h.output, h.size, fun x hx hn => h.block x hx fun hs' => hn (hs x hx hs')⟩
theorem Kept.get {S : Nat → Prop} {a b : World} (h : Kept S a b) {x : Nat} {o : Obj} (hx : a.heap[x]? = some o) (hn : ¬ S x) : b.heap[x]? = some o := by
  rw [h.block x (lt_of_heap hx) hn]; exact hx

/-- the blocks of one thing -/
def Of (own : Own) (i : Nat) (b : Nat) : Prop := ∃ m, own b = some m ∧ m.1 = i + 1

theorem getSet {α : Type} (l : List α) (i j : Nat) (x y : α) (h : (l.set i x)[j]? = some y) : (j = i ∧ y = x) ∨ (j ≠ i ∧ l[j]? = some y) := by
  rw [List.getElem?_set] at h
  by_cases hij : i = j
  · rw [if_pos hij] at h
    split at h
    · exact .inl ⟨hij.symm, by simpa using h.symm⟩
    · cases h
  · rw [if_neg hij] at h
    exact .inr ⟨fun e => hij e.symm, h⟩

/-- one thing has turned, in its own blocks and new ones -/
theorem Rep.turned {w w' : World} {hb : Nat} {H : HM} {tvs : List Value} {own own' : Own} {i : Nat} {t t' : Thing} {tv : Value} (h : Rep w hb H tvs own) (hk : Kept (Of own i) w w')
    (hext : ∀ b, b < w.heap.size → own' b = own b) (hnew : ∀ b m, own' b = some m → b < w'.heap.size ∧ (w.heap.size ≤ b → m.1 = i + 1)) (ht : H.things[i]? = some t) (htv : tvs[i]? = some tv) (hti : ThingIs w' own' tvs i t' tv) (hsz : (sizes (H.things.set i t') : Int) ≤ H.used) :
    Rep w' hb ⟨H.room, H.used, H.things.set i t'⟩ tvs own' ∧ Mut own own' w w' := by
  have hother : ∀ b m, own b = some m → m.1 ≠ i + 1 → w'.heap[b]? = w.heap[b]? ∧ own' b = own b := fun b m hm hne =>
    ⟨hk.block b (h.lt b m hm) (fun ⟨m', h1, h2⟩ => by rw [hm] at h1; cases h1; exact hne h2), hext b (h.lt b m hm)⟩
  constructor
  · exact {
      lt := fun b m hm => (hnew b m hm).1
      mine := by rw [(hother hb _ h.mine (by simp)).2]; exact h.mine
      head := by
        obtain ⟨sv, h1, h2⟩ := h.head
        exact ⟨sv, by rw [(hother hb _ h.mine (by simp)).1]; exact h1, h2.keep fun b hb' => hother b _ hb' (by simp)⟩
      len := by simp [h.len]
      things := fun j u hu => by
        rcases getSet _ _ _ _ _ hu with ⟨rfl, rfl⟩ | ⟨hne, hu⟩
        · exact ⟨tv, htv, hti⟩
        · obtain ⟨tv', h1, h2⟩ := h.things j u hu
          refine ⟨tv', h1, h2.keep ?_ (fun _ _ => rfl) fun b m hm hmj => hother b m hm (by omega)⟩
          rcases Nat.lt_or_ge j tvs.length with h' | h'
          · omega
          · rw [List.getElem?_eq_none h'] at h1; cases h1
      room0 := h.room0
      roomU := h.roomU
      roomM := h.roomM
      few := hsz }
  · exact ⟨hk.os, hk.tape, hk.output, hk.size, fun b hb' hn => hk.block b hb' (fun ⟨m, h1, _⟩ => by rw [hn] at h1; cases h1), hext⟩

theorem ownsRow_keep {w w' : World} {base : Nat} {e : TypeId} {size : Nat} {v : Value} {n : Nat} {xs : List Value} (h : w.ownsRow base e size v n xs) (hk : ∀ g, v.ownBlock = some g → w'.heap[g]? = w.heap[g]?) : w'.ownsRow base e size v n xs := by
  obtain ⟨h1, h2⟩ := h
  refine ⟨h1, ?_⟩
  rcases h2 with h2 | ⟨g, cap, cur, hv, hg, hc, r⟩
  · exact .inl h2
  · exact .inr ⟨g, cap, cur, hv, hg, by rw [hk g (by rw [hv]; rfl)]; exact hc, r⟩

/-- a region whose last operations stand in one order, the world under its name -/
theorem wp_region_tail {P : Program} {id : Nat} {Q : Exit → Act → World → Prop} {a : Act} {w : World} {l : List Oper} (n : Nat) (hm : P.follows .mixedOrders = true) (hB : Region.lexTailB .any l.toArray n = true)
    (h : wpStill P l.toArray w.drew (fun a' => wpList P l.toArray Q (l.drop n) a' w.drew) (l.take n) a) : (Code.region id l.toArray true).wp P Q a w := wp_region_still_tail n hm hB h

theorem str_info : (Tryz.prog.info? 9).map (fun i => (i.zero, i.size, i.bytes)) = some (some (.string ⟨#[]⟩), 1, 16) := by kernel_rfl

theorem grown_get {W w2 : World} {r : Option Nat} {b : Nat} {o : Obj} (hg : W.grownBy w2 r) (h : W.heap[b]? = some o) (hne : r ≠ some b) : w2.heap[b]? = some o := by
  rw [hg.block b (lt_of_heap h) (fun e => hne e.symm)]; exact h

theorem ownsRow_up {w w' : World} {base : Nat} {e : TypeId} {size : Nat} {v : Value} {n : Nat} {xs : List Value} (h : w.ownsRow base e size v n xs) (hu : Up w w') : w'.ownsRow base e size v n xs := by
  obtain ⟨h1, h2⟩ := h
  refine ⟨h1, ?_⟩
  rcases h2 with h2 | ⟨g, cap, cur, hv, hg, hc, r⟩
  · exact .inl h2
  · exact .inr ⟨g, cap, cur, hv, hg, hu.get hc, r⟩

theorem ownsRow_ne {w : World} {base : Nat} {e : TypeId} {size : Nat} {v : Value} {n : Nat} {xs : List Value} (h : w.ownsRow base e size v n xs) {b : Nat} (hb : w.heap.size ≤ b) : v.ownBlock ≠ some b := fun e => by
  have := ownBlock_lt h e; omega

end Go.Proofs.YtmbipadiaggolaaGreatDoor
