import Derived.StillTailTactics
import Derived.Deep.RegionHeld3
import Derived.Test.YtmbipadiaggolaaGreatDoorM03
import Derived.Test.YtmbipadiaggolaaGreatDoorM04
/- YtmbipadiaggolaaGreatDoorM05: lemmas of the proof, in order: Kept, HeapW6, HeapW7. -/
/- A world in which blocks of a set alone may have turned. -/
namespace Go.Proofs.YtmbipadiaggolaaGreatDoor
open Go.RowKit

structure Kept (S : Nat → Prop) (w w' : World) : Prop where
  os : w'.os = w.os
  tape : w'.tape = w.tape
  output : w'.output = w.output
  size : w.heap.size ≤ w'.heap.size
  block : ∀ b, b < w.heap.size → ¬ S b → w'.heap[b]? = w.heap[b]?

theorem Kept.refl (S : Nat → Prop) (w : World) : Kept S w w := ⟨rfl, rfl, rfl, Nat.le_refl _, fun _ _ _ => rfl⟩
theorem Kept.trans {S : Nat → Prop} {a b c : World} (h : Kept S a b) (k : Kept S b c) : Kept S a c :=
  ⟨k.os.trans h.os, k.tape.trans h.tape, k.output.trans h.output, Nat.le_trans h.size k.size, fun x hx hn => (k.block x (Nat.lt_of_lt_of_le hx h.size) hn).trans (h.block x hx hn)⟩
theorem Kept.up {S : Nat → Prop} {a b c : World} (h : Kept S a b) (k : Up b c) : Kept S a c := h.trans ⟨k.os, k.tape, k.output, k.size, fun x hx _ => k.block x hx⟩
theorem Kept.of_up {S : Nat → Prop} {a b : World} (k : Up a b) : Kept S a b := ⟨k.os, k.tape, k.output, k.size, fun x hx _ => k.block x hx⟩
theorem Kept.alloc {S : Nat → Prop} {a w : World} (h : Kept S a w) (o : Obj) : Kept S a (w.alloc o) := h.up ((Up.refl w).alloc o)
theorem Kept.drew {S : Nat → Prop} {a w : World} (h : Kept S a w) : Kept S a w.drew := h.up (Up.refl w).drew
theorem Kept.drewN {S : Nat → Prop} {a w : World} (h : Kept S a w) (n : Nat) : Kept S a (w.drewN n) := h.up ((Up.refl w).drewN n)
theorem Kept.setCell {S : Nat → Prop} {a w : World} (h : Kept S a w) {p : Addr} (hp : S p.block ∨ a.heap.size ≤ p.block) (v : Value) : Kept S a (w.setCell p v) :=
  ⟨h.os, h.tape, h.output, by rw [setCell_size]; exact h.size, fun b hb hn => by
    rw [Below.heap_setCell _ _ _ _ (fun e => by
      subst e
      rcases hp with hp | hp
      · exact hn hp
      · omega)]
    exact h.block b hb hn⟩
theorem Kept.putB {S : Nat → Prop} {a w : World} (h : Kept S a w) {g : Nat} (hp : S g ∨ a.heap.size ≤ g) (o : Obj) : Kept S a (putB w g o) :=
  ⟨h.os, h.tape, h.output, by rw [putB_size]; exact h.size, fun b hb hn => by
    rw [putB_other _ _ _ _ (fun e => by
      subst e
      rcases hp with hp | hp
      · exact hn hp
      · omega)]
    exact h.block b hb hn⟩
theorem Kept.grow {S : Nat → Prop} {a w w' : World} {r : Option Nat} (h : Kept S a w) (hg : w.grownBy w' r) (hp : ∀ k, r = some k → S k ∨ a.heap.size ≤ k) : Kept S a w' :=
  ⟨hg.os.trans h.os, hg.tape.trans h.tape, hg.output.trans h.output, Nat.le_trans h.size hg.size, fun b hb hn => by
    rw [hg.block b (Nat.lt_of_lt_of_le hb h.size) (fun e => by
      rcases hp b e.symm with hp | hp
      · exact hn hp
      · omega)]
    exact h.block b hb hn⟩
theorem Kept.mono {S T : Nat → Prop} {a b : World} (h : Kept S a b) (hs : ∀ x, x < a.heap.size → S x → T x) : Kept T a b := ⟨h.os, h.tape, h.output, h.size, fun x hx hn => h.block x hx fun hs' => hn (hs x hx hs')⟩
theorem Kept.get {S : Nat → Prop} {a b : World} (h : Kept S a b) {x : Nat} {o : Obj} (hx : a.heap[x]? = some o) (hn : ¬ S x) : b.heap[x]? = some o := by
  rw [h.block x (lt_of_heap hx) hn]; exact hx

/-- the blocks of one thing -/
def Of (own : Own) (i : Nat) (b : Nat) : Prop := ∃ m, own b = some m ∧ m.1 = i + 1

theorem getSet {α : Type} (l : List α) (i j : Nat) (x y : α) (h : (l.set i x)[j]? = some y) : (j = i ∧ y = x) ∨ (j ≠ i ∧ l[j]? = some y) := by
  rw [List.getElem?_set] at h
  by_cases hij : i = j
  · rw [if_pos hij] at h
    split at h
    · exact .inl ⟨hij.symm, by simpa using h.symm⟩
    · cases h
  · rw [if_neg hij] at h
    exact .inr ⟨fun e => hij e.symm, h⟩

/-- one thing has turned, in its own blocks and new ones -/
theorem Rep.turned {w w' : World} {hb : Nat} {H : HM} {tvs : List Value} {own own' : Own} {i : Nat} {t t' : Thing} {tv : Value} (h : Rep w hb H tvs own) (hk : Kept (Of own i) w w')
    (hext : ∀ b, b < w.heap.size → own' b = own b) (hnew : ∀ b m, own' b = some m → b < w'.heap.size ∧ (w.heap.size ≤ b → m.1 = i + 1)) (ht : H.things[i]? = some t) (htv : tvs[i]? = some tv) (hti : ThingIs w' own' tvs i t' tv) (hsz : (sizes (H.things.set i t') : Int) ≤ H.used) :
    Rep w' hb ⟨H.room, H.used, H.things.set i t'⟩ tvs own' ∧ Mut own own' w w' := by
  have hother : ∀ b m, own b = some m → m.1 ≠ i + 1 → w'.heap[b]? = w.heap[b]? ∧ own' b = own b := fun b m hm hne =>
    ⟨hk.block b (h.lt b m hm) (fun ⟨m', h1, h2⟩ => by rw [hm] at h1; cases h1; exact hne h2), hext b (h.lt b m hm)⟩
  constructor
  · exact {
      lt := fun b m hm => (hnew b m hm).1
      mine := by rw [(hother hb _ h.mine (by simp)).2]; exact h.mine
      head := by
        obtain ⟨sv, h1, h2⟩ := h.head
        exact ⟨sv, by rw [(hother hb _ h.mine (by simp)).1]; exact h1, h2.keep fun b hb' => hother b _ hb' (by simp)⟩
      len := by simp [h.len]
      things := fun j u hu => by
        rcases getSet _ _ _ _ _ hu with ⟨rfl, rfl⟩ | ⟨hne, hu⟩
        · exact ⟨tv, htv, hti⟩
        · obtain ⟨tv', h1, h2⟩ := h.things j u hu
          refine ⟨tv', h1, h2.keep ?_ (fun _ _ => rfl) fun b m hm hmj => hother b m hm (by omega)⟩
          rcases Nat.lt_or_ge j tvs.length with h' | h'
          · omega
          · rw [List.getElem?_eq_none h'] at h1; cases h1
      room0 := h.room0
      roomU := h.roomU
      roomM := h.roomM
      few := hsz }
  · exact ⟨hk.os, hk.tape, hk.output, hk.size, fun b hb' hn => hk.block b hb' (fun ⟨m, h1, _⟩ => by rw [hn] at h1; cases h1), hext⟩

theorem ownsRow_keep {w w' : World} {base : Nat} {e : TypeId} {size : Nat} {v : Value} {n : Nat} {xs : List Value} (h : w.ownsRow base e size v n xs) (hk : ∀ g, v.ownBlock = some g → w'.heap[g]? = w.heap[g]?) : w'.ownsRow base e size v n xs := by
  obtain ⟨h1, h2⟩ := h
  refine ⟨h1, ?_⟩
  rcases h2 with h2 | ⟨g, cap, cur, hv, hg, hc, r⟩
  · exact .inl h2
  · exact .inr ⟨g, cap, cur, hv, hg, by rw [hk g (by rw [hv]; rfl)]; exact hc, r⟩

/-- a region whose last operations stand in one order, the world under its name -/
theorem wp_region_tail {P : Program} {id : Nat} {Q : Exit → Act → World → Prop} {a : Act} {w : World} {l : List Oper} (n : Nat) (hm : P.follows .mixedOrders = true) (hB : Region.lexTailB .any l.toArray n = true)
    (h : wpStill P l.toArray w.drew (fun a' => wpList P l.toArray Q (l.drop n) a' w.drew) (l.take n) a) : (Code.region id l.toArray true).wp P Q a w := wp_region_still_tail n hm hB h

theorem str_info : (Tryz.prog.info? 9).map (fun i => (i.zero, i.size, i.bytes)) = some (some (.string ⟨#[]⟩), 1, 16) := by kernel_rfl

theorem grown_get {W w2 : World} {r : Option Nat} {b : Nat} {o : Obj} (hg : W.grownBy w2 r) (h : W.heap[b]? = some o) (hne : r ≠ some b) : w2.heap[b]? = some o := by
  rw [hg.block b (lt_of_heap h) (fun e => hne e.symm)]; exact h

theorem ownsRow_up {w w' : World} {base : Nat} {e : TypeId} {size : Nat} {v : Value} {n : Nat} {xs : List Value} (h : w.ownsRow base e size v n xs) (hu : Up w w') : w'.ownsRow base e size v n xs := by
  obtain ⟨h1, h2⟩ := h
  refine ⟨h1, ?_⟩
  rcases h2 with h2 | ⟨g, cap, cur, hv, hg, hc, r⟩
  · exact .inl h2
  · exact .inr ⟨g, cap, cur, hv, hg, hu.get hc, r⟩

theorem ownsRow_ne {w : World} {base : Nat} {e : TypeId} {size : Nat} {v : Value} {n : Nat} {xs : List Value} (h : w.ownsRow base e size v n xs) {b : Nat} (hb : w.heap.size ≤ b) : v.ownBlock ≠ some b := fun e => by
  have := ownBlock_lt h e; omega

end Go.Proofs.YtmbipadiaggolaaGreatDoor

/- Walks: set, Set. -/
namespace Go.Proofs.YtmbipadiaggolaaGreatDoor
open Go.RowKit
attribute [local go_sem] ta_aa ta_ao ta_an ta_oa ta_oo ta_on m_kind_a m_kind_o m_behind_a m_behind_o m_own_a m_own_o valV

def SetHit (w : World) (g : Nat) (l : List (ByteArray × Val)) (e : Ending) (w' : World) : Prop := e = .returned (.tuple #[]) ∧ ∃ W es' clk', Up w W ∧ w' = putB W g (.map es' clk') ∧ Entries es' Value.string valV l

def SetMiss (w : World) (b g : Nat) (kv : Value) (n : Nat) (ks : List Value) (l : List (ByteArray × Val)) (e : Ending) (w' : World) : Prop :=
  e = .returned (.tuple #[]) ∧ ∃ W W2 sa cap es' clk', Up w W ∧ W2.ownsRow 0 9 1 (.slice sa n cap) n ks ∧ W.grownBy W2 kv.ownBlock ∧
    ((Value.slice sa n cap).ownBlock = kv.ownBlock ∨ ∃ g, (Value.slice sa n cap).ownBlock = some g ∧ W.heap.size ≤ g) ∧ w' = putB ((W2.setCell ⟨b, 1, none⟩ (.slice sa n cap)).drew) g (.map es' clk') ∧ Entries es' Value.string valV l

set_option maxRecDepth 100000 in
/-- a member that is there is set -/
theorem set_hit (b : Nat) (s : ByteArray) (x : Val) (w : World) (g clk : Nat) (es : Array MapEntry) (kv : Value) (l : List (ByteArray × Val)) (j : Nat) (y : Val)
    (hc : w.heap[b]? = some (.cells #[.map (some g), kv] 94 (0, 0))) (hg : w.heap[g]? = some (.map es clk)) (hes : Entries es Value.string valV l) (hn : (l.map (·.1)).Nodup) (hj : l[j]? = some (s, y)) :
    Calls Tryz.prog 45 #[.pointer (some ⟨b, 0, none⟩), .string s, .agg #[.int .i64 (x).k, .int .i64 (x).n, .string (x).s]] w (SetHit w g (l.set j (s, x))) := by
  have HX := Lib.hid (And.intro hc (And.intro hg (And.intro hes (And.intro hn hj))))
  have a0 := cell_of hc 0
  have a1 := cell_of hc 1
  have a2 := ice_of hc 1
  have a3 := lt_of_heap hc
  have a4 := lt_of_heap hg
  simp only [List.getElem?_toArray, List.getElem?_cons_zero, List.getElem?_cons_succ] at a0 a1
  have hne : ∀ w, (binOp .eql 91 (.map (some g)) (.map none)).run Tryz.prog w = .ok (.bool false) w := fun _ => by kernel_rfl
  clear hc hg hes hn hj
  go_enter Tryz.func45, Tryz.ntmps45
  go_wp2_with (first | (at_lookup; go_must (refine wpList_lookup rfl rfl (run_lookup_hit Tryz.underlying91 Tryz.underlying9 strKeys (Up.get uq HX.out.2.1) HX.out.2.2.1 s y j HX.out.2.2.2.2 HX.out.2.2.2.1).1 ?_)))
  (refine wp_region_tail 6 (by kernel_rfl) (by kernel_rfl) ?_; simp only [List.take_succ_cons, List.take_zero, List.drop_succ_cons, List.drop_zero]; (repeat still_step); refine wpStill_nil ?_)
  refine wpList_update rfl rfl (run_store_hit Tryz.underlying91 Tryz.underlying9 strKeys (Up.get uq HX.out.2.1) HX.out.2.2.1 s x y j HX.out.2.2.2.2 HX.out.2.2.2.1) ?_
  intro es' clk' hes'
  go_wp2
  go_end0
  exact ⟨rfl, _, es', clk', uq, rfl, hes'⟩

set_option maxRecDepth 100000 in
/-- a member is laid into a map that is there -/
theorem set_miss (b : Nat) (s : ByteArray) (x : Val) (w : World) (g clk : Nat) (es : Array MapEntry) (kv : Value) (l : List (ByteArray × Val))
    (hc : w.heap[b]? = some (.cells #[.map (some g), kv] 94 (0, 0))) (hg : w.heap[g]? = some (.map es clk)) (hes : Entries es Value.string valV l) (hm : ∀ x ∈ l, x.1 ≠ s)
    (hrow : w.ownsRow 0 9 1 kv l.length (keysOf l)) (hlen : l.length ≤ 1048576) (hgk : kv.ownBlock ≠ some g) (hbk : kv.ownBlock ≠ some b) :
    Calls Tryz.prog 45 #[.pointer (some ⟨b, 0, none⟩), .string s, .agg #[.int .i64 (x).k, .int .i64 (x).n, .string (x).s]] w (SetMiss w b g kv (l.length + 1) (keysOf l ++ [.string s]) (l ++ [(s, x)])) := by
  have HX := Lib.hid (And.intro hc (And.intro hg (And.intro hes (And.intro hm (And.intro hrow (And.intro hgk hbk))))))
  have a0 := cell_of hc 0
  have a1 := cell_of hc 1
  have a2 := ice_of hc 1
  have a3 := lt_of_heap hc
  have a4 := lt_of_heap hg
  simp only [List.getElem?_toArray, List.getElem?_cons_zero, List.getElem?_cons_succ] at a0 a1
  have hne : ∀ w, (binOp .eql 91 (.map (some g)) (.map none)).run Tryz.prog w = .ok (.bool false) w := fun _ => by kernel_rfl
  obtain ⟨i0, hi, hz0, hz1, hz2⟩ := info_parts str_info
  obtain ⟨sa0, cap0, rfl⟩ := ownsRow_form hrow
  clear hc hg hes hm hrow hgk hbk
  go_enter Tryz.func45, Tryz.ntmps45
  go_wp2_with (first | (at_lookup; go_must (refine wpList_lookup rfl rfl (run_lookup_miss Tryz.underlying91 Tryz.underlying9 strKeys (zero_val _) (Up.get uq HX.out.2.1) HX.out.2.2.1 s HX.out.2.2.2.1).1 ?_)) | (at_builtin; go_must (refine wpList_append_new rfl _ _ 92 rfl 9 i0 (.string ⟨#[]⟩) 1 16 Tryz.underlying92 hi hz0 hz1 hz2 rfl (by decide) (.slice sa0 l.length cap0) l.length (keysOf l) rfl (ownsRow_up HX.out.2.2.2.2.1 uq) _ 1 1 rfl ?_ rfl ?_ ?_ ?_ ?_; (simp only [World.size_alloc]); simp [Value.oneCell']; (unfold maxLen; omega); omega; intro sa' cap' w2 hown' hgrow hblk; simp only [World.size_alloc] at hblk; have hd := grown_get hgrow (Up.get uq HX.out.1) HX.out.2.2.2.2.2.2; have hbx := grown_get hgrow (Up.get (w := w.alloc (.cells #[.int .i64 x.k, .int .i64 x.n, .string x.s] 34)) uq (alloc_get _ _)) (ownsRow_ne HX.out.2.2.2.2.1 (Nat.le_refl _)); have hmp := Lib.hid (grown_get hgrow (Up.get uq HX.out.2.1) HX.out.2.2.2.2.2.1); have HY := Lib.hid (And.intro hown' (And.intro hgrow hblk)); clear hown' hgrow hblk; have c0 := cell_of hd 0; have c1 := cell_of hd 1; have c2 := ice_of hd 1; have c3 := lt_of_heap hd; have c4 := cell_of hbx 0; have c5 := cell_of hbx 1; have c6 := cell_of hbx 2; simp only [List.getElem?_toArray, List.getElem?_cons_zero, List.getElem?_cons_succ] at c0 c1 c4 c5 c6; clear hd hbx)))
  (refine wp_region_tail 6 (by kernel_rfl) (by kernel_rfl) ?_; simp only [List.take_succ_cons, List.take_zero, List.drop_succ_cons, List.drop_zero]; (repeat still_step); refine wpStill_nil ?_)
  refine wpList_update rfl rfl (run_store_miss Tryz.underlying91 Tryz.underlying9 strKeys (show ((w2.setCell ⟨b, 1, none⟩ (.slice sa' (l.length + 1) cap')).drew).heap[g]? = some (.map es clk) from by
    show (w2.setCell ⟨b, 1, none⟩ (.slice sa' (l.length + 1) cap')).heap[g]? = _
    rw [setCell_other (fun e => by
      have h1 := HX.out.1
      have h2 := HX.out.2.1
      rw [e, h1] at h2
      cases h2)]
    exact hmp.out) HX.out.2.2.1 s x HX.out.2.2.2.1) ?_
  intro es' clk' hes'
  go_wp2
  go_end0
  obtain ⟨hown', hgrow, hblk⟩ := HY.out
  exact ⟨rfl, _, w2, sa', cap', es', clk', uq, hown', hgrow, (by simpa only [World.size_alloc] using hblk), rfl, hes'⟩


def setSlot (l : List (ByteArray × Val)) (s : ByteArray) (x : Val) : List (ByteArray × Val) :=
  match l.findIdx? (fun y => decide (y.1 = s)) with
  | some j => l.set j (s, x)
  | none => l ++ [(s, x)]

theorem setSlot_miss {l : List (ByteArray × Val)} {s : ByteArray} (x : Val) (h : ∀ y ∈ l, y.1 ≠ s) : setSlot l s x = l ++ [(s, x)] := by
  unfold setSlot
  rw [List.findIdx?_eq_none_iff.2 (fun y hy => by simpa using h y hy)]

theorem setSlot_hit {l : List (ByteArray × Val)} {s : ByteArray} {j : Nat} {y : Val} (x : Val) (hn : (l.map (·.1)).Nodup) (h : l[j]? = some (s, y)) : setSlot l s x = l.set j (s, x) := by
  have hj : j < l.length := by
    rcases Nat.lt_or_ge j l.length with h' | h'
    · exact h'
    · rw [List.getElem?_eq_none h'] at h; cases h
  have hf : l.findIdx? (fun y => decide (y.1 = s)) = some j := by
    rw [List.findIdx?_eq_some_iff_getElem]
    refine ⟨hj, by rw [List.getElem?_eq_getElem hj] at h; simp at h; simp [h], fun i hi => ?_⟩
    have hil : i < l.length := by omega
    simp only [decide_eq_true_eq]
    intro e
    have a1 : (l.map (·.1))[i]? = some s := by rw [List.getElem?_map, List.getElem?_eq_getElem hil]; simp [e]
    have a2 : (l.map (·.1))[j]? = some s := by rw [List.getElem?_map, h]; simp
    have := (List.getElem?_inj (by simpa using hil) hn).1 (a1.trans a2.symm)
    omega
  unfold setSlot
  rw [hf]

/-- what set ends in -/
def SetDone (own : Own) (tvs : List Value) (i : Nat) (t : Thing) (tv : Value) (w : World) (e : Ending) (w' : World) : Prop :=
  e = .returned (.tuple #[]) ∧ ∃ own', Kept (Of own i) w w' ∧ (∀ b, b < w.heap.size → own' b = own b) ∧ (∀ b m, own' b = some m → b < w'.heap.size ∧ (w.heap.size ≤ b → m.1 = i + 1)) ∧ ThingIs w' own' tvs i t tv

theorem keysOf_append (l : List (ByteArray × Val)) (s : ByteArray) (x : Val) : keysOf (l ++ [(s, x)]) = keysOf l ++ [.string s] := by simp [keysOf]
theorem keysOf_set (l : List (ByteArray × Val)) (s : ByteArray) (x y : Val) (j : Nat) (h : l[j]? = some (s, y)) : keysOf (l.set j (s, x)) = keysOf l := by
  unfold keysOf
  apply List.ext_getElem?
  intro i
  rw [List.getElem?_map, List.getElem?_map, List.getElem?_set]
  by_cases hij : j = i
  · subst hij
    rw [if_pos rfl]
    split
    · rw [h]; rfl
    · rename_i h'
      rw [List.getElem?_eq_none (by omega)] at h; cases h
  · rw [if_neg hij]

/-- where the keys of a thing lie behind an append, and all else of it -/
theorem keys_own {own : Own} {i : Nat} {sa : Option Addr} {n cap : Nat} {kv : Value} {N : Nat} (hkv : ∀ g, kv.ownBlock = some g → own g = some (i + 1, 1)) (hlt : ∀ b m, own b = some m → b < N)
    (hblk : (Value.slice sa n cap).ownBlock = kv.ownBlock ∨ ∃ g, (Value.slice sa n cap).ownBlock = some g ∧ N ≤ g) :
    ∀ b m, own b = some m → (if (Value.slice sa n cap).ownBlock = some b then some (i + 1, 1) else own b) = some m := fun b m hm => by
  by_cases hg : (Value.slice sa n cap).ownBlock = some b
  · rw [if_pos hg]
    rcases hblk with hk | ⟨g, hk, hk'⟩
    · rw [hk] at hg; rw [hkv b hg] at hm; exact hm
    · rw [hk] at hg; cases hg; have := hlt _ _ hm; omega
  · rw [if_neg hg]; exact hm

theorem set_any_hit (own : Own) (tvs : List Value) (i : Nat) (k p : Int) (l : List (ByteArray × Val)) (b : Nat) (kk pp : Value) (s : ByteArray) (x y : Val) (j : Nat) (w : World)
    (hlt : ∀ b m, own b = some m → b < w.heap.size) (h : ThingIs w own tvs i ⟨k, p, l, []⟩ (.iface 96 (.agg #[.pointer (some ⟨b, 0, none⟩), kk, pp]))) (hj : l[j]? = some (s, y)) :
    Calls Tryz.prog 45 #[.pointer (some ⟨b, 0, none⟩), .string s, .agg #[.int .i64 (x).k, .int .i64 (x).n, .string (x).s]] w (SetDone own tvs i ⟨k, p, setSlot l s x, []⟩ (.iface 96 (.agg #[.pointer (some ⟨b, 0, none⟩), kk, pp])) w) := by
  cases h with
  | obj _ _ _ _ mv kv hk hp hpi hb hc hm hr hn =>
    rcases hm with ⟨rfl, rfl⟩ | ⟨g, es, clk, rfl, ho, hg, hes⟩
    · simp at hj
    · refine (set_hit b s x w g clk es kv l j y hc hg hes hn hj).mono ?_
      rintro e w' ⟨rfl, W, es', clk', hu, rfl, hes'⟩
      refine ⟨rfl, own, (Kept.of_up hu).putB (.inl ⟨_, ho, rfl⟩) _, fun _ _ => rfl, fun b m hm => ⟨by rw [putB_size]; exact Nat.lt_of_lt_of_le (hlt b m hm) hu.size, fun h' => by have := hlt b m hm; omega⟩, ?_⟩
      have hgW : g < W.heap.size := Nat.lt_of_lt_of_le (lt_of_heap hg) hu.size
      rw [setSlot_hit x hn hj]
      have hset : ((l.set j (s, x)).map (·.1)) = l.map (·.1) := by
        rw [List.map_set]
        apply List.ext_getElem?
        intro n
        rw [List.getElem?_set]
        by_cases hn' : j = n
        · subst hn'
          rw [if_pos rfl]
          split
          · rw [List.getElem?_map, hj]; rfl
          · rename_i h'; rw [List.getElem?_eq_none (by omega)]
        · rw [if_neg hn']
      refine .obj k p _ b (.map (some g)) kv hk hp hpi hb ?_ (.inr ⟨g, es', clk', rfl, ho, putB_same _ _ _ hgW, hes'⟩) ?_ (by rw [hset]; exact hn)
      · rw [putB_other _ _ _ _ (fun e => by subst e; rw [hb] at ho; cases ho)]
        exact hu.get hc
      · rw [keysOf_set l s x y j hj, List.length_set]
        exact (hr.up hu).keep fun c hc' => ⟨putB_other _ _ _ _ (fun e => by subst e; rw [hc'] at ho; cases ho), rfl⟩

theorem set_any_miss (own : Own) (tvs : List Value) (i : Nat) (k p : Int) (l : List (ByteArray × Val)) (b : Nat) (kk pp : Value) (s : ByteArray) (x : Val) (w : World) (g0 : Nat)
    (hlt : ∀ b m, own b = some m → b < w.heap.size) (kv : Value) (hk : k = 1 ∨ k = 3 ∨ k = 4) (hp : -1 ≤ p) (hpi : p < i) (hb : own b = some (i + 1, 0)) (hc : w.heap[b]? = some (.cells #[.map (some g0), kv] 94 (0, 0))) (hm : MapIs w own (i + 1, 2) (.map (some g0)) l)
    (hr : Row w own (i + 1, 1) 9 1 kv l.length (keysOf l)) (hn : (l.map (·.1)).Nodup) (hlen : l.length ≤ 1048576) (hs : ∀ y ∈ l, y.1 ≠ s) (hkk : kk = .int .i64 k) (hpp : pp = protoV tvs p) :
    Calls Tryz.prog 45 #[.pointer (some ⟨b, 0, none⟩), .string s, .agg #[.int .i64 (x).k, .int .i64 (x).n, .string (x).s]] w (SetDone own tvs i ⟨k, p, setSlot l s x, []⟩ (.iface 96 (.agg #[.pointer (some ⟨b, 0, none⟩), kk, pp])) w) := by
  subst hkk
  subst hpp
  rcases hm with ⟨h', _⟩ | ⟨g, es, clk, h', ho, hg, hes⟩
  · cases h'
  · cases h'
    have hgk : kv.ownBlock ≠ some g0 := fun e => by have := hr.2 _ e; rw [ho] at this; cases this
    have hbk : kv.ownBlock ≠ some b := fun e => by have := hr.2 _ e; rw [hb] at this; cases this
    refine (set_miss b s x w g0 clk es kv l hc hg hes hs hr.1 hlen hgk hbk).mono ?_
    rintro e w' ⟨rfl, W, W2, sa, cap, es', clk', hu, hown, hgrow, hblk, rfl, hes'⟩
    have hszW := hu.size
    have hszG := hgrow.size
    have hltW : ∀ b m, own b = some m → b < W.heap.size := fun b m hm => Nat.lt_of_lt_of_le (hlt b m hm) hszW
    have hsame := keys_own hr.2 hltW hblk
    have hgb : ∀ g', (Value.slice sa (l.length + 1) cap).ownBlock = some g' → own g' = some (i + 1, 1) ∨ W.heap.size ≤ g' := fun g' hg' => by
      rcases hblk with hk | ⟨g1, hk, hk'⟩
      · exact .inl (hr.2 g' (by rw [← hk]; exact hg'))
      · rw [hk] at hg'; cases hg'; exact .inr hk'
    have hgne : ∀ c m, own c = some m → m ≠ (i + 1, 1) → (Value.slice sa (l.length + 1) cap).ownBlock ≠ some c := fun c m hm hne e => by
      rcases hgb c e with h' | h'
      · rw [hm] at h'; cases h'; exact hne rfl
      · have := hltW c m hm; omega
    have hglt : ∀ g', (Value.slice sa (l.length + 1) cap).ownBlock = some g' → g' < W2.heap.size := fun g' hg' => ownBlock_lt hown hg'
    have hsz3 : (putB ((W2.setCell ⟨b, 1, none⟩ (.slice sa (l.length + 1) cap)).drew) g0 (.map es' clk')).heap.size = W2.heap.size := by
      rw [putB_size]; exact setCell_size _ _ _
    have hheap : ∀ c, c ≠ g0 → c ≠ b → (putB ((W2.setCell ⟨b, 1, none⟩ (.slice sa (l.length + 1) cap)).drew) g0 (.map es' clk')).heap[c]? = W2.heap[c]? := fun c h1 h2 => by
      rw [putB_other _ _ _ _ h1]
      exact setCell_other h2 _
    have hg0b : g0 ≠ b := fun e => by subst e; rw [hb] at ho; cases ho
    refine ⟨rfl, fun c => if (Value.slice sa (l.length + 1) cap).ownBlock = some c then some (i + 1, 1) else own c, ?_, ?_, ?_, ?_⟩
    · refine Kept.putB (Kept.drew (Kept.setCell (Kept.grow (Kept.of_up hu) hgrow fun g' hg' => .inl ⟨_, hr.2 g' hg', rfl⟩) (.inl ⟨_, hb, rfl⟩) _)) (.inl ⟨_, ho, rfl⟩) _
    · intro c hc'
      show (if _ then _ else _) = _
      by_cases hg' : (Value.slice sa (l.length + 1) cap).ownBlock = some c
      · rw [if_pos hg']
        rcases hgb c hg' with h' | h'
        · exact h'.symm
        · omega
      · rw [if_neg hg']
    · intro c m hm
      rw [hsz3]
      have hm : (if (Value.slice sa (l.length + 1) cap).ownBlock = some c then some (i + 1, 1) else own c) = some m := hm
      by_cases hg' : (Value.slice sa (l.length + 1) cap).ownBlock = some c
      · rw [if_pos hg'] at hm; cases hm
        exact ⟨hglt c hg', fun _ => rfl⟩
      · rw [if_neg hg'] at hm
        have := hltW c m hm
        have := hlt c m hm
        exact ⟨by omega, fun h' => by omega⟩
    · rw [setSlot_miss x hs]
      refine .obj k p _ b (.map (some g0)) (.slice sa (l.length + 1) cap) hk hp hpi (hsame _ _ hb) ?_ (.inr ⟨g0, es', clk', rfl, hsame _ _ ho, putB_same _ _ _ ?_, hes'⟩) ?_ ?_
      · rw [putB_other _ _ _ _ (fun e => hg0b e.symm)]
        have h5 : W2.heap[b]? = some (.cells #[.map (some g0), kv] 94 (0, 0)) := grown_get hgrow (hu.get hc) hbk
        have := setCell_block (i := 1) h5 (.slice sa (l.length + 1) cap)
        show (W2.setCell ⟨b, 1, none⟩ (.slice sa (l.length + 1) cap)).heap[b]? = _
        simpa using this
      · show g0 < (W2.setCell ⟨b, 1, none⟩ (.slice sa (l.length + 1) cap)).heap.size
        rw [setCell_size]
        have := hltW _ _ ho
        omega
      · rw [keysOf_append, List.length_append, List.length_singleton]
        refine ⟨⟨hown.1, ?_⟩, fun g' hg' => by simp [hg']⟩
        rcases hown.2 with h2 | ⟨g1, cap', cur, hv, hg1, hc1, r⟩
        · exact .inl h2
        · refine .inr ⟨g1, cap', cur, hv, hg1, ?_, r⟩
          have hne1 : ∀ c m, own c = some m → m ≠ (i + 1, 1) → g1 ≠ c := fun c m hm hne e => hgne c m hm hne (by rw [hv, ← e]; rfl)
          rw [hheap g1 (hne1 g0 _ ho (by simp)) (hne1 b _ hb (by simp))]
          exact hc1
      · rw [List.map_append, List.nodup_append]
        refine ⟨hn, by simp, ?_⟩
        intro a ha c hc'
        simp only [List.map_cons, List.map_nil, List.mem_singleton] at hc'
        subst hc'
        obtain ⟨y, hy, rfl⟩ := List.mem_map.1 ha
        exact hs y hy

end Go.Proofs.YtmbipadiaggolaaGreatDoor

/- Walks: the first member of a thing; Set. -/
namespace Go.Proofs.YtmbipadiaggolaaGreatDoor
open Go.RowKit
attribute [local go_sem] ta_aa ta_ao ta_an ta_oa ta_oo ta_on m_kind_a m_kind_o m_behind_a m_behind_o m_own_a m_own_o valV

theorem alloc_at (W : World) (o : Obj) (n : Nat) (h : n = W.heap.size) : (W.alloc o).heap[n]? = some o := by subst h; exact alloc_get _ _

def SetFirst (w : World) (b : Nat) (kv : Value) (s : ByteArray) (x : Val) (e : Ending) (w' : World) : Prop :=
  e = .returned (.tuple #[]) ∧ ∃ (W W2 : World) (sa : Option Addr) (cap : Nat) (es' : Array MapEntry) (clk' : Nat), Kept (· = b) w W ∧ w.heap.size < W.heap.size ∧
    W.heap[b]? = some (.cells #[.map (some (w.heap.size + 1)), kv] 94 (0, 0)) ∧ W.heap[w.heap.size + 1]? = some (.map #[] 0) ∧
    W2.ownsRow 0 9 1 (.slice sa 1 cap) 1 [.string s] ∧ W.grownBy W2 kv.ownBlock ∧ ((Value.slice sa 1 cap).ownBlock = kv.ownBlock ∨ ∃ g, (Value.slice sa 1 cap).ownBlock = some g ∧ W.heap.size ≤ g) ∧
    w' = putB ((W2.setCell ⟨b, 1, none⟩ (.slice sa 1 cap)).drew) (w.heap.size + 1) (.map es' clk') ∧ Entries es' Value.string valV [(s, x)]

set_option maxRecDepth 100000 in
theorem set_first (b : Nat) (s : ByteArray) (x : Val) (w : World) (kv : Value)
    (hc : w.heap[b]? = some (.cells #[.map none, kv] 94 (0, 0))) (hrow : w.ownsRow 0 9 1 kv 0 []) (hbk : kv.ownBlock ≠ some b) :
    Calls Tryz.prog 45 #[.pointer (some ⟨b, 0, none⟩), .string s, .agg #[.int .i64 (x).k, .int .i64 (x).n, .string (x).s]] w (SetFirst w b kv s x) := by
  have HX := Lib.hid (And.intro hc (And.intro hrow hbk))
  have a0 := cell_of hc 0
  have a1 := cell_of hc 1
  have a2 := ice_of hc 1
  have a5 := ice_of hc 0
  have a3 := lt_of_heap hc
  simp only [List.getElem?_toArray, List.getElem?_cons_zero, List.getElem?_cons_succ] at a0 a1
  have hne : ∀ w, (binOp .eql 91 (.map none) (.map none)).run Tryz.prog w = .ok (.bool true) w := fun _ => by kernel_rfl
  have hmm := @run_makeMap Tryz.prog
  obtain ⟨i0, hi, hz0, hz1, hz2⟩ := info_parts str_info
  obtain ⟨sa0, cap0, rfl⟩ := ownsRow_form hrow
  clear hc hrow hbk
  have hb0 : Hid ((w.setCell ⟨b, 0, none⟩ (.map (some (w.heap.size + 1)))).heap[b]? = some (.cells #[.map (some (w.heap.size + 1)), .slice sa0 0 cap0] 94 (0, 0))) := by
    have := setCell_block (i := 0) HX.out.1 (.map (some (w.heap.size + 1)))
    simpa [Hid] using this
  have hrw : Hid ((w.setCell ⟨b, 0, none⟩ (.map (some (w.heap.size + 1)))).ownsRow 0 9 1 (.slice sa0 0 cap0) 0 []) := ownsRow_keep HX.out.2.1 fun g hg => setCell_other (fun e => HX.out.2.2 (by rw [← e]; exact hg)) _
  have c1 : ∀ o1 o2 o3, ((((w.setCell ⟨b, 0, none⟩ (.map (some (w.heap.size + 1)))).alloc o1).alloc o2).alloc o3).cell? ⟨b, 1, none⟩ = some (.slice sa0 0 cap0) := fun o1 o2 o3 => cell_of (Up.get (w' := (((w.setCell ⟨b, 0, none⟩ (.map (some (w.heap.size + 1)))).alloc o1).alloc o2).alloc o3) uq hb0.out) 1
  go_enter Tryz.func45, Tryz.ntmps45
  go_wp2_with (first | (at_lookup; go_must (refine wpList_lookup rfl rfl (run_lookup_miss Tryz.underlying91 Tryz.underlying9 strKeys (zero_val _) (es := #[]) (clk := 0) (l := []) (f := valV) ?_ rfl s (by simp)).1 ?_; exact (by repeat (first | exact alloc_at _ _ _ (by simp) | rw [alloc_old _ _ _ (by (try simp only [World.size_alloc, setCell_size]); omega)] | rw [setCell_other (by omega)] | assumption)))) | (at_builtin; go_must (refine wpList_append_new rfl _ _ 92 rfl 9 i0 (.string ⟨#[]⟩) 1 16 Tryz.underlying92 hi hz0 hz1 hz2 rfl (by decide) (.slice sa0 0 cap0) 0 [] rfl (ownsRow_up hrw.out uq) _ 1 1 rfl ?_ rfl ?_ ?_ ?_ ?_; (simp only [World.size_alloc, setCell_size]); (simp [Value.oneCell']); (simp [maxLen]); omega; intro sa' cap' w2 hown' hgrow hblk; have hd := grown_get hgrow (Up.get uq hb0.out) HX.out.2.2; have hbx := grown_get hgrow (Up.get (w := (w.setCell ⟨b, 0, none⟩ (.map (some (w.heap.size + 1)))).alloc (.cells #[.int .i64 x.k, .int .i64 x.n, .string x.s] 34)) uq (alloc_at _ _ w.heap.size (setCell_size _ _ _).symm)) (ownsRow_ne HX.out.2.1 (Nat.le_refl _)); have hmp := Lib.hid (grown_get hgrow (Up.get (w := ((w.setCell ⟨b, 0, none⟩ (.map (some (w.heap.size + 1)))).alloc (.cells #[.int .i64 x.k, .int .i64 x.n, .string x.s] 34)).alloc (.map #[] 0)) uq (alloc_at _ _ (w.heap.size + 1) (by simp))) (ownsRow_ne HX.out.2.1 (by omega))); have HY := Lib.hid (And.intro hown' (And.intro hgrow hblk)); clear hown' hgrow hblk; have d0 := cell_of hd 0; have d1 := cell_of hd 1; have d2 := ice_of hd 1; have d3 := lt_of_heap hd; have d4 := cell_of hbx 0; have d5 := cell_of hbx 1; have d6 := cell_of hbx 2; simp only [List.getElem?_toArray, List.getElem?_cons_zero, List.getElem?_cons_succ] at d0 d1 d4 d5 d6; clear hd hbx)))
  (refine wp_region_tail 6 (by kernel_rfl) (by kernel_rfl) ?_; simp only [List.take_succ_cons, List.take_zero, List.drop_succ_cons, List.drop_zero]; (repeat still_step); refine wpStill_nil ?_)
  refine wpList_update rfl rfl (run_store_miss Tryz.underlying91 Tryz.underlying9 strKeys (g := w.heap.size + 1) (es := #[]) (clk := 0) (l := []) (f := valV) (show ((w2.setCell ⟨b, 1, none⟩ (.slice sa' 1 cap')).drew).heap[w.heap.size + 1]? = some (.map #[] 0) from by
    show (w2.setCell ⟨b, 1, none⟩ (.slice sa' 1 cap')).heap[w.heap.size + 1]? = _
    rw [setCell_other (by omega)]
    exact hmp.out) rfl s x (by simp)) ?_
  intro es' clk' hes'
  go_wp2
  go_end0
  obtain ⟨hown', hgrow, hblk⟩ := HY.out
  exact ⟨rfl, _, w2, sa', cap', es', clk', (by repeat (first | with_reducible exact Kept.refl _ _ | with_reducible refine Kept.alloc ?_ _ | with_reducible refine Kept.drew ?_ | with_reducible refine Kept.drewN ?_ _ | with_reducible refine Kept.setCell ?_ (by first | exact .inl rfl | exact .inr (by first | omega | (simp; omega))) _)), by simp only [World.size_alloc, setCell_size]; omega, Up.get uq hb0.out,
    Up.get (w := ((w.setCell ⟨b, 0, none⟩ (.map (some (w.heap.size + 1)))).alloc (.cells #[.int .i64 x.k, .int .i64 x.n, .string x.s] 34)).alloc (.map #[] 0)) uq (alloc_at _ _ (w.heap.size + 1) (by simp)),
    hown', hgrow, by simpa only [World.size_alloc, setCell_size] using hblk, rfl, hes'⟩

theorem set_any_first (own : Own) (tvs : List Value) (i : Nat) (k p : Int) (b : Nat) (s : ByteArray) (x : Val) (w : World)
    (hlt : ∀ b m, own b = some m → b < w.heap.size) (kv : Value) (hk : k = 1 ∨ k = 3 ∨ k = 4) (hp : -1 ≤ p) (hpi : p < i) (hb : own b = some (i + 1, 0)) (hc : w.heap[b]? = some (.cells #[.map none, kv] 94 (0, 0)))
    (hr : Row w own (i + 1, 1) 9 1 kv 0 []) :
    Calls Tryz.prog 45 #[.pointer (some ⟨b, 0, none⟩), .string s, .agg #[.int .i64 (x).k, .int .i64 (x).n, .string (x).s]] w (SetDone own tvs i ⟨k, p, [(s, x)], []⟩ (.iface 96 (.agg #[.pointer (some ⟨b, 0, none⟩), .int .i64 k, protoV tvs p])) w) := by
  have hbk : kv.ownBlock ≠ some b := fun e => by have := hr.2 _ e; rw [hb] at this; cases this
  refine (set_first b s x w kv hc hr.1 hbk).mono ?_
  rintro e w' ⟨rfl, W, W2, sa, cap, es', clk', hkept, hsz, hbW, hgW, hown, hgrow, hblk, rfl, hes'⟩
  have hszG := hgrow.size
  have hgWlt := lt_of_heap hgW
  have hblt := hlt b _ hb
  have hltW : ∀ b m, own b = some m → b < W.heap.size := fun b m hm => Nat.lt_trans (hlt b m hm) hsz
  have hsame := keys_own hr.2 hltW hblk
  have hgb : ∀ g', (Value.slice sa 1 cap).ownBlock = some g' → own g' = some (i + 1, 1) ∨ W.heap.size ≤ g' := fun g' hg' => by
    rcases hblk with hk | ⟨g1, hk, hk'⟩
    · exact .inl (hr.2 g' (by rw [← hk]; exact hg'))
    · rw [hk] at hg'; cases hg'; exact .inr hk'
  have hgne : ∀ c m, own c = some m → m ≠ (i + 1, 1) → (Value.slice sa 1 cap).ownBlock ≠ some c := fun c m hm hne e => by
    rcases hgb c e with h' | h'
    · rw [hm] at h'; cases h'; exact hne rfl
    · have := hltW c m hm; omega
  have hgm : (Value.slice sa 1 cap).ownBlock ≠ some (w.heap.size + 1) := fun e => by
    rcases hgb _ e with h' | h'
    · have := hlt _ _ h'; omega
    · omega
  have hglt : ∀ g', (Value.slice sa 1 cap).ownBlock = some g' → g' < W2.heap.size := fun g' hg' => ownBlock_lt hown hg'
  have hsz3 : (putB ((W2.setCell ⟨b, 1, none⟩ (.slice sa 1 cap)).drew) (w.heap.size + 1) (.map es' clk')).heap.size = W2.heap.size := by
    rw [putB_size]; exact setCell_size _ _ _
  have hheap : ∀ c, c ≠ w.heap.size + 1 → c ≠ b → (putB ((W2.setCell ⟨b, 1, none⟩ (.slice sa 1 cap)).drew) (w.heap.size + 1) (.map es' clk')).heap[c]? = W2.heap[c]? := fun c h1 h2 => by
    rw [putB_other _ _ _ _ h1]
    exact setCell_other h2 _
  refine ⟨rfl, fun c => if c = w.heap.size + 1 then some (i + 1, 2) else if (Value.slice sa 1 cap).ownBlock = some c then some (i + 1, 1) else own c, ?_, ?_, ?_, ?_⟩
  · refine Kept.putB (Kept.drew (Kept.setCell (Kept.grow (hkept.mono fun c _ hc' => ⟨_, by rw [show c = b from hc']; exact hb, rfl⟩) hgrow fun g' hg' => .inl ⟨_, hr.2 g' hg', rfl⟩) (.inl ⟨_, hb, rfl⟩) _)) (.inr (by omega)) _
  · intro c hc'
    show (if _ then _ else _) = _
    rw [if_neg (by omega)]
    by_cases hg' : (Value.slice sa 1 cap).ownBlock = some c
    · rw [if_pos hg']
      rcases hgb c hg' with h' | h'
      · exact h'.symm
      · omega
    · rw [if_neg hg']
  · intro c m hm
    rw [hsz3]
    have hm : (if c = w.heap.size + 1 then some (i + 1, 2) else if (Value.slice sa 1 cap).ownBlock = some c then some (i + 1, 1) else own c) = some m := hm
    by_cases hcm : c = w.heap.size + 1
    · rw [if_pos hcm] at hm; cases hm
      exact ⟨by omega, fun _ => rfl⟩
    · rw [if_neg hcm] at hm
      by_cases hg' : (Value.slice sa 1 cap).ownBlock = some c
      · rw [if_pos hg'] at hm; cases hm
        exact ⟨hglt c hg', fun _ => rfl⟩
      · rw [if_neg hg'] at hm
        have := hltW c m hm
        have := hlt c m hm
        exact ⟨by omega, fun h' => by omega⟩
  · have hown' : ∀ c m, own c = some m → (if c = w.heap.size + 1 then some (i + 1, 2) else if (Value.slice sa 1 cap).ownBlock = some c then some (i + 1, 1) else own c) = some m := fun c m hm => by
      have := hlt c m hm
      rw [if_neg (by omega)]
      exact hsame c m hm
    refine .obj k p _ b (.map (some (w.heap.size + 1))) (.slice sa 1 cap) hk hp hpi (hown' _ _ hb) ?_ (.inr ⟨w.heap.size + 1, es', clk', rfl, by simp, putB_same _ _ _ ?_, hes'⟩) ?_ (by simp)
    · rw [putB_other _ _ _ _ (by omega)]
      have h5 : W2.heap[b]? = some (.cells #[.map (some (w.heap.size + 1)), kv] 94 (0, 0)) := grown_get hgrow hbW hbk
      have := setCell_block (i := 1) h5 (.slice sa 1 cap)
      show (W2.setCell ⟨b, 1, none⟩ (.slice sa 1 cap)).heap[b]? = _
      simpa using this
    · show w.heap.size + 1 < (W2.setCell ⟨b, 1, none⟩ (.slice sa 1 cap)).heap.size
      rw [setCell_size]
      omega
    · refine ⟨⟨hown.1, ?_⟩, fun g' hg' => ?_⟩
      · rcases hown.2 with h2 | ⟨g1, cap', cur, hv, hg1, hc1, r⟩
        · exact .inl h2
        · refine .inr ⟨g1, cap', cur, hv, hg1, ?_, r⟩
          rw [hheap g1 (fun e => hgm (by rw [hv, ← e]; rfl)) (fun e => hgne b _ hb (by simp) (by rw [hv, ← e]; rfl))]
          exact hc1
      · show (if _ then _ else _) = _
        rw [if_neg (fun e => by rw [e] at hg'; exact hgm hg'), if_pos hg']

/-- set, of a thing that is no array -/
theorem set_any (own : Own) (tvs : List Value) (i : Nat) (k p : Int) (l : List (ByteArray × Val)) (b : Nat) (kk pp : Value) (s : ByteArray) (x : Val) (w : World) (hlen : l.length ≤ 1048576)
    (hlt : ∀ b m, own b = some m → b < w.heap.size) (h : ThingIs w own tvs i ⟨k, p, l, []⟩ (.iface 96 (.agg #[.pointer (some ⟨b, 0, none⟩), kk, pp]))) :
    Calls Tryz.prog 45 #[.pointer (some ⟨b, 0, none⟩), .string s, .agg #[.int .i64 (x).k, .int .i64 (x).n, .string (x).s]] w (SetDone own tvs i ⟨k, p, setSlot l s x, []⟩ (.iface 96 (.agg #[.pointer (some ⟨b, 0, none⟩), kk, pp])) w) := by
  rcases slot_cases l s with hs | ⟨j, y, hj⟩
  · cases h with
    | obj _ _ _ _ mv kv hk hp hpi hb hc hm hr hn =>
      rcases hm with ⟨rfl, rfl⟩ | ⟨g, es, clk, rfl, ho, hg, hes⟩
      · exact set_any_first own tvs i k p b s x w hlt kv hk hp hpi hb hc hr
      · exact set_any_miss own tvs i k p l b _ _ s x w g hlt kv hk hp hpi hb hc (.inr ⟨g, es, clk, rfl, ho, hg, hes⟩) hr hn hlen hs rfl rfl
  · exact set_any_hit own tvs i k p l b kk pp s x y j w hlt h hj

end Go.Proofs.YtmbipadiaggolaaGreatDoor
