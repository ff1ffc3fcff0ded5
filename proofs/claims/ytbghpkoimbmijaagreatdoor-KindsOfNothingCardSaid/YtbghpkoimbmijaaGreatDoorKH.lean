import Derived.Test.YtbghpkoimbmijaaGreatDoorKG
/- Walks: the parts of a type, one by one. -/
namespace Go.Proofs.YtbghpkoimbmijaaGreatDoor
open Go.RowKit
set_option linter.unusedSimpArgs false
attribute [local go_sem] Oper.semAt_some

abbrev SlT : TypeId := 55
abbrev valuesF : Nat := 83

/-- a type of a kind, whose text was asked for -/
def Item (w : World) (b : Nat) (k : Int) (s : ByteArray) : Prop := ∃ cs : Array Value, w.heap[b]? = some (.cells cs TyT (0, 0)) ∧ cs[0]? = some (.int .i64 k) ∧ cs[7]? = some (.string s) ∧ (s.toList == []) = false
theorem Item.up {w w' : World} {b : Nat} {k : Int} {s : ByteArray} (h : Item w b k s) (u : Up w w') : Item w' b k s := let ⟨cs, h1, h2⟩ := h; ⟨cs, u.get h1, h2⟩
theorem Item.said {w : World} {b : Nat} {k : Int} {s : ByteArray} (h : Item w b k s) : Said w b s := let ⟨cs, h1, _, h3, _⟩ := h; ⟨cs, h1, h3⟩

/-- a box with a slice of types -/
def SeqAt (w : World) (t g : Nat) (xs : List Nat) : Prop := ∃ (off cap : Nat) (cs : Array Value) (fz : Nat × Nat), w.heap[t]? = some (.cells #[.slice (some ⟨g, off, none⟩) xs.length cap] SlT (0, 0)) ∧ w.heap[g]? = some (.cells cs TpT fz) ∧ ∀ j x, xs[j]? = some x → cs[off + j]? = some (ptrV x)
theorem SeqAt.up {w w' : World} {t g : Nat} {xs : List Nat} (h : SeqAt w t g xs) (u : Up w w') : SeqAt w' t g xs := let ⟨off, cap, cs, fz, h1, h2, h3⟩ := h; ⟨off, cap, cs, fz, u.get h1, u.get h2, h3⟩

theorem Values_any (a : Option Addr) (n cap : Nat) (w : World) :
    Calls Tryz.prog 64 #[.slice a n cap] w fun e w' => e = .returned (.func (.func valuesF) #[] #[.pointer (some ⟨w.heap.size, 0, none⟩)]) ∧ w' = w.alloc (.cells #[.slice a n cap] SlT) := by
  go_enter Tryz.func64, Tryz.ntmps64
  go_wp2
  go_ret
  exact ⟨rfl, rfl⟩

/-- a type that is no union stands for itself -/
theorem each_item (b : Nat) (k : Int) (s : ByteArray) (hk : (k == 16) = false) (w : World) (h : Item w b k s) :
    Calls Tryz.prog 46 #[.pointer (some ⟨b, 0, none⟩)] w fun e w' => ∃ t g, e = .returned (.func (.func valuesF) #[] #[.pointer (some ⟨t, 0, none⟩)]) ∧ SeqAt w' t g [b] ∧ w.heap.size ≤ t ∧ w.heap.size ≤ g ∧ Up w w' := by
  obtain ⟨cs, h1, h2, h3⟩ := h
  have a0 := (cell_of h1 0).trans h2
  have a4 := lt_of_heap h1
  clear h1 h2 h3
  go_enter Tryz.func46, Tryz.ntmps46
  go_wp2_with (first | (go_at_call 64; refine (Values_any _ _ _ _).mono ?_; rintro e w2 ⟨rfl, rfl⟩))
  go_ret
  refine ⟨_, w.heap.size, rfl, ⟨0, _, #[ptrV b], (0, 0), alloc_at _ _ _ (by simp), (alloc_old _ _ _ (by simp)).trans (alloc_get _ _), ?_⟩, by simp, Nat.le_refl _, uq⟩
  intro j x hx
  cases j with
  | zero => simp at hx; subst hx; rfl
  | succ j => simp at hx

set_option maxRecDepth 100000 in
set_option maxHeartbeats 2000000 in
theorem values_iter (l tb : Nat) (xs : List Nat) (K : World → World → Prop) (hKr : ∀ W, K W W) (hKt : ∀ a b c, K a b → K b c → K a c) (J Jx : List Nat → World → Prop) (W : World)
    (hY : ∀ pre x W1, x ∈ xs → J pre W1 → pre.length < xs.length → YieldAt Fence.wide 0 Tryz.prog l #[ptrV x] W1 fun e W' =>
      (e = .returned (.bool true) ∧ J (pre ++ [x]) W' ∧ K W1 W') ∨ (e = .returned (.bool false) ∧ Jx (pre ++ [x]) W'))
    (hlen : xs.length ≤ 1000000) (hbox : ∃ g off cap, ∀ W', K W W' → W'.cell? ⟨tb, 0, none⟩ = some (.slice (some ⟨g, off, none⟩) xs.length cap) ∧ ∀ j x, xs[j]? = some x → W'.cell? ⟨g, off + j, none⟩ = some (ptrV x)) (h0 : J [] W) :
    CallsIn Fence.wide 1 Tryz.prog valuesF #[.func (.yield l) #[] #[], .pointer (some ⟨tb, 0, none⟩)] W fun e W' => (∃ v, e = .returned v) ∧
      (J xs W' ∨ (∃ pre, pre <+: xs ∧ Jx pre W')) := by
  obtain ⟨g, off, cap, hbox⟩ := hbox
  have hb0 := (hbox W (hKr W)).1
  have HB := Lib.hid hbox
  clear hbox
  refine callsIn_of_wp Tryz.func83 rfl trivial ?_ rfl
  simp only [Tryz.ntmps83, List.size_toArray, List.length_cons, List.length_nil, Nat.reduceAdd, Nat.reduceSub, Array.replicate_succ, Array.replicate_zero, List.push_toArray, List.append_toArray, List.nil_append, List.cons_append]
  gi_wp2
  gi_loopw [7] (fun i wr => ∃ (j : Nat), j ≤ xs.length ∧ i = .int .i64 j ∧ J (xs.take j) wr ∧ K W wr) (fun i _ => xs.length - (intOf i).toNat)
  case atStart => exact ⟨0, Nat.zero_le _, rfl, h0, hKr _⟩
  case round =>
    obtain ⟨j, hj, rfl, hJs, hnx⟩ := hrel
    by_cases hlt : j < xs.length
    · have hji : (j : Int) < xs.length := by omega
      obtain ⟨x, hx⟩ : ∃ x, xs[j]? = some x := ⟨_, List.getElem?_eq_getElem hlt⟩
      have y0 : wr.cell? ⟨g, off + j, none⟩ = some (.pointer (some ⟨x, 0, none⟩)) := (HB.out wr hnx).2 j x hx
      obtain ⟨fn, tmps, assign, body, hy, hR⟩ := hY _ x wr (List.mem_of_getElem? hx) hJs (by simp; omega)
      have hnext : xs.take (j + 1) = xs.take j ++ [x] := by rw [List.take_add_one, hx]; rfl
      have HX := Lib.hid hx
      simp only [ptrV] at hy
      clear hx hlt
      gi_wp2
      refine hR.mono ?_
      rintro e W3 (⟨rfl, hJ3, hk3⟩ | ⟨rfl, hJx3⟩)
      · gi_wp2
        go_roundw
        case rel => exact ⟨j + 1, by omega, by simp, by rw [hnext]; exact hJ3, hKt _ _ _ hnx hk3⟩
        case measure => simp [intOf]; omega
      · gi_wp2
        refine bodyPost_ret (results_none rfl _ _ _) rfl ?_
        exact ⟨⟨_, rfl⟩, .inr ⟨_, by rw [← hnext]; exact List.take_prefix _ _, hJx3⟩⟩
    · obtain rfl : j = xs.length := by omega
      gi_wp2
      go_end0
      rw [List.take_length] at hJs
      exact ⟨⟨_, rfl⟩, .inl hJs⟩

/-- what a round keeps: two blocks of cells -/
structure TwoKeep (S : Nat → Prop) (a b : World) : Prop where
  size : a.heap.size ≤ b.heap.size
  same : ∀ x o, S x → a.heap[x]? = some o → o.isCells = true → b.heap[x]? = some o
theorem TwoKeep.refl (S : Nat → Prop) (w : World) : TwoKeep S w w := ⟨Nat.le_refl _, fun _ _ _ h _ => h⟩
theorem TwoKeep.trans {S : Nat → Prop} {a b c : World} (h : TwoKeep S a b) (k : TwoKeep S b c) : TwoKeep S a c := ⟨Nat.le_trans h.size k.size, fun x o hx h1 h2 => k.same x o hx (h.same x o hx h1 h2) h2⟩
theorem TwoKeep.up {S : Nat → Prop} {a b c : World} (h : TwoKeep S a b) (k : Up b c) : TwoKeep S a c := ⟨Nat.le_trans h.size k.size, fun x o hx h1 h2 => k.get (h.same x o hx h1 h2)⟩
theorem TwoKeep.putObj (S : Nat → Prop) (W : World) (l : Nat) (o o' : Obj) (h : W.heap[l]? = some o) (hc : o.isCells = false) : TwoKeep S W (W.putObj l o') where
  size := by simp
  same := fun x u _ hx hu => by
    rw [World.putObj_heap_other (fun e => by subst e; rw [h] at hx; cases hx; rw [hc] at hu; cases hu)]
    exact hx

/-- one of these types -/
abbrev OneOf (xs : List Nat) := { x : Nat // x ∈ xs }

theorem values_stops (tb : Nat) (xs : List Nat) (hlen : xs.length ≤ 1000000) (w : World) (g : Nat) (h : SeqAt w tb g xs) :
    SeqStopsK Fence.wide 1 Tryz.prog valuesF #[.pointer (some ⟨tb, 0, none⟩)] (fun x : OneOf xs => #[ptrV x.1]) (TwoKeep fun x => x = tb ∨ x = g) (fun ys => ys.map (·.1) = xs) (fun _ => True) xs.length w := by
  obtain ⟨off, cap, cs, fz, h1, h2, h3⟩ := h
  intro l J0 Jx0 W hW hJ0 hJx0 hY0 h00
  refine CallsIn.mono (values_iter l tb xs (TwoKeep fun x => x = tb ∨ x = g) (TwoKeep.refl _) (fun _ _ _ => TwoKeep.trans) (fun pre W => ∃ ys : List (OneOf xs), ys.map (·.1) = pre ∧ J0 ys W) (fun pre W => ∃ ys : List (OneOf xs), ys.map (·.1) = pre ∧ Jx0 ys W) W ?_ hlen ⟨g, off, cap, fun W' hk => ?_⟩ ⟨[], rfl, h00⟩) ?_
  · rintro pre x W1 hx ⟨ys, rfl, hj⟩ hl
    obtain ⟨fn, tmps, assign, body, hy, hR⟩ := hY0 ys ⟨x, hx⟩ W1 hj (by simpa using hl)
    refine ⟨fn, tmps, assign, body, hy, hR.mono ?_⟩
    rintro e W' (⟨rfl, h1, h2⟩ | ⟨rfl, h1⟩)
    · exact .inl ⟨rfl, ⟨ys ++ [⟨x, hx⟩], by simp, h1⟩, h2⟩
    · exact .inr ⟨rfl, ys ++ [⟨x, hx⟩], by simp, h1⟩
  · refine ⟨?_, fun j x hx => ?_⟩
    · exact cell_of (hk.same tb _ (.inl rfl) (Up.get hW h1) rfl) 0
    · exact (cell_of (hk.same g _ (.inr rfl) (Up.get hW h2) rfl) _).trans (h3 j x hx)
  · rintro e W' ⟨hv, ⟨ys, hy, hj⟩ | ⟨pre, hp, ys, hy, hj⟩⟩
    · exact ⟨hv, Or.inl ⟨ys, hy, hj⟩⟩
    · exact ⟨hv, Or.inr ⟨ys, trivial, hj⟩⟩

end Go.Proofs.YtbghpkoimbmijaaGreatDoor
