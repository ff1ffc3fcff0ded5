import Derived.Deep.QuietTactic
import Derived.BigQuiet
import Derived.Test.YtbghpkoimbmijaaGreatDoorM04
/- YtbghpkoimbmijaaGreatDoorM05: lemmas of the proof, in order: KM, SX, SY. -/
/- Walks: sorted, at two types that stand in their order. -/
namespace Go.Proofs.YtbghpkoimbmijaaGreatDoor
open Go.RowKit
set_option linter.unusedSimpArgs false

abbrev lessF : Nat := 66
abbrev sameF : Nat := 68

/-- a world that grew out of w -/
structure UpOf (w : World) where
  W : World
  up : Up w W
instance (w : World) : Nonempty (UpOf w) := ⟨⟨w, Up.refl w⟩⟩

/-- a region that draws its order and only reads, its callees likewise but for new blocks: walked once -/
theorem wp_region_up {P : Program} {id : Nat} {Q : Exit → Act → World → Prop} {a : Act} {w : World} {l : List Oper} (hm : P.follows .mixedOrders = true) (hB : Region.lexB .any l.toArray = true)
    (h : wpQuiet P l.toArray (fun w' => ∃ i : UpOf w, w' = i.W) (fun a' => ∀ w', (∃ i : UpOf w, w' = i.W) → Q .normal a' w') l a) : (Code.region id l.toArray true).wp P Q a w :=
  wp_region_quiet (C := fun w' => ∃ i : UpOf w, w' = i.W) hm hB ⟨⟨_, (Up.refl w).drew⟩, rfl⟩ (by simpa using h)

theorem Calls.up_of {P : Program} {f : FuncId} {args : Array Value} {w : World} (i : UpOf w) {v : Value} (h : Calls P f args i.W fun e w' => e = .returned v ∧ Up i.W w') : Calls P f args i.W fun e w'' => e = .returned v ∧ ∃ j : UpOf w, w'' = j.W :=
  h.mono fun _ w' ⟨he, hu⟩ => ⟨he, ⟨w', i.up.trans hu⟩, rfl⟩

set_option maxRecDepth 100000 in
set_option maxHeartbeats 3200000 in
theorem same_said (x y b : Nat) (kx ky : Int) (s t : ByteArray) (w : World) (hb : ByAt w b) (hx : Item w x kx s) (hy : Item w y ky t) (hs : s.size ≤ 1000000000) (ht : t.size ≤ 1000000000) :
    Calls Tryz.prog 68 #[.pointer (some ⟨x, 0, none⟩), .pointer (some ⟨y, 0, none⟩), .pointer (some ⟨b, 0, none⟩)] w fun e w' => e = .returned (.bool ((partS kx s).toList == (partS ky t).toList)) ∧ Up w w' := by
  obtain ⟨fz, hb⟩ := hb
  have HX := Lib.hid hx
  have HY := Lib.hid hy
  have b0 := cell_of hb 0
  have bl := lt_of_heap hb
  have HB := Lib.hid hb
  simp only [List.getElem?_toArray, List.getElem?_cons_zero] at b0
  clear hx hy hb
  go_enter Tryz.func68, Tryz.ntmps68
  go_wp2_with fail
  go_region_law (first | (go_simp; go_at_call 50; first | (refine (by_said x kx s _ (HX.out.up uq) hs).mono ?_; rintro e w2 ⟨rfl, hu2⟩; have b0 := cell_of (hu2.get (Up.get (w := w) uq HB.out)) 0; simp only [List.getElem?_toArray, List.getElem?_cons_zero] at b0) | (refine (by_said y ky t _ (HY.out.up uq) ht).mono ?_; rintro e w3 ⟨rfl, hu3⟩; have b0 := cell_of (hu3.get (Up.get (w := w) uq HB.out)) 0; simp only [List.getElem?_toArray, List.getElem?_cons_zero] at b0)))
  all_goals (go_wp2_with fail)
  all_goals go_ret
  all_goals exact ⟨rfl, uq⟩

/-- two types in a row, in their order -/
structure TwoAt (w : World) (g off : Nat) (x y : Nat) (kx ky : Int) (s t : ByteArray) : Prop where
  ix : Item w x kx s
  iy : Item w y ky t
  c0 : w.cell? ⟨g, off, none⟩ = some (.pointer (some ⟨x, 0, none⟩))
  c1 : w.cell? ⟨g, off + 1, none⟩ = some (.pointer (some ⟨y, 0, none⟩))
  lt : g < w.heap.size
  sx : s.size ≤ 1000000000
  sy : t.size ≤ 1000000000
theorem TwoAt.up {w w' : World} {g off x y : Nat} {kx ky : Int} {s t : ByteArray} (h : TwoAt w g off x y kx ky s t) (k : Up w w') : TwoAt w' g off x y kx ky s t := ⟨h.ix.up k, h.iy.up k, (k.cells _ _ h.lt).trans h.c0, (k.cells _ _ h.lt).trans h.c1, Nat.lt_of_lt_of_le h.lt k.size, h.sx, h.sy⟩

set_option maxRecDepth 100000 in
set_option maxHeartbeats 3200000 in
theorem insertion_two (g off cap b x y : Nat) (kx ky : Int) (s t : ByteArray) (w : World) (h : TwoAt w g off x y kx ky s t) (hb : ByAt w b) (hle : 0 ≤ cmpS (partS ky t) (partS kx s)) :
    Calls Tryz.prog 97 #[.slice (some ⟨g, off, none⟩) 2 cap, .int .i64 0, .int .i64 2, .func (.func lessF) #[] #[.pointer (some ⟨b, 0, none⟩)]] w fun e w' => e = .returned (.tuple #[]) ∧ Up w w' := by
  have H := Lib.hid h
  have HB := Lib.hid hb
  have c0 := h.c0
  have c1 := h.c1
  have gl := h.lt
  have HC : Hid (decide (cmpS (partS ky t) (partS kx s) < 0) = false) := by unfold Hid; simpa using hle
  clear h hb hle
  go_enter Tryz.func97, Tryz.ntmps97
  go_wp2_with fail
  refine wp_loop_rounds 2 ?_
  rw [rounds_succ]
  go_wp2_with fail
  refine wp_loop_rounds 1 ?_
  rw [rounds_succ]
  go_wp2_with fail
  have r0 : ∀ i : UpOf w, i.W.cell? ⟨g, off, none⟩ = some (.pointer (some ⟨x, 0, none⟩)) := fun i => (i.up.cells _ _ gl).trans c0
  have r1 : ∀ i : UpOf w, i.W.cell? ⟨g, off + 1, none⟩ = some (.pointer (some ⟨y, 0, none⟩)) := fun i => (i.up.cells _ _ gl).trans c1
  have hw0 : IntKind.i64.wrap 0 = 0 := IntWalk.i64_in 0 (by omega)
  refine wp_region_up (by kernel_rfl) (by kernel_rfl) ?_
  repeat (quiet_step ((go_at_call 66; rename_i i; exact Calls.up_of i (less_said y x b ky kx t s _ (HB.out.up i.up) (H.out.iy.up i.up) (H.out.ix.up i.up) H.out.sy H.out.sx))))
  refine wpQuiet_nil ?_
  intro _ hw'
  obtain ⟨⟨w2, hu2⟩, hw''⟩ := hw'
  subst hw''
  simp only [HC.out]
  clear r0 r1 c0 c1 hw0
  go_wp2_with fail
  rw [rounds_succ]
  go_wp2_with fail
  go_end0
  exact ⟨rfl, uq⟩

set_option maxHeartbeats 1600000 in
theorem stable_two (g off cap b x y : Nat) (kx ky : Int) (s t : ByteArray) (w : World) (h : TwoAt w g off x y kx ky s t) (hb : ByAt w b) (hle : 0 ≤ cmpS (partS ky t) (partS kx s)) :
    Calls Tryz.prog 84 #[.slice (some ⟨g, off, none⟩) 2 cap, .int .i64 2, .func (.func lessF) #[] #[.pointer (some ⟨b, 0, none⟩)]] w fun e w' => e = .returned (.tuple #[]) ∧ Up w w' := by
  have H := Lib.hid h
  have HB := Lib.hid hb
  have HC := Lib.hid hle
  clear h hb hle
  go_enter Tryz.func84, Tryz.ntmps84
  go_wp2_with fail
  refine wp_loop_rounds 1 ?_
  rw [rounds_succ]
  go_wp2_with fail
  go_at_call 97
  refine (insertion_two g off cap b x y kx ky s t _ H.out HB.out HC.out).mono ?_
  rintro e w2 ⟨rfl, hu2⟩
  go_wp2_with fail
  refine wp_loop_rounds 1 ?_
  rw [rounds_succ]
  go_wp2_with fail
  go_end0
  exact ⟨rfl, uq⟩

set_option maxHeartbeats 1600000 in
theorem SortStable_two (g off cap b x y : Nat) (kx ky : Int) (s t : ByteArray) (w : World) (h : TwoAt w g off x y kx ky s t) (hb : ByAt w b) (hle : 0 ≤ cmpS (partS ky t) (partS kx s)) :
    Calls Tryz.prog 65 #[.slice (some ⟨g, off, none⟩) 2 cap, .func (.func lessF) #[] #[.pointer (some ⟨b, 0, none⟩)]] w fun e w' => e = .returned (.tuple #[]) ∧ Up w w' := by
  have H := Lib.hid h
  have HB := Lib.hid hb
  have HC := Lib.hid hle
  clear h hb hle
  go_enter Tryz.func65, Tryz.ntmps65
  go_wp2_with (first | (go_at_call 84; refine (stable_two g off cap b x y kx ky s t _ H.out HB.out HC.out).mono ?_; rintro e w2 ⟨rfl, hu2⟩))
  go_end0
  exact ⟨rfl, uq⟩

set_option maxRecDepth 100000 in
set_option maxHeartbeats 3200000 in
theorem Compact_two (g off cap b x y : Nat) (kx ky : Int) (s t : ByteArray) (w : World) (h : TwoAt w g off x y kx ky s t) (hb : ByAt w b) (hne : ((partS ky t).toList == (partS kx s).toList) = false) :
    Calls Tryz.prog 67 #[.slice (some ⟨g, off, none⟩) 2 cap, .func (.func sameF) #[] #[.pointer (some ⟨b, 0, none⟩)]] w fun e w' => e = .returned (.slice (some ⟨g, off, none⟩) 2 cap) ∧ Up w w' := by
  have H := Lib.hid h
  have HB := Lib.hid hb
  have c0 := h.c0
  have c1 := h.c1
  have gl := h.lt
  have HC := Lib.hid hne
  clear h hb hne
  go_enter Tryz.func67, Tryz.ntmps67
  go_wp2_with fail
  refine wp_loop_rounds 2 ?_
  rw [rounds_succ]
  go_wp2_with fail
  have r0 : ∀ i : UpOf w, i.W.cell? ⟨g, off, none⟩ = some (.pointer (some ⟨x, 0, none⟩)) := fun i => (i.up.cells _ _ gl).trans c0
  have r1 : ∀ i : UpOf w, i.W.cell? ⟨g, off + 1, none⟩ = some (.pointer (some ⟨y, 0, none⟩)) := fun i => (i.up.cells _ _ gl).trans c1
  have hw0 : IntKind.i64.wrap 0 = 0 := IntWalk.i64_in 0 (by omega)
  refine wp_region_up (by kernel_rfl) (by kernel_rfl) ?_
  repeat (quiet_step ((go_at_call 68; rename_i i; exact Calls.up_of i (same_said y x b ky kx t s _ (HB.out.up i.up) (H.out.iy.up i.up) (H.out.ix.up i.up) H.out.sy H.out.sx))))
  refine wpQuiet_nil ?_
  intro _ hw'
  obtain ⟨⟨w2, hu2⟩, hw''⟩ := hw'
  subst hw''
  simp only [HC.out]
  clear r0 r1 c0 c1 hw0
  go_wp2_with fail
  rw [rounds_succ]
  go_wp2_with fail
  go_ret
  exact ⟨rfl, uq⟩

set_option maxHeartbeats 1600000 in
theorem sorted_two (g off cap x y : Nat) (kx ky : Int) (s t : ByteArray) (w : World) (h : TwoAt w g off x y kx ky s t) (hle : 0 ≤ cmpS (partS ky t) (partS kx s)) (hne : ((partS ky t).toList == (partS kx s).toList) = false) :
    Calls Tryz.prog 48 #[.slice (some ⟨g, off, none⟩) 2 cap, .func (.func byF) #[] #[]] w fun e w' => e = .returned (.slice (some ⟨g, off, none⟩) 2 cap) ∧ Up w w' := by
  have H := Lib.hid h
  have HC := Lib.hid hle
  have HN := Lib.hid hne
  clear h hle hne
  go_enter Tryz.func48, Tryz.ntmps48
  go_wp2_with (first | (go_at_call 65; refine (SortStable_two g off cap w.heap.size x y kx ky s t _ (H.out.up uq) ⟨_, alloc_get _ _⟩ HC.out).mono ?_; rintro e w2 ⟨rfl, hu2⟩) | (go_at_call 67; refine (Compact_two g off cap w.heap.size x y kx ky s t _ (H.out.up uq) ⟨_, hu2.get (alloc_get _ _)⟩ HN.out).mono ?_; rintro e w3 ⟨rfl, hu3⟩))
  go_ret
  exact ⟨rfl, uq⟩

theorem Clip_any (a : Addr) (n cap : Nat) (hn : n ≤ cap) (hn0 : 0 < n) (w : World) :
    Calls Tryz.prog 52 #[.slice (some a) n cap] w fun e w' => e = .returned (.slice (some a) n n) ∧ Up w w' := by
  have hi : (n : Int) ≤ cap := by omega
  go_enter Tryz.func52, Tryz.ntmps52
  go_wp2_with fail
  go_ret
  exact ⟨rfl, uq⟩

end Go.Proofs.YtbghpkoimbmijaaGreatDoor

/- Walk: insertionSort of a row of types, by whatever comparison. -/
namespace Go.Proofs.YtbghpkoimbmijaaGreatDoor
open Go.RowKit
set_option linter.unusedSimpArgs false

/-- worlds in which a row holds these cells, and something else stands -/
structure RowW (I : World → Prop) (g : Nat) (cs : Array Value) where
  W : World
  inv : I W
  row : W.heap[g]? = some (.cells cs TpT (0, 0))

/-- how two types are compared: what stands besides goes on standing, the row is left alone -/
structure Cmp (I : World → Prop) (g b : Nat) (S : Nat → Prop) (cf : Nat → Nat → Int) : Prop where
  run : ∀ (W : World) (x y : Nat), I W → S x → S y → Calls Tryz.prog 66 #[.pointer (some ⟨x, 0, none⟩), .pointer (some ⟨y, 0, none⟩), .pointer (some ⟨b, 0, none⟩)] W fun e W' => e = .returned (.int .i64 (cf x y)) ∧ I W' ∧ W'.heap[g]? = W.heap[g]?
abbrev ltC (cf : Nat → Nat → Int) (x y : Nat) : Bool := decide (cf x y < 0)

theorem wp_region_row {P : Program} {id : Nat} {Q : Exit → Act → World → Prop} {a : Act} {w : World} {l : List Oper} (I : World → Prop) (g : Nat) (cs : Array Value) (hm : P.follows .mixedOrders = true) (hB : Region.lexB .any l.toArray = true) (hI : I w.drew) (hr : w.heap[g]? = some (.cells cs TpT (0, 0)))
    (h : wpQuiet P l.toArray (fun w' => ∃ i : RowW I g cs, w' = i.W) (fun a' => ∀ w', (∃ i : RowW I g cs, w' = i.W) → Q .normal a' w') l a) : (Code.region id l.toArray true).wp P Q a w :=
  wp_region_quiet (C := fun w' => ∃ i : RowW I g cs, w' = i.W) hm hB ⟨⟨_, hI, hr⟩, rfl⟩ (by simpa using h)

theorem Cmp.of {I : World → Prop} {g b : Nat} {S : Nat → Prop} {cf : Nat → Nat → Int} (h : Cmp I g b S cf) {cs : Array Value} (i : RowW I g cs) {x y : Nat} (hx : S x) (hy : S y) :
    Calls Tryz.prog 66 #[.pointer (some ⟨x, 0, none⟩), .pointer (some ⟨y, 0, none⟩), .pointer (some ⟨b, 0, none⟩)] i.W fun e W' => e = .returned (.int .i64 (cf x y)) ∧ ∃ j : RowW I g cs, W' = j.W :=
  (h.run i.W x y i.inv hx hy).mono fun _ W' ⟨h1, h2, h3⟩ => ⟨h1, ⟨W', h2, h3.trans i.row⟩, rfl⟩

theorem RowW.cell {I : World → Prop} {g : Nat} {cs : Array Value} {off j x : Nat} {xs : List Nat} (hc : ∀ j x, xs[j]? = some x → cs[off + j]? = some (ptrV x)) (hx : xs[j]? = some x) (i : RowW I g cs) : i.W.cell? ⟨g, off + j, none⟩ = some (.pointer (some ⟨x, 0, none⟩)) := (cell_of i.row _).trans (hc j x hx)

abbrev cmpV (b : Nat) : Value := .func (.func lessF) #[] #[.pointer (some ⟨b, 0, none⟩)]

theorem ins_step {cf : Nat → Nat → Int} (ho : SortL.Swo (ltC cf)) {pl k : Nat} {s1 s2 s r r' t0 : List Nat} {v : Nat} (h : pl + s.length = k ∧ (s ++ r).Perm t0 ∧ SortL.Sorted (ltC cf) s) (hr : r = v :: r') (h1 : s1 ++ s2 = s ∧ ∀ y ∈ s2, ltC cf v y = true) (h2 : ∀ a t, s1 = a ++ [t] → ltC cf v t = false) :
    pl + (s1 ++ v :: s2).length = k + 1 ∧ ((s1 ++ v :: s2) ++ r').Perm t0 ∧ SortL.Sorted (ltC cf) (s1 ++ v :: s2) := by
  obtain ⟨g1, g2, g3⟩ := h
  obtain ⟨rfl, g4⟩ := h1
  subst hr
  refine ⟨by simp at g1 ⊢; omega, ?_, SortL.ins_done ho g3 g4 h2⟩
  refine List.Perm.trans ?_ g2
  simp only [List.append_assoc, List.cons_append]
  exact (List.Perm.append_left s1 List.perm_middle.symm)

set_option maxRecDepth 100000 in
set_option maxHeartbeats 6400000 in
theorem insertion_any (I : World → Prop) (g off n cap b : Nat) (S : Nat → Prop) (cf : Nat → Nat → Int) (ho : SortL.Swo (ltC cf)) (hI : Inv g I) (hC : Cmp I g b S cf) (p q : List Nat) (x0 : Nat) (u : List Nat) (w : World) (hS : ∀ x ∈ x0 :: u, S x) (h : RowAt w g off (p ++ (x0 :: u) ++ q)) (hn : (p ++ (x0 :: u) ++ q).length = n) (_hc : n ≤ cap) (hb : n ≤ 1000000) (hi : I w)
    (a e0 : Int) (ea : a = p.length) (eb : e0 = (p.length + u.length + 1 : Nat)) :
    Calls Tryz.prog 97 #[.slice (some ⟨g, off, none⟩) n cap, .int .i64 a, .int .i64 e0, cmpV b] w fun e w' => e = .returned (.tuple #[]) ∧ (∃ z, z.Perm (x0 :: u) ∧ SortL.Sorted (ltC cf) z ∧ RowAt w' g off (p ++ z ++ q)) ∧ I w' := by
  obtain ⟨pl, hpl⟩ : ∃ pl, Hid (p.length = pl) := ⟨_, rfl⟩
  obtain ⟨el, hel⟩ : ∃ el, Hid (p.length + u.length + 1 = el) := ⟨_, rfl⟩
  have ea' : a = (pl : Int) := by rw [ea, hpl.out]
  have eb' : e0 = (el : Int) := by rw [eb, hel.out]
  subst ea' eb'
  have HN : Hid (el + q.length = n ∧ pl + u.length + 1 = el) := by
    unfold Hid
    have h1 := hpl.out
    have h2 := hel.out
    simp only [List.length_append, List.length_cons] at hn
    omega
  have H := Lib.hid (And.intro h (And.intro hI (And.intro hi (And.intro hC (And.intro ho hS)))))
  have hb1 : pl + 1 ≤ el := by have := HN.out; omega
  have hb2 : el ≤ n := by have := HN.out; omega
  clear h hI hi hC ho hS hn ea eb
  go_enter Tryz.func97, Tryz.ntmps97
  go_wp2_with fail
  go_loopw [8] (fun i wr => ∃ (k : Nat) (s r : List Nat), i = .int .i64 k ∧ Hid (pl + s.length = k ∧ (s ++ r).Perm (x0 :: u) ∧ SortL.Sorted (ltC cf) s) ∧ 0 < s.length ∧ k ≤ el ∧ RowAt wr g off (p ++ s ++ r ++ q) ∧ I wr) (fun i _ => el - (intOf i).toNat)
  case atStart => exact ⟨pl + 1, [x0], u, by simp, ⟨rfl, by simp, by simp⟩, by simp, by omega, by simpa using H.out.1, H.out.2.2.1⟩
  case round =>
    obtain ⟨k, s, r, rfl, hh, hs0, hk, hrow, hIw⟩ := hrel
    by_cases hlt : k < el
    · have hki : (k : Int) < el := by omega
      obtain ⟨v, r', hr⟩ : ∃ v r', r = v :: r' := by
        cases r with
        | nil =>
          have h1 := hh.out.2.1.length_eq
          have h2 := hh.out.1
          have h3 := HN.out
          simp at h1
          omega
        | cons v r' => exact ⟨v, r', rfl⟩
      have hsv : S v := H.out.2.2.2.2.2 v (hh.out.2.1.mem_iff.1 (by rw [hr]; simp))
      have hss : ∀ x ∈ s, S x := fun x hx => H.out.2.2.2.2.2 x (hh.out.2.1.mem_iff.1 (by simp [hx]))
      have R := Lib.hid (And.intro hrow (And.intro hIw (And.intro hr (And.intro hsv hss))))
      clear hrow hIw hr hsv hss hlt
      go_wp2_with fail
      go_loopw [9] (fun j wr => ∃ (jn : Nat) (s1 s2 : List Nat), j = .int .i64 jn ∧ Hid (pl + s1.length = jn ∧ s1 ++ s2 = s ∧ ∀ y ∈ s2, ltC cf v y = true) ∧ jn ≤ k ∧ RowAt wr g off (p ++ s1 ++ v :: (s2 ++ r' ++ q)) ∧ I wr) (fun j _ => (intOf j).toNat)
      case atStart => exact ⟨k, s, [], rfl, ⟨hh.out.1, by simp, by simp⟩, Nat.le_refl _, by have := R.out.1; rw [R.out.2.2.1] at this; simpa using this, R.out.2.1⟩
      case round =>
        obtain ⟨jn, s1, s2, rfl, h1, hj, hrow, hIw⟩ := hrel
        rcases List.eq_nil_or_concat s1 with e | ⟨s', t, e⟩
        · subst e
          have hjn : jn = pl := by have := h1.out.1; simp at this; omega
          have hd : decide (pl < jn) = false := by simp only [decide_eq_false_iff_not]; omega
          have R1 := Lib.hid (And.intro hrow (And.intro hIw (ins_step H.out.2.2.2.2.1 hh.out R.out.2.2.1 h1.out.2 (fun a t e => by simp at e))))
          obtain ⟨cs, hcs, hcv⟩ := hrow
          have hId := H.out.2.1.drew _ hIw
          clear hIw hcv hjn
          go_wp2_with fail
          haveI : Nonempty (RowW I g cs) := ⟨⟨_, hId, hcs⟩⟩
          refine wp_region_row I g cs (by kernel_rfl) (by kernel_rfl) hId hcs ?_
          repeat (go_big_quiet_step (fail))
          refine wpQuiet_nil ?_
          intro w2 hw'
          obtain ⟨i2, hw''⟩ := hw'
          have hi2 : I w2 := hw'' ▸ i2.inv
          have hr2 : w2.heap[g]? = some (.cells cs TpT (0, 0)) := hw'' ▸ i2.row
          clear hw''
          have R2 : Hid (RowAt w2 g off (p ++ [] ++ v :: (s2 ++ r' ++ q)) ∧ I w2) := ⟨R1.out.1.keep (hr2.trans hcs.symm), hi2⟩
          clear hcs hId hi2 hr2
          go_wp2_with fail
          go_roundw
          case rel => exact ⟨k + 1, [] ++ v :: s2, r', by simp, R1.out.2.2, by simp, by omega, by simpa using R2.out.1, R2.out.2⟩
          case measure => simp [intOf]; omega
        · rw [List.concat_eq_append] at e
          subst e
          obtain ⟨jm, rfl⟩ : ∃ jm, jn = jm + 1 := ⟨jn - 1, by have := h1.out.1; simp at this; omega⟩
          have hjm : Hid (pl + s'.length = jm) := by have := h1.out.1; unfold Hid; simp at this; omega
          have hjl : pl ≤ jm := by have := hjm.out; omega
          have hd : decide ((pl : Int) < (jm : Int) + 1) = true := by simp only [decide_eq_true_eq]; omega
          have hst : S t := R.out.2.2.2.2 t (by rw [← h1.out.2.1]; simp)
          have hsv : S v := R.out.2.2.2.1
          have hrow2 : RowAt wr g off ((p ++ s') ++ t :: ([] ++ v :: (s2 ++ r' ++ q))) := by simpa using hrow
          have hal : Hid ((p ++ s').length = jm ∧ (p ++ s').length + 1 + ([] : List Nat).length = jm + 1) := by
            have q1 := hjm.out
            have q2 := hpl.out
            constructor <;> simp <;> omega
          have x0 := hrow2.first hal.out.1
          have y0 := hrow2.second hal.out.2
          have R1 := Lib.hid (And.intro hrow2 (And.intro hst (And.intro hsv hrow)))
          obtain ⟨cs, hcs, hcv⟩ := hrow2
          have hId := H.out.2.1.drew _ hIw
          have r0 : ∀ i : RowW I g cs, i.W.cell? ⟨g, off + jm, none⟩ = some (.pointer (some ⟨t, 0, none⟩)) := fun i => RowAt.first (w := i.W) ⟨cs, i.row, hcv⟩ hal.out.1
          have r1 : ∀ i : RowW I g cs, i.W.cell? ⟨g, off + (jm + 1), none⟩ = some (.pointer (some ⟨v, 0, none⟩)) := fun i => RowAt.second (w := i.W) ⟨cs, i.row, hcv⟩ hal.out.2
          have t1 : ((jm : Int) + 1).toNat = jm + 1 := by omega
          have hjn : (jm : Int) + 1 < n := by omega
          have hj0 : (0 : Int) ≤ (jm : Int) + 1 := by omega
          have hj2 : (jm : Int) < n := by omega
          have hw0 : IntKind.i64.wrap (jm : Int) = jm := IntWalk.i64_in _ (by omega)
          have HC := Lib.hid hcs
          clear hst hsv hrow hIw hcv x0 y0
          go_wp2_with fail
          haveI : Nonempty (RowW I g cs) := ⟨⟨_, hId, hcs⟩⟩
          refine wp_region_row I g cs (by kernel_rfl) (by kernel_rfl) hId hcs ?_
          repeat (go_big_quiet_step ((go_at_call 66; rename_i i; exact H.out.2.2.2.1.of i R1.out.2.2.1 R1.out.2.1)))
          refine wpQuiet_nil ?_
          intro w2 hw'
          obtain ⟨i2, hw''⟩ := hw'
          have hi2 : I w2 := hw'' ▸ i2.inv
          have hr2 : w2.heap[g]? = some (.cells cs TpT (0, 0)) := hw'' ▸ i2.row
          clear hw''
          have hk2 : w2.heap[g]? = wr.heap[g]? := hr2.trans HC.out.symm
          have q0 := R1.out.1.keep hk2
          have R2 := Lib.hid (And.intro q0 hi2)
          clear hcs hId r0 r1 hw0 hr2 hi2 hk2 i2
          by_cases hcm : cf v t < 0
          · have HCM : Hid (ltC cf v t = true) := by unfold Hid; simpa using hcm
            have x0 := q0.first hal.out.1
            have y0 := q0.second hal.out.2
            have f0 := q0.ice (off + jm)
            have f1 := q0.ice (off + (jm + 1))
            have gl := q0.lt
            have hR2 := Lib.hid (q0.swap' hal.out.1 hal.out.2)
            have hI2 : Hid (I ((w2.setCell ⟨g, off + (jm + 1), none⟩ (pv t)).setCell ⟨g, off + jm, none⟩ (pv v)).drew) := H.out.2.1.drew _ (H.out.2.1.set _ _ _ (H.out.2.1.set _ _ _ R2.out.2))
            clear q0
            go_wp2_with fail
            go_region
            go_wp2_with fail
            go_roundw
            case rel =>
              refine ⟨jm, s', t :: s2, by simp, ⟨hjm.out, by rw [← h1.out.2.1]; simp, fun y hy => ?_⟩, by omega, by have := hR2.out; simpa using this, hI2.out⟩
              rcases List.mem_cons.1 hy with rfl | hy
              · exact HCM.out
              · exact h1.out.2.2 y hy
            case measure => simp [intOf] <;> omega
          · have HCM : Hid (ltC cf v t = false) := by unfold Hid; simpa using hcm
            have R3 := Lib.hid (ins_step H.out.2.2.2.2.1 hh.out R.out.2.2.1 h1.out.2 (fun a t' e => by
              have := List.append_inj' e rfl
              have q : t = t' := by simpa using this.2
              rw [← q]
              exact HCM.out))
            clear q0
            go_wp2_with fail
            go_roundw
            case rel => exact ⟨k + 1, (s' ++ [t]) ++ v :: s2, r', by simp, R3.out, by simp; omega, by omega, by have := R2.out.1; simpa using this, R2.out.2⟩
            case measure => simp [intOf]; omega
    · have hki : ¬ (k : Int) < el := by omega
      have R := Lib.hid (And.intro hrow hIw)
      clear hrow hIw
      go_wp2_with fail
      go_end0
      have hr : r = [] := by
        have h1 := hh.out.2.1.length_eq
        have h2 := hh.out.1
        have h3 := HN.out
        simp at h1
        exact List.length_eq_zero_iff.1 (by omega)
      subst hr
      refine ⟨rfl, ⟨s, by have := hh.out.2.1; simpa using this, hh.out.2.2, by have := R.out.1; simpa using this⟩, R.out.2⟩

end Go.Proofs.YtbghpkoimbmijaaGreatDoor

/- Walks: symMerge: one element on the left, one on the right. -/
namespace Go.Proofs.YtbghpkoimbmijaaGreatDoor
open Go.RowKit
set_option linter.unusedSimpArgs false

/-- what stands when a row of types was sorted -/
def Merged (I : World → Prop) (g off : Nat) (cf : Nat → Nat → Int) (p t q : List Nat) (e : Ending) (w' : World) : Prop := e = .returned (.tuple #[]) ∧ (∃ z, z.Perm t ∧ SortL.Sorted (ltC cf) z ∧ RowAt w' g off (p ++ z ++ q)) ∧ I w'

theorem lo_step {cf : Nat → Nat → Int} (ho : SortL.Swo (ltC cf)) {v : List Nat} (hs : SortL.Sorted (ltC cf) v) {x y h : Nat} (hy : v[h]? = some y) (hc : ltC cf y x = true) : ∀ k z, k < h + 1 → v[k]? = some z → ltC cf z x = true := fun _ _ hk hz => ho.le_lt (SortL.sorted_le ho hs (by omega) hz hy) hc
theorem hi_step {cf : Nat → Nat → Int} (ho : SortL.Swo (ltC cf)) {v : List Nat} (hs : SortL.Sorted (ltC cf) v) {x y h : Nat} (hy : v[h]? = some y) (hc : ltC cf y x = false) : ∀ k z, h ≤ k → v[k]? = some z → ltC cf z x = false := fun _ _ hk hz => ho.le_trans hc (SortL.sorted_le ho hs hk hy hz)

set_option maxRecDepth 100000 in
set_option maxHeartbeats 6400000 in
theorem symMerge_left (I : World → Prop) (g off n cap b : Nat) (S : Nat → Prop) (cf : Nat → Nat → Int) (ho : SortL.Swo (ltC cf)) (hI : Inv g I) (hC : Cmp I g b S cf) (p q v : List Nat) (x : Nat) (w : World) (hv : SortL.Sorted (ltC cf) v) (hS : ∀ z ∈ x :: v, S z) (h : RowAt w g off (p ++ (x :: v) ++ q)) (hn : (p ++ (x :: v) ++ q).length = n) (hb : n ≤ 1000000) (hi : I w)
    (a0 m0 e0 : Int) (ea : a0 = p.length) (em : m0 = (p.length + 1 : Nat)) (ee : e0 = (p.length + 1 + v.length : Nat)) :
    Calls Tryz.prog 98 #[.slice (some ⟨g, off, none⟩) n cap, .int .i64 a0, .int .i64 m0, .int .i64 e0, cmpV b] w (Merged I g off cf p (x :: v) q) := by
  obtain ⟨a, ha⟩ : ∃ a, Hid (p.length = a) := ⟨_, rfl⟩
  obtain ⟨m, hm⟩ : ∃ m, Hid (p.length + 1 = m) := ⟨_, rfl⟩
  obtain ⟨el, hel⟩ : ∃ el, Hid (p.length + 1 + v.length = el) := ⟨_, rfl⟩
  have ea' : a0 = (a : Int) := by rw [ea, ha.out]
  have em' : m0 = (m : Int) := by rw [em, hm.out]
  have ee' : e0 = (el : Int) := by rw [ee, hel.out]
  subst ea' em' ee'
  have HN : Hid (el + q.length = n ∧ m + v.length = el ∧ m = a + 1) := by
    unfold Hid
    have h1 := ha.out
    have h2 := hel.out
    have h3 := hm.out
    simp only [List.length_append, List.length_cons] at hn
    omega
  have H := Lib.hid (And.intro h (And.intro hI (And.intro hi (And.intro hC (And.intro ho (And.intro hS hv))))))
  have hb1 : m ≤ el := by have := HN.out; omega
  have hb2 : el ≤ n := by have := HN.out; omega
  have hb3 : a < m := by have := HN.out; omega
  have hq : ((m : Int) - a == 1) = true := by have := HN.out; simp only [beq_iff_eq]; omega
  clear h hI hi hC ho hS hn ea em ee hv
  go_enter Tryz.func98, Tryz.ntmps98
  go_wp2_with fail
  go_loopw [10, 11] (fun i j wr => ∃ (i' j' : Nat), i = .int .i64 i' ∧ j = .int .i64 j' ∧ m ≤ i' ∧ i' ≤ j' ∧ j' ≤ el ∧ Hid ((∀ k z, k < i' - m → v[k]? = some z → ltC cf z x = true) ∧ ∀ k z, j' - m ≤ k → v[k]? = some z → ltC cf z x = false) ∧ RowAt wr g off (p ++ (x :: v) ++ q) ∧ I wr) (fun i j _ => (intOf j).toNat - (intOf i).toNat)
  case atStart =>
    refine ⟨m, el, rfl, rfl, Nat.le_refl _, hb1, Nat.le_refl _, ⟨fun _ _ hk => by omega, fun k z hk hz => ?_⟩, H.out.1, H.out.2.2.1⟩
    have := (List.getElem?_eq_some_iff.1 hz).1
    have := HN.out
    omega
  case round =>
    obtain ⟨i, j, rfl, rfl, h1, h2, h3, hh, hrow, hIw⟩ := hrel
    by_cases hlt : i < j
    · have hij : (i : Int) < j := by omega
      obtain ⟨h, hhd⟩ : ∃ h, h = (i + j) / 2 := ⟨_, rfl⟩
      have hm1 : i ≤ h := by omega
      have hm2 : h < j := by omega
      have e2 : ((i : Int) + j) / 2 = (h : Int) := by omega
      obtain ⟨y, hy⟩ : ∃ y, v[h - m]? = some y := ⟨_, List.getElem?_eq_getElem (by have := HN.out; omega)⟩
      have hsx : S x := H.out.2.2.2.2.2.1 x (by simp)
      have hsy : S y := H.out.2.2.2.2.2.1 y (by simp [List.mem_of_getElem? hy])
      have hrx : (p ++ (x :: v) ++ q)[a]? = some x := by
        have := ha.out
        rw [List.append_assoc, ← this, List.getElem?_append_right (Nat.le_refl _), Nat.sub_self]
        rfl
      have hry : (p ++ (x :: v) ++ q)[h]? = some y := by
        have h4 := ha.out
        have h5 := HN.out
        have h6 := (List.getElem?_eq_some_iff.1 hy).1
        rw [List.append_assoc, List.getElem?_append_right (by omega), List.getElem?_append_left (by simp; omega)]
        have e3 : h - p.length = (h - m) + 1 := by omega
        rw [e3, List.getElem?_cons_succ]
        exact hy
      have R1 := Lib.hid (And.intro hrow (And.intro hsx (And.intro hsy hy)))
      obtain ⟨cs, hcs, hcv⟩ := hrow
      have hId := H.out.2.1.drew _ hIw
      have r0 : ∀ i : RowW I g cs, i.W.cell? ⟨g, off + a, none⟩ = some (.pointer (some ⟨x, 0, none⟩)) := fun i => RowW.cell hcv hrx i
      have r1 : ∀ i : RowW I g cs, i.W.cell? ⟨g, off + h, none⟩ = some (.pointer (some ⟨y, 0, none⟩)) := fun i => RowW.cell hcv hry i
      have l1 : (a : Int) < n := by omega
      have l2 : (h : Int) < n := by omega
      have HC := Lib.hid hcs
      have HH := Lib.hid (And.intro hm1 hm2)
      clear hIw hcv hrx hry hsx hsy hy hhd hlt
      go_wp2_with fail
      clear e2
      haveI : Nonempty (RowW I g cs) := ⟨⟨_, hId, hcs⟩⟩
      refine wp_region_row I g cs (by kernel_rfl) (by kernel_rfl) hId hcs ?_
      repeat (go_big_quiet_step ((go_at_call 66; rename_i i; exact H.out.2.2.2.1.of i R1.out.2.2.1 R1.out.2.1)))
      refine wpQuiet_nil ?_
      intro w2 hw'
      obtain ⟨i2, hw''⟩ := hw'
      have hi2 : I w2 := hw'' ▸ i2.inv
      have hr2 : w2.heap[g]? = some (.cells cs TpT (0, 0)) := hw'' ▸ i2.row
      clear hw''
      have R2 : Hid (RowAt w2 g off (p ++ (x :: v) ++ q) ∧ I w2) := ⟨R1.out.1.keep (hr2.trans HC.out.symm), hi2⟩
      clear hcs hId r0 r1 hr2 hi2 i2
      by_cases hcm : cf y x < 0
      · have HCM : Hid (ltC cf y x = true) := by unfold Hid; simpa using hcm
        go_wp2_with fail
        go_roundw
        case rel =>
          refine ⟨h + 1, j, by simp, rfl, by omega, by omega, by omega, ⟨fun k z hk hz => ?_, hh.out.2⟩, R2.out⟩
          exact lo_step H.out.2.2.2.2.1 H.out.2.2.2.2.2.2 R1.out.2.2.2 HCM.out k z (by omega) hz
        case measure => simp [intOf] <;> omega
      · have HCM : Hid (ltC cf y x = false) := by unfold Hid; simpa using hcm
        go_wp2_with fail
        go_roundw
        case rel =>
          refine ⟨i, h, rfl, rfl, by omega, by omega, by omega, ⟨hh.out.1, fun k z hk hz => ?_⟩, R2.out⟩
          exact hi_step H.out.2.2.2.2.1 H.out.2.2.2.2.2.2 R1.out.2.2.2 HCM.out k z (by omega) hz
        case measure => simp [intOf] <;> omega
    · obtain rfl : i = j := by omega
      have hij : ¬ (i : Int) < i := by omega
      have R := Lib.hid (And.intro hrow hIw)
      clear hrow hIw hlt
      have HL := Lib.hid (And.intro h1 (And.intro h2 h3))
      go_wp2_with fail
      go_loopw [13] (fun kv wr => ∃ kk d : Nat, kv = .int .i64 kk ∧ Hid (a + d = kk) ∧ a ≤ kk ∧ kk + 1 ≤ i ∧ RowAt wr g off (p ++ v.take d ++ x :: (v.drop d ++ q)) ∧ I wr) (fun kv _ => i - (intOf kv).toNat)
      case atStart => exact ⟨a, 0, rfl, rfl, Nat.le_refl _, by have := HN.out; omega, by have := R.out.1; simpa using this, R.out.2⟩
      case round =>
        obtain ⟨kk, d, rfl, hd, hk1, hk2, hrow, hIw⟩ := hrel
        by_cases hlt : kk + 1 < i
        · have hki : (kk : Int) < (i : Int) - 1 := by omega
          obtain ⟨y, hy⟩ : ∃ y, v[d]? = some y := ⟨_, List.getElem?_eq_getElem (by have := HN.out; have := HL.out; have := hd.out; omega)⟩
          have hv1 : v.drop d = y :: v.drop (d + 1) := by rw [List.drop_eq_getElem_cons (List.getElem?_eq_some_iff.1 hy).1, (List.getElem?_eq_some_iff.1 hy).2]
          have hv2 : v.take (d + 1) = v.take d ++ [y] := by rw [List.take_add_one, hy]; rfl
          have hrow2 : RowAt wr g off ((p ++ v.take d) ++ x :: ([] ++ y :: (v.drop (d + 1) ++ q))) := by rw [hv1] at hrow; simpa using hrow
          have hal : Hid ((p ++ v.take d).length = kk ∧ (p ++ v.take d).length + 1 + ([] : List Nat).length = kk + 1) := by
            have q1 := hd.out
            have q2 := ha.out
            have q3 := (List.getElem?_eq_some_iff.1 hy).1
            constructor <;> simp <;> omega
          have x0 := hrow2.first hal.out.1
          have y0 := hrow2.second hal.out.2
          have f0 := hrow2.ice (off + kk)
          have f1 := hrow2.ice (off + (kk + 1))
          have gl := hrow2.lt
          have hR2 := Lib.hid (hrow2.swap hal.out.1 hal.out.2)
          have hI2 : Hid (I ((wr.setCell ⟨g, off + kk, none⟩ (pv y)).setCell ⟨g, off + (kk + 1), none⟩ (pv x)).drew) := H.out.2.1.drew _ (H.out.2.1.set _ _ _ (H.out.2.1.set _ _ _ hIw))
          have t1 : ((kk : Int) + 1).toNat = kk + 1 := by omega
          have l1 : (kk : Int) + 1 < n := by have := HL.out; omega
          have l2 : (kk : Int) < n := by have := HL.out; omega
          have l3 : (0 : Int) ≤ (kk : Int) + 1 := by omega
          have HV := Lib.hid hv2
          clear hy hv1 hv2 hrow hrow2 hIw hlt
          go_wp2_with fail
          go_region
          go_wp2_with fail
          go_roundw
          case rel => exact ⟨kk + 1, d + 1, by simp, (by have := hd.out; unfold Hid; omega), by omega, by omega, by have := hR2.out; rw [HV.out]; simpa using this, hI2.out⟩
          case measure => simp [intOf] <;> omega
        · have hki : ¬ (kk : Int) < (i : Int) - 1 := by omega
          have R2 := Lib.hid (And.intro hrow hIw)
          have HK := Lib.hid (And.intro hk1 hk2)
          clear hrow hIw
          go_wp2_with fail
          go_end0
          have hd2 : d = i - m := by have := HN.out; have := hd.out; omega
          refine ⟨rfl, ⟨v.take d ++ x :: v.drop d, ?_, ?_, by have := R2.out.1; simpa using this⟩, R2.out.2⟩
          · refine List.perm_middle.trans ?_
            rw [List.take_append_drop]
          · refine SortL.ins_left H.out.2.2.2.2.1 (by rw [List.take_append_drop]; exact H.out.2.2.2.2.2.2) (fun y hy => ?_) (fun y hy => ?_)
            · obtain ⟨t, ht⟩ := List.getElem?_of_mem hy
              rw [List.getElem?_take] at ht
              split at ht
              · exact hh.out.1 t y (by omega) ht
              · cases ht
            · obtain ⟨t, ht⟩ := List.getElem?_of_mem hy
              rw [List.getElem?_drop] at ht
              exact hh.out.2 (d + t) y (by omega) ht

theorem lo_step' {cf : Nat → Nat → Int} (ho : SortL.Swo (ltC cf)) {u : List Nat} (hs : SortL.Sorted (ltC cf) u) {x y h : Nat} (hy : u[h]? = some x) (hc : ltC cf y x = false) : ∀ k z, k < h + 1 → u[k]? = some z → ltC cf y z = false := fun _ _ hk hz => ho.le_trans (SortL.sorted_le ho hs (by omega) hz hy) hc
theorem hi_step' {cf : Nat → Nat → Int} (ho : SortL.Swo (ltC cf)) {u : List Nat} (hs : SortL.Sorted (ltC cf) u) {x y h : Nat} (hy : u[h]? = some x) (hc : ltC cf y x = true) : ∀ k z, h ≤ k → u[k]? = some z → ltC cf y z = true := fun _ _ hk hz => ho.lt_le hc (SortL.sorted_le ho hs hk hy hz)

set_option maxRecDepth 100000 in
set_option maxHeartbeats 6400000 in
theorem symMerge_right (I : World → Prop) (g off n cap b : Nat) (S : Nat → Prop) (cf : Nat → Nat → Int) (ho : SortL.Swo (ltC cf)) (hI : Inv g I) (hC : Cmp I g b S cf) (p q u : List Nat) (y : Nat) (w : World) (hu : SortL.Sorted (ltC cf) u) (hul : 2 ≤ u.length) (hS : ∀ z ∈ u ++ [y], S z) (h : RowAt w g off (p ++ u ++ y :: q)) (hn : (p ++ u ++ y :: q).length = n) (hb : n ≤ 1000000) (hi : I w)
    (a0 m0 e0 : Int) (ea : a0 = p.length) (em : m0 = (p.length + u.length : Nat)) (ee : e0 = (p.length + u.length + 1 : Nat)) :
    Calls Tryz.prog 98 #[.slice (some ⟨g, off, none⟩) n cap, .int .i64 a0, .int .i64 m0, .int .i64 e0, cmpV b] w (Merged I g off cf p (u ++ [y]) q) := by
  obtain ⟨a, ha⟩ : ∃ a, Hid (p.length = a) := ⟨_, rfl⟩
  obtain ⟨m, hm⟩ : ∃ m, Hid (p.length + u.length = m) := ⟨_, rfl⟩
  obtain ⟨el, hel⟩ : ∃ el, Hid (p.length + u.length + 1 = el) := ⟨_, rfl⟩
  have ea' : a0 = (a : Int) := by rw [ea, ha.out]
  have em' : m0 = (m : Int) := by rw [em, hm.out]
  have ee' : e0 = (el : Int) := by rw [ee, hel.out]
  subst ea' em' ee'
  have HN : Hid (el + q.length = n ∧ a + u.length = m ∧ el = m + 1) := by
    unfold Hid
    have h1 := ha.out
    have h2 := hel.out
    have h3 := hm.out
    simp only [List.length_append, List.length_cons] at hn
    omega
  have H := Lib.hid (And.intro h (And.intro hI (And.intro hi (And.intro hC (And.intro ho (And.intro hS hu))))))
  have hb1 : m ≤ el := by have := HN.out; omega
  have hb2 : el ≤ n := by have := HN.out; omega
  have hb3 : a + 2 ≤ m := by have := HN.out; omega
  have hq : ((m : Int) - a == 1) = false := by have := HN.out; simp only [beq_eq_false_iff_ne, ne_eq]; omega
  have hq2 : ((el : Int) - m == 1) = true := by have := HN.out; simp only [beq_iff_eq]; omega
  have hm3 : (m : Int) < n := by have := HN.out; omega
  clear h hI hi hC ho hS hn ea em ee hu hul
  go_enter Tryz.func98, Tryz.ntmps98
  go_wp2_with fail
  go_loopw [14, 15] (fun i j wr => ∃ (i' j' : Nat), i = .int .i64 i' ∧ j = .int .i64 j' ∧ a ≤ i' ∧ i' ≤ j' ∧ j' ≤ m ∧ Hid ((∀ k z, k < i' - a → u[k]? = some z → ltC cf y z = false) ∧ ∀ k z, j' - a ≤ k → u[k]? = some z → ltC cf y z = true) ∧ RowAt wr g off (p ++ u ++ y :: q) ∧ I wr) (fun i j _ => (intOf j).toNat - (intOf i).toNat)
  case atStart =>
    refine ⟨a, m, rfl, rfl, Nat.le_refl _, by omega, Nat.le_refl _, ⟨fun _ _ hk => by omega, fun k z hk hz => ?_⟩, H.out.1, H.out.2.2.1⟩
    have := (List.getElem?_eq_some_iff.1 hz).1
    have := HN.out
    omega
  case round =>
    obtain ⟨i, j, rfl, rfl, h1, h2, h3, hh, hrow, hIw⟩ := hrel
    by_cases hlt : i < j
    · have hij : (i : Int) < j := by omega
      obtain ⟨h, hhd⟩ : ∃ h, h = (i + j) / 2 := ⟨_, rfl⟩
      have hm1 : i ≤ h := by omega
      have hm2 : h < j := by omega
      have e2 : ((i : Int) + j) / 2 = (h : Int) := by omega
      obtain ⟨x, hx⟩ : ∃ x, u[h - a]? = some x := ⟨_, List.getElem?_eq_getElem (by have := HN.out; omega)⟩
      have hsx : S x := H.out.2.2.2.2.2.1 x (by simp [List.mem_of_getElem? hx])
      have hsy : S y := H.out.2.2.2.2.2.1 y (by simp)
      have hrx : (p ++ u ++ y :: q)[h]? = some x := by
        have h4 := ha.out
        have h6 := (List.getElem?_eq_some_iff.1 hx).1
        rw [List.append_assoc, List.getElem?_append_right (by omega), List.getElem?_append_left (by omega), h4]
        exact hx
      have hry : (p ++ u ++ y :: q)[m]? = some y := by
        have h4 : (p ++ u).length = m := by have := hm.out; simp; omega
        rw [List.getElem?_append_right (by omega), h4, Nat.sub_self]
        rfl
      have R1 := Lib.hid (And.intro hrow (And.intro hsx (And.intro hsy hx)))
      obtain ⟨cs, hcs, hcv⟩ := hrow
      have hId := H.out.2.1.drew _ hIw
      have r0 : ∀ i : RowW I g cs, i.W.cell? ⟨g, off + h, none⟩ = some (.pointer (some ⟨x, 0, none⟩)) := fun i => RowW.cell hcv hrx i
      have r1 : ∀ i : RowW I g cs, i.W.cell? ⟨g, off + m, none⟩ = some (.pointer (some ⟨y, 0, none⟩)) := fun i => RowW.cell hcv hry i
      have l2 : (h : Int) < n := by omega
      have HC := Lib.hid hcs
      have HH := Lib.hid (And.intro hm1 hm2)
      clear hIw hcv hrx hry hsx hsy hx hhd hlt
      go_wp2_with fail
      clear e2
      haveI : Nonempty (RowW I g cs) := ⟨⟨_, hId, hcs⟩⟩
      refine wp_region_row I g cs (by kernel_rfl) (by kernel_rfl) hId hcs ?_
      repeat (go_big_quiet_step ((go_at_call 66; rename_i i; exact H.out.2.2.2.1.of i R1.out.2.2.1 R1.out.2.1)))
      refine wpQuiet_nil ?_
      intro w2 hw'
      obtain ⟨i2, hw''⟩ := hw'
      have hi2 : I w2 := hw'' ▸ i2.inv
      have hr2 : w2.heap[g]? = some (.cells cs TpT (0, 0)) := hw'' ▸ i2.row
      clear hw''
      have R2 : Hid (RowAt w2 g off (p ++ u ++ y :: q) ∧ I w2) := ⟨R1.out.1.keep (hr2.trans HC.out.symm), hi2⟩
      clear hcs hId r0 r1 hr2 hi2 i2
      go_wp2_with fail
      · have hcm : (!decide (cf y x < 0)) = true := by assumption
        have HCM : Hid (ltC cf y x = false) := by unfold Hid; simpa using hcm
        go_roundw
        case rel =>
          refine ⟨h + 1, j, by simp, rfl, by omega, by omega, by omega, ⟨fun k z hk hz => ?_, hh.out.2⟩, R2.out⟩
          exact lo_step' H.out.2.2.2.2.1 H.out.2.2.2.2.2.2 R1.out.2.2.2 HCM.out k z (by omega) hz
        case measure => simp [intOf] <;> omega
      · have hcm : (!decide (cf y x < 0)) = false := by assumption
        have HCM : Hid (ltC cf y x = true) := by unfold Hid; simpa using hcm
        go_roundw
        case rel =>
          refine ⟨i, h, rfl, rfl, by omega, by omega, by omega, ⟨hh.out.1, fun k z hk hz => ?_⟩, R2.out⟩
          exact hi_step' H.out.2.2.2.2.1 H.out.2.2.2.2.2.2 R1.out.2.2.2 HCM.out k z (by omega) hz
        case measure => simp [intOf] <;> omega
    · obtain rfl : i = j := by omega
      have hij : ¬ (i : Int) < i := by omega
      have R := Lib.hid (And.intro hrow hIw)
      clear hrow hIw hlt
      have HL := Lib.hid (And.intro h1 (And.intro h2 h3))
      go_wp2_with fail
      go_loopw [17] (fun kv wr => ∃ kk d : Nat, kv = .int .i64 kk ∧ Hid (a + d = kk) ∧ i ≤ kk ∧ kk ≤ m ∧ RowAt wr g off (p ++ u.take d ++ y :: (u.drop d ++ q)) ∧ I wr) (fun kv _ => (intOf kv).toNat)
      case atStart => exact ⟨m, u.length, rfl, HN.out.2.1, h3, Nat.le_refl _, by have := R.out.1; simpa using this, R.out.2⟩
      case round =>
        obtain ⟨kk, d, rfl, hd, hk1, hk2, hrow, hIw⟩ := hrel
        by_cases hlt : i < kk
        · have hki : (i : Int) < (kk : Int) := by omega
          obtain ⟨kj, rfl⟩ : ∃ kj, kk = kj + 1 := ⟨kk - 1, by omega⟩
          obtain ⟨d', rfl⟩ : ∃ d', d = d' + 1 := ⟨d - 1, by have := hd.out; omega⟩
          have hdk : Hid (a + d' = kj) := by have := hd.out; unfold Hid; omega
          obtain ⟨t, ht⟩ : ∃ t, u[d']? = some t := ⟨_, List.getElem?_eq_getElem (by have := HN.out; have := HL.out; have := hd.out; omega)⟩
          have hv1 : u.drop d' = t :: u.drop (d' + 1) := by rw [List.drop_eq_getElem_cons (List.getElem?_eq_some_iff.1 ht).1, (List.getElem?_eq_some_iff.1 ht).2]
          have hv2 : u.take (d' + 1) = u.take d' ++ [t] := by rw [List.take_add_one, ht]; rfl
          have hrow2 : RowAt wr g off ((p ++ u.take d') ++ t :: ([] ++ y :: (u.drop (d' + 1) ++ q))) := by rw [hv2] at hrow; simpa using hrow
          have hal : Hid ((p ++ u.take d').length = kj ∧ (p ++ u.take d').length + 1 + ([] : List Nat).length = kj + 1) := by
            have q1 := hdk.out
            have q2 := ha.out
            have q3 := (List.getElem?_eq_some_iff.1 ht).1
            constructor <;> simp <;> omega
          have x0 := hrow2.first hal.out.1
          have y0 := hrow2.second hal.out.2
          have f0 := hrow2.ice (off + kj)
          have f1 := hrow2.ice (off + (kj + 1))
          have gl := hrow2.lt
          have hR2 := Lib.hid (hrow2.swap' hal.out.1 hal.out.2)
          have hI2 : Hid (I ((wr.setCell ⟨g, off + (kj + 1), none⟩ (pv t)).setCell ⟨g, off + kj, none⟩ (pv y)).drew) := H.out.2.1.drew _ (H.out.2.1.set _ _ _ (H.out.2.1.set _ _ _ hIw))
          have t1 : ((kj : Int) + 1).toNat = kj + 1 := by omega
          have l1 : (kj : Int) + 1 < n := by have := HL.out; omega
          have l2 : (kj : Int) < n := by have := HL.out; omega
          have l3 : (0 : Int) ≤ (kj : Int) + 1 := by omega
          have HV := Lib.hid hv1
          clear ht hv1 hv2 hrow hrow2 hIw hlt
          go_wp2_with fail
          go_region
          go_wp2_with fail
          go_roundw
          case rel => exact ⟨kj, d', by simp, hdk.out, by omega, by omega, by have := hR2.out; rw [HV.out]; simpa using this, hI2.out⟩
          case measure => simp [intOf] <;> omega
        · have hki : ¬ (i : Int) < (kk : Int) := by omega
          have R2 := Lib.hid (And.intro hrow hIw)
          have HK := Lib.hid (And.intro hk1 hk2)
          clear hrow hIw
          go_wp2_with fail
          go_end0
          have hd2 : d = i - a := by have := HN.out; have := hd.out; omega
          refine ⟨rfl, ⟨u.take d ++ y :: u.drop d, ?_, ?_, by have := R2.out.1; simpa using this⟩, R2.out.2⟩
          · refine List.perm_middle.trans ?_
            rw [List.take_append_drop]
            exact (List.perm_append_singleton y u).symm
          · refine SortL.ins_right H.out.2.2.2.2.1 (by rw [List.take_append_drop]; exact H.out.2.2.2.2.2.2) (fun z hz => ?_) (fun z hz => ?_)
            · obtain ⟨t, ht⟩ := List.getElem?_of_mem hz
              rw [List.getElem?_take] at ht
              split at ht
              · exact hh.out.1 t z (by omega) ht
              · cases ht
            · obtain ⟨t, ht⟩ := List.getElem?_of_mem hz
              rw [List.getElem?_drop] at ht
              exact hh.out.2 (d + t) z (by omega) ht

end Go.Proofs.YtbghpkoimbmijaaGreatDoor
