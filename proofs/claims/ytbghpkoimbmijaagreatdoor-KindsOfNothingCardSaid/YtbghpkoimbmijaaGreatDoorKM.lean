import Derived.Test.YtbghpkoimbmijaaGreatDoorKL
import Derived.Deep.QuietTactic
/- Walks: sorted, at two types that stand in their order. -/
namespace Go.Proofs.YtbghpkoimbmijaaGreatDoor
open Go.RowKit
set_option linter.unusedSimpArgs false

abbrev lessF : Nat := 66
abbrev sameF : Nat := 68

/-- a world that grew out of w -/
structure UpOf (w : World) where
  W : World
  up : Up w W
instance (w : World) : Nonempty (UpOf w) := ⟨⟨w, Up.refl w⟩⟩

/-- a region that draws its order and only reads, its callees likewise but for new blocks: walked once -/
theorem wp_region_up {P : Program} {id : Nat} {Q : Exit → Act → World → Prop} {a : Act} {w : World} {l : List Oper} (hm : P.follows .mixedOrders = true) (hB : Region.lexB .any l.toArray = true)
    (h : wpQuiet P l.toArray (fun w' => ∃ i : UpOf w, w' = i.W) (fun a' => ∀ w', (∃ i : UpOf w, w' = i.W) → Q .normal a' w') l a) : (Code.region id l.toArray true).wp P Q a w :=
  wp_region_quiet (C := fun w' => ∃ i : UpOf w, w' = i.W) hm hB ⟨⟨_, (Up.refl w).drew⟩, rfl⟩ (by simpa using h)

theorem Calls.up_of {P : Program} {f : FuncId} {args : Array Value} {w : World} (i : UpOf w) {v : Value} (h : Calls P f args i.W fun e w' => e = .returned v ∧ Up i.W w') : Calls P f args i.W fun e w'' => e = .returned v ∧ ∃ j : UpOf w, w'' = j.W :=
  h.mono fun _ w' ⟨he, hu⟩ => ⟨he, ⟨w', i.up.trans hu⟩, rfl⟩

set_option maxRecDepth 100000 in
set_option maxHeartbeats 3200000 in
theorem same_said (x y b : Nat) (kx ky : Int) (s t : ByteArray) (w : World) (hb : ByAt w b) (hx : Item w x kx s) (hy : Item w y ky t) (hs : s.size ≤ 1000000000) (ht : t.size ≤ 1000000000) :
    Calls Tryz.prog 68 #[.pointer (some ⟨x, 0, none⟩), .pointer (some ⟨y, 0, none⟩), .pointer (some ⟨b, 0, none⟩)] w fun e w' => e = .returned (.bool ((partS kx s).toList == (partS ky t).toList)) ∧ Up w w' := by
  obtain ⟨fz, hb⟩ := hb
  have HX := Lib.hid hx
  have HY := Lib.hid hy
  have b0 := cell_of hb 0
  have bl := lt_of_heap hb
  have HB := Lib.hid hb
  simp only [List.getElem?_toArray, List.getElem?_cons_zero] at b0
  clear hx hy hb
  go_enter Tryz.func68, Tryz.ntmps68
  go_wp2_with fail
  go_region_law (first | (go_simp; go_at_call 50; first | (refine (by_said x kx s _ (HX.out.up uq) hs).mono ?_; rintro e w2 ⟨rfl, hu2⟩; have b0 := cell_of (hu2.get (Up.get (w := w) uq HB.out)) 0; simp only [List.getElem?_toArray, List.getElem?_cons_zero] at b0) | (refine (by_said y ky t _ (HY.out.up uq) ht).mono ?_; rintro e w3 ⟨rfl, hu3⟩; have b0 := cell_of (hu3.get (Up.get (w := w) uq HB.out)) 0; simp only [List.getElem?_toArray, List.getElem?_cons_zero] at b0)))
  all_goals (go_wp2_with fail)
  all_goals go_ret
  all_goals exact ⟨rfl, uq⟩

/-- two types in a row, in their order -/
structure TwoAt (w : World) (g off : Nat) (x y : Nat) (kx ky : Int) (s t : ByteArray) : Prop where
  ix : Item w x kx s
  iy : Item w y ky t
  c0 : w.cell? ⟨g, off, none⟩ = some (.pointer (some ⟨x, 0, none⟩))
  c1 : w.cell? ⟨g, off + 1, none⟩ = some (.pointer (some ⟨y, 0, none⟩))
  lt : g < w.heap.size
  sx : s.size ≤ 1000000000
  sy : t.size ≤ 1000000000
theorem TwoAt.up {w w' : World} {g off x y : Nat} {kx ky : Int} {s t : ByteArray} (h : TwoAt w g off x y kx ky s t) (k : Up w w') : TwoAt w' g off x y kx ky s t := ⟨h.ix.up k, h.iy.up k, (k.cells _ _ h.lt).trans h.c0, (k.cells _ _ h.lt).trans h.c1, Nat.lt_of_lt_of_le h.lt k.size, h.sx, h.sy⟩

set_option maxRecDepth 100000 in
set_option maxHeartbeats 3200000 in
theorem insertion_two (g off cap b x y : Nat) (kx ky : Int) (s t : ByteArray) (w : World) (h : TwoAt w g off x y kx ky s t) (hb : ByAt w b) (hle : 0 ≤ cmpS (partS ky t) (partS kx s)) :
    Calls Tryz.prog 97 #[.slice (some ⟨g, off, none⟩) 2 cap, .int .i64 0, .int .i64 2, .func (.func lessF) #[] #[.pointer (some ⟨b, 0, none⟩)]] w fun e w' => e = .returned (.tuple #[]) ∧ Up w w' := by
  have H := Lib.hid h
  have HB := Lib.hid hb
  have c0 := h.c0
  have c1 := h.c1
  have gl := h.lt
  have HC : Hid (decide (cmpS (partS ky t) (partS kx s) < 0) = false) := by unfold Hid; simpa using hle
  clear h hb hle
  go_enter Tryz.func97, Tryz.ntmps97
  go_wp2_with fail
  refine wp_loop_rounds 2 ?_
  rw [rounds_succ]
  go_wp2_with fail
  refine wp_loop_rounds 1 ?_
  rw [rounds_succ]
  go_wp2_with fail
  have r0 : ∀ i : UpOf w, i.W.cell? ⟨g, off, none⟩ = some (.pointer (some ⟨x, 0, none⟩)) := fun i => (i.up.cells _ _ gl).trans c0
  have r1 : ∀ i : UpOf w, i.W.cell? ⟨g, off + 1, none⟩ = some (.pointer (some ⟨y, 0, none⟩)) := fun i => (i.up.cells _ _ gl).trans c1
  have hw0 : IntKind.i64.wrap 0 = 0 := IntWalk.i64_in 0 (by omega)
  refine wp_region_up (by kernel_rfl) (by kernel_rfl) ?_
  repeat (quiet_step ((go_at_call 66; rename_i i; exact Calls.up_of i (less_said y x b ky kx t s _ (HB.out.up i.up) (H.out.iy.up i.up) (H.out.ix.up i.up) H.out.sy H.out.sx))))
  refine wpQuiet_nil ?_
  intro _ hw'
  obtain ⟨⟨w2, hu2⟩, hw''⟩ := hw'
  subst hw''
  simp only [HC.out]
  clear r0 r1 c0 c1 hw0
  go_wp2_with fail
  rw [rounds_succ]
  go_wp2_with fail
  go_end0
  exact ⟨rfl, uq⟩

set_option maxHeartbeats 1600000 in
theorem stable_two (g off cap b x y : Nat) (kx ky : Int) (s t : ByteArray) (w : World) (h : TwoAt w g off x y kx ky s t) (hb : ByAt w b) (hle : 0 ≤ cmpS (partS ky t) (partS kx s)) :
    Calls Tryz.prog 84 #[.slice (some ⟨g, off, none⟩) 2 cap, .int .i64 2, .func (.func lessF) #[] #[.pointer (some ⟨b, 0, none⟩)]] w fun e w' => e = .returned (.tuple #[]) ∧ Up w w' := by
  have H := Lib.hid h
  have HB := Lib.hid hb
  have HC := Lib.hid hle
  clear h hb hle
  go_enter Tryz.func84, Tryz.ntmps84
  go_wp2_with fail
  refine wp_loop_rounds 1 ?_
  rw [rounds_succ]
  go_wp2_with fail
  go_at_call 97
  refine (insertion_two g off cap b x y kx ky s t _ H.out HB.out HC.out).mono ?_
  rintro e w2 ⟨rfl, hu2⟩
  go_wp2_with fail
  refine wp_loop_rounds 1 ?_
  rw [rounds_succ]
  go_wp2_with fail
  go_end0
  exact ⟨rfl, uq⟩

set_option maxHeartbeats 1600000 in
theorem SortStable_two (g off cap b x y : Nat) (kx ky : Int) (s t : ByteArray) (w : World) (h : TwoAt w g off x y kx ky s t) (hb : ByAt w b) (hle : 0 ≤ cmpS (partS ky t) (partS kx s)) :
    Calls Tryz.prog 65 #[.slice (some ⟨g, off, none⟩) 2 cap, .func (.func lessF) #[] #[.pointer (some ⟨b, 0, none⟩)]] w fun e w' => e = .returned (.tuple #[]) ∧ Up w w' := by
  have H := Lib.hid h
  have HB := Lib.hid hb
  have HC := Lib.hid hle
  clear h hb hle
  go_enter Tryz.func65, Tryz.ntmps65
  go_wp2_with (first | (go_at_call 84; refine (stable_two g off cap b x y kx ky s t _ H.out HB.out HC.out).mono ?_; rintro e w2 ⟨rfl, hu2⟩))
  go_end0
  exact ⟨rfl, uq⟩

set_option maxRecDepth 100000 in
set_option maxHeartbeats 3200000 in
theorem Compact_two (g off cap b x y : Nat) (kx ky : Int) (s t : ByteArray) (w : World) (h : TwoAt w g off x y kx ky s t) (hb : ByAt w b) (hne : ((partS ky t).toList == (partS kx s).toList) = false) :
    Calls Tryz.prog 67 #[.slice (some ⟨g, off, none⟩) 2 cap, .func (.func sameF) #[] #[.pointer (some ⟨b, 0, none⟩)]] w fun e w' => e = .returned (.slice (some ⟨g, off, none⟩) 2 cap) ∧ Up w w' := by
  have H := Lib.hid h
  have HB := Lib.hid hb
  have c0 := h.c0
  have c1 := h.c1
  have gl := h.lt
  have HC := Lib.hid hne
  clear h hb hne
  go_enter Tryz.func67, Tryz.ntmps67
  go_wp2_with fail
  refine wp_loop_rounds 2 ?_
  rw [rounds_succ]
  go_wp2_with fail
  have r0 : ∀ i : UpOf w, i.W.cell? ⟨g, off, none⟩ = some (.pointer (some ⟨x, 0, none⟩)) := fun i => (i.up.cells _ _ gl).trans c0
  have r1 : ∀ i : UpOf w, i.W.cell? ⟨g, off + 1, none⟩ = some (.pointer (some ⟨y, 0, none⟩)) := fun i => (i.up.cells _ _ gl).trans c1
  have hw0 : IntKind.i64.wrap 0 = 0 := IntWalk.i64_in 0 (by omega)
  refine wp_region_up (by kernel_rfl) (by kernel_rfl) ?_
  repeat (quiet_step ((go_at_call 68; rename_i i; exact Calls.up_of i (same_said y x b ky kx t s _ (HB.out.up i.up) (H.out.iy.up i.up) (H.out.ix.up i.up) H.out.sy H.out.sx))))
  refine wpQuiet_nil ?_
  intro _ hw'
  obtain ⟨⟨w2, hu2⟩, hw''⟩ := hw'
  subst hw''
  simp only [HC.out]
  clear r0 r1 c0 c1 hw0
  go_wp2_with fail
  rw [rounds_succ]
  go_wp2_with fail
  go_ret
  exact ⟨rfl, uq⟩

set_option maxHeartbeats 1600000 in
theorem sorted_two (g off cap x y : Nat) (kx ky : Int) (s t : ByteArray) (w : World) (h : TwoAt w g off x y kx ky s t) (hle : 0 ≤ cmpS (partS ky t) (partS kx s)) (hne : ((partS ky t).toList == (partS kx s).toList) = false) :
    Calls Tryz.prog 48 #[.slice (some ⟨g, off, none⟩) 2 cap, .func (.func byF) #[] #[]] w fun e w' => e = .returned (.slice (some ⟨g, off, none⟩) 2 cap) ∧ Up w w' := by
  have H := Lib.hid h
  have HC := Lib.hid hle
  have HN := Lib.hid hne
  clear h hle hne
  go_enter Tryz.func48, Tryz.ntmps48
  go_wp2_with (first | (go_at_call 65; refine (SortStable_two g off cap w.heap.size x y kx ky s t _ (H.out.up uq) ⟨_, alloc_get _ _⟩ HC.out).mono ?_; rintro e w2 ⟨rfl, hu2⟩) | (go_at_call 67; refine (Compact_two g off cap w.heap.size x y kx ky s t _ (H.out.up uq) ⟨_, hu2.get (alloc_get _ _)⟩ HN.out).mono ?_; rintro e w3 ⟨rfl, hu3⟩))
  go_ret
  exact ⟨rfl, uq⟩

theorem Clip_any (a : Addr) (n cap : Nat) (hn : n ≤ cap) (hn0 : 0 < n) (w : World) :
    Calls Tryz.prog 52 #[.slice (some a) n cap] w fun e w' => e = .returned (.slice (some a) n n) ∧ Up w w' := by
  have hi : (n : Int) ≤ cap := by omega
  go_enter Tryz.func52, Tryz.ntmps52
  go_wp2_with fail
  go_ret
  exact ⟨rfl, uq⟩

end Go.Proofs.YtbghpkoimbmijaaGreatDoor
