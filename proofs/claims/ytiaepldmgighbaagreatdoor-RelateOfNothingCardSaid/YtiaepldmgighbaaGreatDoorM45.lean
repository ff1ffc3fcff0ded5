import Derived.Deep.RegionHeld3
import Derived.Test.YtiaepldmgighbaaGreatDoorM02
import Derived.Test.YtiaepldmgighbaaGreatDoorM12
import Derived.Test.YtiaepldmgighbaaGreatDoorM09
import Derived.Test.YtiaepldmgighbaaGreatDoorM05
namespace Go.Proofs.YtiaepldmgighbaaGreatDoor
open Go.RowKit
set_option linter.unusedSimpArgs false
abbrev leafT (k n : Int) (nm s : ByteArray) : Array Value := #[.int .i64 k, .int .i64 n, .string nm, .slice none 0 0, .slice none 0 0, .slice none 0 0, .int .i64 1, .string s]
def LeafIn (w : World) (A i : Nat) (k n : Int) (nm : ByteArray) : Prop :=
 ∃ (gr N tcap b : Nat) (mv : Value) (s : ByteArray) (cs : Array Value), w.heap[A]? = some (.cells #[.slice (some ⟨gr, 0, none⟩) N tcap, mv, .map none] ArT (0, 0)) ∧ i < N ∧ w.heap[gr]? = some (.cells cs TpT (0, 0)) ∧ cs[i]? = some (ptrV b) ∧ w.heap[b]? = some (.cells (leafT k n nm s) TyT (0, 0))
theorem LeafIn.up {w w' : World} {A i : Nat} {k n : Int} {nm : ByteArray} (h : LeafIn w A i k n nm) (u : Up w w') : LeafIn w' A i k n nm := by
 obtain ⟨gr, N, tcap, b, mv, s, cs, h1, h2, h3, h4, h5⟩ := h
 exact ⟨gr, N, tcap, b, mv, s, cs, u.get h1, h2, u.get h3, h4, u.get h5⟩
abbrev tyV (k n : Int) (nm : ByteArray) : Value := .agg #[.int .i64 k, .int .i64 n, .string nm, .slice none 0 0, .slice none 0 0, .slice none 0 0]
set_option maxRecDepth 100000 in
set_option maxHeartbeats 1000000 in
theorem At_leaf (A i : Nat) (k n : Int) (nm : ByteArray) (w : World) (h : LeafIn w A i k n nm) : Calls Tryz.prog 64 #[.pointer (some ⟨A, 0, none⟩), .int .i64 i] w fun e w' => e = .returned (.tuple #[tyV k n nm, .int .i64 0]) ∧ Up w w' := by
 obtain ⟨gr, N, tcap, b, mv, s, cs, h1, h2, h3, h4, h5⟩ := h
 have HH := Lib.hid (And.intro h1 (And.intro h3 h5))
 have a4 := lt_of_heap h1
 have hji : (i : Int) < N := by omega
 clear h1 h3 h5
 go_enter Tryz.func64, Tryz.ntmps64
 go_wp2_with fail
 refine wp_scope_straight ?_
 go_wp2_with (first | (go_at_call 60; refine (has_yes A N tcap _ _ i h2 _ (Up.get (show Up w _ from uq) HH.out.1)).mono ?_; rintro e w2 ⟨rfl, hu2⟩; have s0 := hu2.get (alloc_get w _); have q0 := cell_of s0 0; have p0 := ice_of s0 0; have q1 := cell_of s0 1; have p1 := ice_of s0 1; have q2 := cell_of s0 2; have p2 := ice_of s0 2; have q3 := cell_of s0 3; have p3 := ice_of s0 3; have q4 := cell_of s0 4; have p4 := ice_of s0 4; have q5 := cell_of s0 5; have p5 := ice_of s0 5; have q9 := lt_of_heap s0; (try simp only [World.size_alloc, List.getElem?_toArray, List.getElem?_cons_zero, List.getElem?_cons_succ] at q0 q1 q2 q3 q4 q5 p0 p1 p2 p3 p4 p5 q9); clear s0; have u2 : Up w w2 := uq; have a0 := cell_of (u2.get HH.out.1) 0; have a4 := lt_of_heap (u2.get HH.out.1); have g0 := (cell_of (u2.get HH.out.2.1) i).trans h4; simp only [ptrV] at g0; have g4 := lt_of_heap (u2.get HH.out.2.1); have b0 := cell_of (u2.get HH.out.2.2) 0; have b1 := cell_of (u2.get HH.out.2.2) 1; have b2 := cell_of (u2.get HH.out.2.2) 2; have b3 := cell_of (u2.get HH.out.2.2) 3; have b5 := cell_of (u2.get HH.out.2.2) 4; have b6 := cell_of (u2.get HH.out.2.2) 5; have b4 := lt_of_heap (u2.get HH.out.2.2); simp only [List.getElem?_toArray, List.getElem?_cons_zero, List.getElem?_cons_succ] at a0 b0 b1 b2 b3 b5 b6; clear u2) | (go_at_call 58; refine (Tryz.slices_Clone_nil_f58 _ _ _).mono ?_; rintro e w3 ⟨rfl, rfl⟩) | (go_at_call 59; refine (Tryz.slices_Clone_nil_f59 _ _ _).mono ?_; rintro e w3 ⟨rfl, rfl⟩))
 refine wp_label ?_
 go_wp2_with fail
 refine wp_loop_rounds 1 ?_
 rw [rounds_succ]
 go_wp2_with fail
 refine wp_region_tail 24 (by kernel_rfl) (by kernel_rfl) ?_
 simp only [List.take_succ_cons, List.take_zero, List.drop_succ_cons, List.drop_zero]
 repeat (first | still_step | still_call (Tryz.slices_Clone_nil_f58 _ _ _) | still_call (Tryz.slices_Clone_nil_f59 _ _ _))
 refine wpStill_nil ?_
 go_wp2_with fail
 rw [Exit.noGoto_ret]
 refine bodyPost_ret (v := .tuple #[tyV k n nm, .int .i64 0]) (by simp [results, Tryz.results64, go_sem, *]) rfl ?_
 exact ⟨rfl, uq⟩
theorem at_leaf (A i : Nat) (k n : Int) (nm : ByteArray) (w : World) (h : LeafIn w A i k n nm) : Calls Tryz.prog 130 #[.agg #[.pointer (some ⟨A, 0, none⟩)], .int .i64 i] w fun e w' => e = .returned (tyV k n nm) ∧ Up w w' := by
 have H := Lib.hid h
 clear h
 go_enter Tryz.func130, Tryz.ntmps130
 go_wp2_with (first | (go_at_call 64; refine (At_leaf A i k n nm _ (H.out.up uq)).mono ?_; rintro e w2 ⟨rfl, hu2⟩; have s1 := hu2.get (alloc_get _ _); simp only [World.size_alloc] at s1; have q0 := cell_of s1 0; have p0 := ice_of s1 0; have q1 := cell_of s1 1; have p1 := ice_of s1 1; have q2 := cell_of s1 2; have p2 := ice_of s1 2; have q3 := cell_of s1 3; have p3 := ice_of s1 3; have q4 := cell_of s1 4; have p4 := ice_of s1 4; have q5 := cell_of s1 5; have p5 := ice_of s1 5; have q9 := lt_of_heap s1; (try simp only [World.size_alloc, List.getElem?_toArray, List.getElem?_cons_zero, List.getElem?_cons_succ] at q0 q1 q2 q3 q4 q5 p0 p1 p2 p3 p4 p5 q9); clear s1; have u2 : Up w w2 := uq))
 refine bodyPost_ret (v := tyV k n nm) (by simp [results, Tryz.results130, go_sem, *]) rfl ?_
 exact ⟨rfl, uq⟩
set_option maxHeartbeats 1000000 in
theorem small_leaf (kx nx ky ny : Int) (mx my : ByteArray) (w : World) : Calls Tryz.prog 132 #[tyV kx nx mx, tyV ky ny my] w fun e w' => e = .returned (.bool (smallK kx ky)) ∧ Up w w' := by
 unfold smallK
 go_enter Tryz.func132, Tryz.ntmps132
 go_wp2_with fail
 all_goals (go_ret; refine ⟨by simp_all, uq⟩)
set_option maxRecDepth 100000 in
theorem Pieces_leaf (A i : Nat) (k n : Int) (nm : ByteArray) (w : World) (h : LeafIn w A i k n nm) (hk : k ≠ 14 ∧ k ≠ 17) : Calls Tryz.prog 168 #[.pointer (some ⟨A, 0, none⟩), .int .i64 i] w fun e w' => e = .returned (.tuple #[.slice none 0 0, .int .i64 11]) ∧ Up w w' := by
 obtain ⟨gr, N, tcap, b, mv, s, cs, h1, h2, h3, h4, h5⟩ := h
 have HH := Lib.hid (And.intro h1 (And.intro h3 h5))
 have a4 := lt_of_heap h1
 have hji : (i : Int) < N := by omega
 have k14 : (k == 14) = false := by simpa using hk.1
 have k17 : (k == 17) = false := by simpa using hk.2
 clear h1 h3 h5 hk
 go_enter Tryz.func168, Tryz.ntmps168
 go_wp2_with (first | (go_at_call 60; refine (has_yes A N tcap _ _ i h2 _ (Up.get (show Up w _ from uq) HH.out.1)).mono ?_; rintro e w2 ⟨rfl, hu2⟩; have u2 : Up w w2 := uq; have a0 := cell_of (u2.get HH.out.1) 0; have a4 := lt_of_heap (u2.get HH.out.1); have g0 := (cell_of (u2.get HH.out.2.1) i).trans h4; simp only [ptrV] at g0; have g4 := lt_of_heap (u2.get HH.out.2.1); have b0 := cell_of (u2.get HH.out.2.2) 0; have b4 := lt_of_heap (u2.get HH.out.2.2); simp only [List.getElem?_toArray, List.getElem?_cons_zero, List.getElem?_cons_succ] at a0 b0; clear u2))
 refine bodyPost_ret (v := .tuple #[.slice none 0 0, .int .i64 11]) (by simp [results, Tryz.results168, go_sem]) rfl ?_
 exact ⟨rfl, uq⟩
set_option maxRecDepth 100000 in
set_option maxHeartbeats 1600000 in
theorem members_leaf (A i j : Nat) (kx nx ky ny : Int) (mx my : ByteArray) (w : World) (hx : LeafIn w A i kx nx mx) (hy : LeafIn w A j ky ny my) (hk : kx ≠ 14 ∧ kx ≠ 17) (hl : ky ≠ 14 ∧ ky ≠ 17) :
   Calls Tryz.prog 134 #[.agg #[.pointer (some ⟨A, 0, none⟩)], .agg #[.int .i64 i, .int .i64 j]] w fun e w' => e = .returned (queV true false false false (.slice none 0 0)) ∧ Up w w' := by
 have HX := Lib.hid (And.intro hx hk)
 have HY := Lib.hid (And.intro hy hl)
 clear hx hy hk hl
 go_enter Tryz.func134, Tryz.ntmps134
 go_wp2_with fail
 refine (Pieces_leaf A i kx nx mx _ (HX.out.1.up uq) HX.out.2).mono ?_; rintro e w2 ⟨rfl, hu2⟩; have T := Lib.hid (three hu2); have v0 := cell_of T.out.1 0; have v1 := lt_of_heap T.out.1; have y0 := cell_of T.out.2.1 0; have y1 := cell_of T.out.2.1 1; have y2 := lt_of_heap T.out.2.1; have s0 := T.out.2.2; have b0 := cell_of s0 0; have g0 := ice_of s0 0; have b1 := cell_of s0 1; have g1 := ice_of s0 1; have b2 := cell_of s0 2; have g2 := ice_of s0 2; have b3 := cell_of s0 3; have g3 := ice_of s0 3; have b4 := cell_of s0 4; have g4 := ice_of s0 4; have b9 := lt_of_heap s0; (try simp only [World.size_alloc, List.getElem?_toArray, List.getElem?_cons_zero, List.getElem?_cons_succ] at b0 b1 b2 b3 b4 g0 g1 g2 g3 g4 b9); clear s0; simp only [List.getElem?_toArray, List.getElem?_cons_zero, List.getElem?_cons_succ] at v0 y0 y1
 clear v1
 go_wp2_with fail
 refine (Pieces_leaf A j ky ny my _ (HY.out.1.up uq) HY.out.2).mono ?_; rintro e w3 ⟨rfl, hu3⟩; have T := Lib.hid (three (hu2.trans (show Up w2 w3 from uq))); have v0 := cell_of T.out.1 0; have v1 := lt_of_heap T.out.1; have y0 := cell_of T.out.2.1 0; have y1 := cell_of T.out.2.1 1; have y2 := lt_of_heap T.out.2.1; have s0 := T.out.2.2; have b0 := cell_of s0 0; have g0 := ice_of s0 0; have b1 := cell_of s0 1; have g1 := ice_of s0 1; have b2 := cell_of s0 2; have g2 := ice_of s0 2; have b3 := cell_of s0 3; have g3 := ice_of s0 3; have b4 := cell_of s0 4; have g4 := ice_of s0 4; have b9 := lt_of_heap s0; (try simp only [World.size_alloc, List.getElem?_toArray, List.getElem?_cons_zero, List.getElem?_cons_succ] at b0 b1 b2 b3 b4 g0 g1 g2 g3 g4 b9); clear s0; simp only [List.getElem?_toArray, List.getElem?_cons_zero, List.getElem?_cons_succ] at v0 y0 y1
 go_wp2_with fail
 refine (says_any false _).mono ?_; rintro e w4 ⟨rfl, hu4⟩; have T := Lib.hid (three ((hu2.trans (show Up w2 w3 from uq)).trans (show Up w3 w4 from uq))); have v0 := cell_of T.out.1 0; have v1 := lt_of_heap T.out.1; have y0 := cell_of T.out.2.1 0; have y1 := cell_of T.out.2.1 1; have y2 := lt_of_heap T.out.2.1; have s0 := T.out.2.2; have b0 := cell_of s0 0; have g0 := ice_of s0 0; have b1 := cell_of s0 1; have g1 := ice_of s0 1; have b2 := cell_of s0 2; have g2 := ice_of s0 2; have b3 := cell_of s0 3; have g3 := ice_of s0 3; have b4 := cell_of s0 4; have g4 := ice_of s0 4; have b9 := lt_of_heap s0; (try simp only [World.size_alloc, List.getElem?_toArray, List.getElem?_cons_zero, List.getElem?_cons_succ] at b0 b1 b2 b3 b4 g0 g1 g2 g3 g4 b9); clear s0; simp only [List.getElem?_toArray, List.getElem?_cons_zero, List.getElem?_cons_succ] at v0 y0 y1
 go_wp2_with fail
 refine bodyPost_ret (v := queV true false false false (.slice none 0 0)) (by simp [results, Tryz.results134, go_sem, *]) rfl ?_
 exact ⟨rfl, uq⟩
def ansK (same : Bool) (kx ky : Int) : Bool := if same = true ∨ ky = 1 ∨ ky = 2 then true else if kx = 1 then ky != 3 else if kx = 3 then true else if kx = 2 then false else smallK kx ky
set_option maxRecDepth 100000 in
set_option maxHeartbeats 400000 in
theorem asks_leaf (A i j : Nat) (kx nx ky ny : Int) (mx my : ByteArray) (w : World) (hx : LeafIn w A i kx nx mx) (hy : LeafIn w A j ky ny my) (hk : 1 ≤ kx ∧ kx ≤ 12) (hl : 1 ≤ ky ∧ ky ≤ 12) :
   Calls Tryz.prog 87 #[.agg #[.pointer (some ⟨A, 0, none⟩)], .agg #[.int .i64 i, .int .i64 j]] w fun e w' => e = .returned (queV true (ansK (decide (i = j)) kx ky) false false (.slice none 0 0)) ∧ Up w w' := by
 have HX := Lib.hid (And.intro hx hk)
 have HY := Lib.hid (And.intro hy hl)
 clear hx hy hk hl
 go_enter Tryz.func87, Tryz.ntmps87
 go_wp2_with fail
 have T0 := Lib.hid (three (Up.refl (((w.alloc (Obj.cells #[Value.pointer (some ⟨A, 0, none⟩)] 92)).alloc (Obj.cells #[Value.int IntKind.i64 i, Value.int IntKind.i64 j] 95)).alloc (Obj.cells #[Value.bool false, Value.bool false, Value.bool false, Value.bool false, Value.slice none 0 0] 97))))
 obtain ⟨w0, hw0⟩ : ∃ w0, Hid (w0 = (((w.alloc (Obj.cells #[Value.pointer (some ⟨A, 0, none⟩)] 92)).alloc (Obj.cells #[Value.int IntKind.i64 i, Value.int IntKind.i64 j] 95)).alloc (Obj.cells #[Value.bool false, Value.bool false, Value.bool false, Value.bool false, Value.slice none 0 0] 97))) := ⟨_, rfl⟩
 rw [← hw0.out]
 rw [← hw0.out] at T0
 have hu0 : Up w w0 := by rw [hw0.out]; exact uq
 refine wp_region_inv (AskI A i j w.heap.size (fun x W => x = #[.int .i64 kx, .int .i64 nx, .string mx, .slice none 0 0, .slice none 0 0, .slice none 0 0]) (fun x W => x = #[.int .i64 ky, .int .i64 ny, .string my, .slice none 0 0, .slice none 0 0, .slice none 0 0]) w0) (by kernel_rfl) (by kernel_rfl) ?_ ?_ ?_ ?_
 · exact ⟨uq, false, false, false, false, false, false, false, false, false, false, false, false, #[], #[], #[], #[], 0, 0, rfl, by simp only [askA, sl_false], by simp⟩
 · rintro l a w ⟨_, _, _, _, _, _, _, _, _, _, _, _, _, _, _, _, _, _, _, rfl, _⟩
   rfl
 · intro l a W hI hall
   obtain ⟨hu, l0, l1, l2, l3, l4, l5, l6, l7, l8, l9, l10, l11, x, y, c, d, b5, b6, rfl, rfl, hx3, hy7, h8, h9, h89, hA, hB⟩ := hI
   obtain rfl : l0 = true := hall 0 (by decide)
   obtain rfl : l1 = true := hall 1 (by decide)
   obtain rfl : l2 = true := hall 2 (by decide)
   obtain rfl : l3 = true := hall 3 (by decide)
   obtain rfl : l4 = true := hall 4 (by decide)
   obtain rfl : l5 = true := hall 5 (by decide)
   obtain rfl : l6 = true := hall 6 (by decide)
   obtain rfl : l7 = true := hall 7 (by decide)
   obtain rfl : l8 = true := hall 8 (by decide)
   obtain rfl : l9 = true := hall 9 (by decide)
   obtain rfl : l10 = true := hall 10 (by decide)
   obtain rfl : l11 = true := hall 11 (by decide)
   obtain rfl := (hx3 rfl).2
   obtain rfl := (hy7 rfl).2
   obtain ⟨m1, m2, _, m4⟩ := h8 rfl
   obtain ⟨n1, n2, _, n4⟩ := h9 rfl
   obtain ⟨_, rfl⟩ := m4 rfl
   obtain ⟨_, rfl⟩ := n4 rfl
   have HM := Lib.hid (And.intro m1 (And.intro m2 (And.intro n1 (And.intro n2 (h89 rfl rfl)))))
   have HT := Lib.hid (And.intro (hu.get T0.out.1) (And.intro (hu.get T0.out.2.1) (hu.get T0.out.2.2)))
   have x0 := cell_of (id HM.out.2.1) 0
   have x1 := cell_of (id HM.out.2.1) 1
   have x2 := cell_of (id HM.out.2.1) 2
   have x3 := cell_of (id HM.out.2.1) 3
   have x4 := cell_of (id HM.out.2.1) 4
   have x5 := cell_of (id HM.out.2.1) 5
   have y0 := cell_of (id HM.out.2.2.2.1) 0
   have y1 := cell_of (id HM.out.2.2.2.1) 1
   have y2 := cell_of (id HM.out.2.2.2.1) 2
   have y3 := cell_of (id HM.out.2.2.2.1) 3
   have y4 := cell_of (id HM.out.2.2.2.1) 4
   have y5 := cell_of (id HM.out.2.2.2.1) 5
   have xl := lt_of_heap (id HM.out.2.1)
   have yl := lt_of_heap (id HM.out.2.2.2.1)
   have z1 := cell_of (id HT.out.2.1) 0
   have z2 := cell_of (id HT.out.2.1) 1
   have zl := lt_of_heap (id HT.out.2.1)
   have v0 := cell_of (id HT.out.1) 0
   have vl := lt_of_heap (id HT.out.1)
   have s0 := id HT.out.2.2
   have b0 := cell_of s0 0; have g0 := ice_of s0 0; have b1 := cell_of s0 1; have g1 := ice_of s0 1; have b2 := cell_of s0 2; have g2 := ice_of s0 2; have b3 := cell_of s0 3; have g3 := ice_of s0 3; have b4 := cell_of s0 4; have g4 := ice_of s0 4; have b9 := lt_of_heap s0; (try simp only [World.size_alloc, List.getElem?_toArray, List.getElem?_cons_zero, List.getElem?_cons_succ] at b0 b1 b2 b3 b4 g0 g1 g2 g3 g4 b9); clear s0
   simp only [List.getElem?_toArray, List.getElem?_cons_zero, List.getElem?_cons_succ] at x0 x1 x2 x3 x4 x5 y0 y1 y2 y3 y4 y5 z1 z2 v0
   clear hx3 hy7 h8 h9 h89 hA hB m1 m2 n1 n2 m4 n4 hall
   simp only [askA, sl_true]
   have hk := HX.out.2
   have hl := HY.out.2
   have hkx : (kx == 16) = false ∧ (kx == 20) = false ∧ (kx == 13) = false ∧ (kx == 15) = false := by simp; omega
   have hky : (ky == 16) = false := by simp; omega
   obtain ⟨k16, k20, k13, k15⟩ := hkx
   go_wp2_with (first | (go_at_call 131; refine (says_any _ _).mono ?_; rintro e w5 ⟨rfl, hu5⟩; have u5 : Up W w5 := uq; have x0 := cell_of (u5.get HM.out.2.1) 0; have x1 := cell_of (u5.get HM.out.2.1) 1; have x2 := cell_of (u5.get HM.out.2.1) 2; have x3 := cell_of (u5.get HM.out.2.1) 3; have x4 := cell_of (u5.get HM.out.2.1) 4; have x5 := cell_of (u5.get HM.out.2.1) 5; have y0 := cell_of (u5.get HM.out.2.2.2.1) 0; have y1 := cell_of (u5.get HM.out.2.2.2.1) 1; have y2 := cell_of (u5.get HM.out.2.2.2.1) 2; have y3 := cell_of (u5.get HM.out.2.2.2.1) 3; have y4 := cell_of (u5.get HM.out.2.2.2.1) 4; have y5 := cell_of (u5.get HM.out.2.2.2.1) 5; have xl := lt_of_heap (u5.get HM.out.2.1); have yl := lt_of_heap (u5.get HM.out.2.2.2.1); have z1 := cell_of (u5.get HT.out.2.1) 0; have z2 := cell_of (u5.get HT.out.2.1) 1; have zl := lt_of_heap (u5.get HT.out.2.1); have v0 := cell_of (u5.get HT.out.1) 0; have vl := lt_of_heap (u5.get HT.out.1); have s0 := u5.get HT.out.2.2; have b0 := cell_of s0 0; have g0 := ice_of s0 0; have b1 := cell_of s0 1; have g1 := ice_of s0 1; have b2 := cell_of s0 2; have g2 := ice_of s0 2; have b3 := cell_of s0 3; have g3 := ice_of s0 3; have b4 := cell_of s0 4; have g4 := ice_of s0 4; have b9 := lt_of_heap s0; (try simp only [World.size_alloc, List.getElem?_toArray, List.getElem?_cons_zero, List.getElem?_cons_succ] at b0 b1 b2 b3 b4 g0 g1 g2 g3 g4 b9); clear s0; simp only [List.getElem?_toArray, List.getElem?_cons_zero, List.getElem?_cons_succ] at x0 x1 x2 x3 x4 x5 y0 y1 y2 y3 y4 y5 z1 z2 v0))
   rotate_right 1
   · obtain ⟨sm, hsm⟩ : ∃ sm, Hid (smallK kx ky = sm) := ⟨_, rfl⟩
     have fin : Hid (ansK (decide (i = j)) kx ky = sm) := by
       rw [← hsm.out]
       unfold Hid ansK
       have hij : ¬ i = j := by omega
       simp_all
     have rx0 : ∀ i : RUp W, i.W.cell? ⟨b5, 0, none⟩ = some (.int .i64 kx) := fun i => (i.up.cells _ _ xl).trans x0
     have rx1 : ∀ i : RUp W, i.W.cell? ⟨b5, 1, none⟩ = some (.int .i64 nx) := fun i => (i.up.cells _ _ xl).trans x1
     have rx2 : ∀ i : RUp W, i.W.cell? ⟨b5, 2, none⟩ = some (.string mx) := fun i => (i.up.cells _ _ xl).trans x2
     have rx3 : ∀ i : RUp W, i.W.cell? ⟨b5, 3, none⟩ = some (.slice none 0 0) := fun i => (i.up.cells _ _ xl).trans x3
     have rx4 : ∀ i : RUp W, i.W.cell? ⟨b5, 4, none⟩ = some (.slice none 0 0) := fun i => (i.up.cells _ _ xl).trans x4
     have rx5 : ∀ i : RUp W, i.W.cell? ⟨b5, 5, none⟩ = some (.slice none 0 0) := fun i => (i.up.cells _ _ xl).trans x5
     have ry0 : ∀ i : RUp W, i.W.cell? ⟨b6, 0, none⟩ = some (.int .i64 ky) := fun i => (i.up.cells _ _ yl).trans y0
     have ry1 : ∀ i : RUp W, i.W.cell? ⟨b6, 1, none⟩ = some (.int .i64 ny) := fun i => (i.up.cells _ _ yl).trans y1
     have ry2 : ∀ i : RUp W, i.W.cell? ⟨b6, 2, none⟩ = some (.string my) := fun i => (i.up.cells _ _ yl).trans y2
     have ry3 : ∀ i : RUp W, i.W.cell? ⟨b6, 3, none⟩ = some (.slice none 0 0) := fun i => (i.up.cells _ _ yl).trans y3
     have ry4 : ∀ i : RUp W, i.W.cell? ⟨b6, 4, none⟩ = some (.slice none 0 0) := fun i => (i.up.cells _ _ yl).trans y4
     have ry5 : ∀ i : RUp W, i.W.cell? ⟨b6, 5, none⟩ = some (.slice none 0 0) := fun i => (i.up.cells _ _ yl).trans y5
     have HCC : Hid (∀ i : RUp W, Calls Tryz.prog 132 #[tyV kx nx mx, tyV ky ny my] i.W fun e w' => e = .returned (.bool sm) ∧ Up i.W w') := fun i => by
       rw [← hsm.out]
       exact small_leaf kx nx ky ny mx my i.W
     cases sm
     · refine wp_region_rup (by kernel_rfl) (by kernel_rfl) ?_
       repeat (go_big_quiet_step ((go_at_call 132; rename_i i; exact Calls.rup_of i (HCC.out i))))
       refine wpQuiet_nil ?_
       intro _ hw'
       obtain ⟨⟨w5, hu5⟩, hw''⟩ := hw'
       subst hw''
       clear rx0 rx1 rx2 rx3 rx4 rx5 ry0 ry1 ry2 ry3 ry4 ry5 x0 x1 x2 x3 x4 x5 y0 y1 y2 y3 y4 y5 xl yl z1 z2 zl v0
       have x0 := cell_of (hu5.get HM.out.2.1) 0
       have x1 := cell_of (hu5.get HM.out.2.1) 1
       have x2 := cell_of (hu5.get HM.out.2.1) 2
       have x3 := cell_of (hu5.get HM.out.2.1) 3
       have x4 := cell_of (hu5.get HM.out.2.1) 4
       have x5 := cell_of (hu5.get HM.out.2.1) 5
       have y0 := cell_of (hu5.get HM.out.2.2.2.1) 0
       have y1 := cell_of (hu5.get HM.out.2.2.2.1) 1
       have y2 := cell_of (hu5.get HM.out.2.2.2.1) 2
       have y3 := cell_of (hu5.get HM.out.2.2.2.1) 3
       have y4 := cell_of (hu5.get HM.out.2.2.2.1) 4
       have y5 := cell_of (hu5.get HM.out.2.2.2.1) 5
       have xl := lt_of_heap (hu5.get HM.out.2.1)
       have yl := lt_of_heap (hu5.get HM.out.2.2.2.1)
       have z1 := cell_of (hu5.get HT.out.2.1) 0
       have z2 := cell_of (hu5.get HT.out.2.1) 1
       have zl := lt_of_heap (hu5.get HT.out.2.1)
       have v0 := cell_of (hu5.get HT.out.1) 0
       have vl := lt_of_heap (hu5.get HT.out.1)
       have s0 := hu5.get HT.out.2.2
       have b0 := cell_of s0 0; have g0 := ice_of s0 0; have b1 := cell_of s0 1; have g1 := ice_of s0 1; have b2 := cell_of s0 2; have g2 := ice_of s0 2; have b3 := cell_of s0 3; have g3 := ice_of s0 3; have b4 := cell_of s0 4; have g4 := ice_of s0 4; have b9 := lt_of_heap s0; (try simp only [World.size_alloc, List.getElem?_toArray, List.getElem?_cons_zero, List.getElem?_cons_succ] at b0 b1 b2 b3 b4 g0 g1 g2 g3 g4 b9); clear s0
       simp only [List.getElem?_toArray, List.getElem?_cons_zero, List.getElem?_cons_succ] at x0 x1 x2 x3 x4 x5 y0 y1 y2 y3 y4 y5 z1 z2 v0
       go_wp2_with (first | (go_at_call 134; refine (members_leaf A i j kx nx ky ny mx my _ ((HX.out.1.up hu0).up (hu.trans uq)) ((HY.out.1.up hu0).up (hu.trans uq)) (by omega) (by omega)).mono ?_; rintro e w6 ⟨rfl, hu6⟩; have u6 : Up W w6 := uq; have s0 := u6.get HT.out.2.2; have b0 := cell_of s0 0; have g0 := ice_of s0 0; have b1 := cell_of s0 1; have g1 := ice_of s0 1; have b2 := cell_of s0 2; have g2 := ice_of s0 2; have b3 := cell_of s0 3; have g3 := ice_of s0 3; have b4 := cell_of s0 4; have g4 := ice_of s0 4; have b9 := lt_of_heap s0; (try simp only [World.size_alloc, List.getElem?_toArray, List.getElem?_cons_zero, List.getElem?_cons_succ] at b0 b1 b2 b3 b4 g0 g1 g2 g3 g4 b9); clear s0))
       refine bodyPost_ret (v := queV true false false false (.slice none 0 0)) (by simp [results, Tryz.results87, go_sem, *]) rfl ?_
       have uw6 : Up w w6 := (hu0.trans hu).trans u6
       exact ⟨by rw [fin.out], uq⟩
     · refine wp_region_rup (by kernel_rfl) (by kernel_rfl) ?_
       repeat (go_big_quiet_step ((go_at_call 132; rename_i i; exact Calls.rup_of i (HCC.out i))))
       refine wpQuiet_nil ?_
       intro _ hw'
       obtain ⟨⟨w5, hu5⟩, hw''⟩ := hw'
       subst hw''
       clear rx0 rx1 rx2 rx3 rx4 rx5 ry0 ry1 ry2 ry3 ry4 ry5 x0 x1 x2 x3 x4 x5 y0 y1 y2 y3 y4 y5 xl yl z1 z2 zl v0
       have x0 := cell_of (hu5.get HM.out.2.1) 0
       have x1 := cell_of (hu5.get HM.out.2.1) 1
       have x2 := cell_of (hu5.get HM.out.2.1) 2
       have x3 := cell_of (hu5.get HM.out.2.1) 3
       have x4 := cell_of (hu5.get HM.out.2.1) 4
       have x5 := cell_of (hu5.get HM.out.2.1) 5
       have y0 := cell_of (hu5.get HM.out.2.2.2.1) 0
       have y1 := cell_of (hu5.get HM.out.2.2.2.1) 1
       have y2 := cell_of (hu5.get HM.out.2.2.2.1) 2
       have y3 := cell_of (hu5.get HM.out.2.2.2.1) 3
       have y4 := cell_of (hu5.get HM.out.2.2.2.1) 4
       have y5 := cell_of (hu5.get HM.out.2.2.2.1) 5
       have xl := lt_of_heap (hu5.get HM.out.2.1)
       have yl := lt_of_heap (hu5.get HM.out.2.2.2.1)
       have z1 := cell_of (hu5.get HT.out.2.1) 0
       have z2 := cell_of (hu5.get HT.out.2.1) 1
       have zl := lt_of_heap (hu5.get HT.out.2.1)
       have v0 := cell_of (hu5.get HT.out.1) 0
       have vl := lt_of_heap (hu5.get HT.out.1)
       have s0 := hu5.get HT.out.2.2
       have b0 := cell_of s0 0; have g0 := ice_of s0 0; have b1 := cell_of s0 1; have g1 := ice_of s0 1; have b2 := cell_of s0 2; have g2 := ice_of s0 2; have b3 := cell_of s0 3; have g3 := ice_of s0 3; have b4 := cell_of s0 4; have g4 := ice_of s0 4; have b9 := lt_of_heap s0; (try simp only [World.size_alloc, List.getElem?_toArray, List.getElem?_cons_zero, List.getElem?_cons_succ] at b0 b1 b2 b3 b4 g0 g1 g2 g3 g4 b9); clear s0
       simp only [List.getElem?_toArray, List.getElem?_cons_zero, List.getElem?_cons_succ] at x0 x1 x2 x3 x4 x5 y0 y1 y2 y3 y4 y5 z1 z2 v0
       go_wp2_with (first | (go_at_call 131; refine (says_any _ _).mono ?_; rintro e w6 ⟨rfl, hu6⟩; have u6 : Up W w6 := uq; have s0 := u6.get HT.out.2.2; have b0 := cell_of s0 0; have g0 := ice_of s0 0; have b1 := cell_of s0 1; have g1 := ice_of s0 1; have b2 := cell_of s0 2; have g2 := ice_of s0 2; have b3 := cell_of s0 3; have g3 := ice_of s0 3; have b4 := cell_of s0 4; have g4 := ice_of s0 4; have b9 := lt_of_heap s0; (try simp only [World.size_alloc, List.getElem?_toArray, List.getElem?_cons_zero, List.getElem?_cons_succ] at b0 b1 b2 b3 b4 g0 g1 g2 g3 g4 b9); clear s0))
       refine bodyPost_ret (v := queV true true false false (.slice none 0 0)) (by simp [results, Tryz.results87, go_sem, *]) rfl ?_
       have uw6 : Up w w6 := (hu0.trans hu).trans u6
       exact ⟨by rw [fin.out], uq⟩
   all_goals have uw5 : Up w w5 := (hu0.trans hu).trans u5
   · rename_i hc _ _
     refine bodyPost_ret (v := queV true true false false (.slice none 0 0)) (by simp [results, Tryz.results87, go_sem, *]) rfl ?_
     refine ⟨congrArg Ending.returned (congrArg (fun b => queV true b false false (.slice none 0 0)) ?_), uq⟩
     unfold ansK
     have f : i = j := by omega
     simp [f]
   · rename_i hc _ _
     refine bodyPost_ret (v := queV true true false false (.slice none 0 0)) (by simp [results, Tryz.results87, go_sem, *]) rfl ?_
     refine ⟨congrArg Ending.returned (congrArg (fun b => queV true b false false (.slice none 0 0)) ?_), uq⟩
     unfold ansK
     simp [hc]
   · rename_i hc _ _
     refine bodyPost_ret (v := queV true true false false (.slice none 0 0)) (by simp [results, Tryz.results87, go_sem, *]) rfl ?_
     refine ⟨congrArg Ending.returned (congrArg (fun b => queV true b false false (.slice none 0 0)) ?_), uq⟩
     unfold ansK
     have f : i = j ∨ ky = 1 ∨ ky = 2 := by
       simp at hc
       omega
     simp [f]
   · rename_i hc _ _
     refine bodyPost_ret (v := queV true (ky != 3) false false (.slice none 0 0)) (by simp [results, Tryz.results87, go_sem, *]) rfl ?_
     refine ⟨congrArg Ending.returned (congrArg (fun b => queV true b false false (.slice none 0 0)) ?_), uq⟩
     unfold ansK
     have f : ¬ (decide (i = j) = true ∨ ky = 1 ∨ ky = 2) := by
       have q : ((i : Int) == j) = false ∧ (ky == 1) = false ∧ (ky == 2) = false := by simp_all
       simp at q
       simp
       omega
     rw [if_neg f]
     have g : kx = 1 := by simpa using hc
     rw [if_pos g]
   · rename_i hc _ _
     refine bodyPost_ret (v := queV true true false false (.slice none 0 0)) (by simp [results, Tryz.results87, go_sem, *]) rfl ?_
     refine ⟨congrArg Ending.returned (congrArg (fun b => queV true b false false (.slice none 0 0)) ?_), uq⟩
     unfold ansK
     have f : ¬ (decide (i = j) = true ∨ ky = 1 ∨ ky = 2) := by
       have q : ((i : Int) == j) = false ∧ (ky == 1) = false ∧ (ky == 2) = false := by simp_all
       simp at q
       simp
       omega
     rw [if_neg f]
     have g : kx = 3 := by simpa using hc
     rw [if_neg (by omega), if_pos g]
   · rename_i hc _ _
     refine bodyPost_ret (v := queV true false false false (.slice none 0 0)) (by simp [results, Tryz.results87, go_sem, *]) rfl ?_
     refine ⟨congrArg Ending.returned (congrArg (fun b => queV true b false false (.slice none 0 0)) ?_), uq⟩
     unfold ansK
     have f : ¬ (decide (i = j) = true ∨ ky = 1 ∨ ky = 2) := by
       have q : ((i : Int) == j) = false ∧ (ky == 1) = false ∧ (ky == 2) = false := by simp_all
       simp at q
       simp
       omega
     rw [if_neg f]
     have g : kx = 2 := by simpa using hc
     rw [if_neg (by omega), if_neg (by omega), if_pos g]
 · intro l a W hI n o hn ho hl hdep
   obtain ⟨hu, l0, l1, l2, l3, l4, l5, l6, l7, l8, l9, l10, l11, x, y, c, d, b5, b6, rfl, rfl, hx3, hy7, h8, h9, h89, hA, hB⟩ := hI
   have z0 := cell_of (hu.get T0.out.1) 0
   have z1 := cell_of (hu.get T0.out.2.1) 0
   have z2 := cell_of (hu.get T0.out.2.1) 1
   have zl := lt_of_heap (hu.get T0.out.2.1)
   simp only [List.getElem?_toArray, List.getElem?_cons_zero, List.getElem?_cons_succ] at z0 z1 z2
   have hn12 : n < 12 := hn
   clear hn
   have hcs : n = 0 ∨ n = 1 ∨ n = 2 ∨ n = 3 ∨ n = 4 ∨ n = 5 ∨ n = 6 ∨ n = 7 ∨ n = 8 ∨ n = 9 ∨ n = 10 ∨ n = 11 := by omega
   have up2 : ∀ {W2 : World}, Up W W2 → (l8 = true → w0.heap.size ≤ b5 ∧ W2.heap[b5]? = some (.cells c AtyT (0, 0)) ∧ c.size = 6 ∧ (l10 = true → l3 = true ∧ c = x)) ∧ (l9 = true → w0.heap.size ≤ b6 ∧ W2.heap[b6]? = some (.cells d AtyT (0, 0)) ∧ d.size = 6 ∧ (l11 = true → l7 = true ∧ d = y)) := fun k => ⟨fun h => ⟨(h8 h).1, k.get (h8 h).2.1, (h8 h).2.2⟩, fun h => ⟨(h9 h).1, k.get (h9 h).2.1, (h9 h).2.2⟩⟩
   rcases hcs with rfl | rfl | rfl | rfl | rfl | rfl | rfl | rfl | rfl | rfl | rfl | rfl
   all_goals simp only [List.getElem?_cons_zero, List.getElem?_cons_succ, Option.some.injEq] at ho
   all_goals subst ho
   all_goals simp [Region.binds] at hl hdep
   all_goals (try subst hl)
   all_goals unfold wpOp
   · simp only [askA, sl_true]
     go_simp
     exact .inl ⟨hu, _, _, _, _, _, _, _, _, _, _, _, _, x, y, c, d, b5, b6, rfl, rfl, hx3, hy7, h8, h9, h89, hA, hB⟩
   · simp only [askA, sl_true]
     go_simp
     exact .inl ⟨hu, _, _, _, _, _, _, _, _, _, _, _, _, x, y, c, d, b5, b6, rfl, rfl, hx3, hy7, h8, h9, h89, hA, hB⟩
   · subst hdep
     simp only [askA, sl_true]
     go_simp
     exact .inl ⟨hu, _, _, _, _, _, _, _, _, _, _, _, _, x, y, c, d, b5, b6, rfl, rfl, hx3, hy7, h8, h9, h89, hA, hB⟩
   · obtain ⟨rfl, rfl⟩ := hdep
     simp only [askA, sl_true]
     go_simp
     refine .inl ((at_leaf A i kx nx mx _ (HX.out.1.up (hu0.trans hu))).mono ?_)
     rintro e w2 ⟨rfl, hu2⟩
     exact ⟨hu.trans hu2, _, _, _, _, _, _, _, _, _, _, _, _, #[.int .i64 kx, .int .i64 nx, .string mx, .slice none 0 0, .slice none 0 0, .slice none 0 0], y, c, d, b5, b6, rfl, rfl, fun _ => ⟨rfl, rfl⟩, hy7, fun h => ⟨((up2 hu2).1 h).1, ((up2 hu2).1 h).2.1, ((up2 hu2).1 h).2.2.1, fun h10 => (by have q := ((h8 h).2.2.2 h10).1; cases q)⟩, (up2 hu2).2, h89, hA, hB⟩
   · simp only [askA, sl_true]
     go_simp
     exact .inl ⟨hu, _, _, _, _, _, _, _, _, _, _, _, _, x, y, c, d, b5, b6, rfl, rfl, hx3, hy7, h8, h9, h89, hA, hB⟩
   · simp only [askA, sl_true]
     go_simp
     exact .inl ⟨hu, _, _, _, _, _, _, _, _, _, _, _, _, x, y, c, d, b5, b6, rfl, rfl, hx3, hy7, h8, h9, h89, hA, hB⟩
   · subst hdep
     simp only [askA, sl_true]
     go_simp
     exact .inl ⟨hu, _, _, _, _, _, _, _, _, _, _, _, _, x, y, c, d, b5, b6, rfl, rfl, hx3, hy7, h8, h9, h89, hA, hB⟩
   · obtain ⟨rfl, rfl, rfl⟩ := hdep
     have HX3 := Lib.hid hx3
     clear hx3
     simp only [askA, sl_true]
     go_simp
     refine .inl ((at_leaf A j ky ny my _ (HY.out.1.up (hu0.trans hu))).mono ?_)
     rintro e w2 ⟨rfl, hu2⟩
     exact ⟨hu.trans hu2, _, _, _, _, _, _, _, _, _, _, _, _, x, #[.int .i64 ky, .int .i64 ny, .string my, .slice none 0 0, .slice none 0 0, .slice none 0 0], c, d, b5, b6, rfl, rfl, HX3.out, fun _ => ⟨rfl, rfl⟩, (up2 hu2).1, fun h => ⟨((up2 hu2).2 h).1, ((up2 hu2).2 h).2.1, ((up2 hu2).2 h).2.2.1, fun h10 => (by have q := ((h9 h).2.2.2 h10).1; cases q)⟩, h89, hA, hB⟩
   · simp only [askA, sl_true]
     go_simp
     refine .inl ⟨hu.alloc _, _, _, _, _, _, _, _, _, _, _, _, _, x, y, #[.int .i64 0, .int .i64 0, .string ⟨#[]⟩, .slice none 0 0, .slice none 0 0, .slice none 0 0], d, W.heap.size, b6, rfl, rfl, hx3, hy7, fun _ => ⟨hu.size, alloc_get _ _, rfl, fun h10 => (by have q := hA h10; cases q)⟩, (up2 (Up.alloc (Up.refl W) _)).2, fun _ h9' => ?_, fun _ => rfl, hB⟩
     · have := lt_of_heap (h9 h9').2.1
       omega
   · simp only [askA, sl_true]
     go_simp
     refine .inl ⟨hu.alloc _, _, _, _, _, _, _, _, _, _, _, _, _, x, y, c, #[.int .i64 0, .int .i64 0, .string ⟨#[]⟩, .slice none 0 0, .slice none 0 0, .slice none 0 0], b5, W.heap.size, rfl, rfl, hx3, hy7, (up2 (Up.alloc (Up.refl W) _)).1, fun _ => ⟨hu.size, alloc_get _ _, rfl, fun h10 => (by have q := hB h10; cases q)⟩, fun h8' _ => ?_, hA, fun _ => rfl⟩
     · have := lt_of_heap (h8 h8').2.1
       omega
   · have e3 : l3 = true := by simp_all
     have e7 : l7 = true := by simp_all
     have e8 : l8 = true := by simp_all
     have e9 : l9 = true := by simp_all
     subst e3 e7 e8 e9
     obtain ⟨n1, s0, n3, n4⟩ := h8 rfl
     obtain rfl := (hx3 rfl).2
     obtain rfl := (hy7 rfl).2
     obtain ⟨c0, c1, c2, c3, c4, c5, hc⟩ := six n3
     subst hc
     have HS0 := Lib.hid s0
     have q0 := cell_of s0 0; have p0 := ice_of s0 0; have q1 := cell_of s0 1; have p1 := ice_of s0 1; have q2 := cell_of s0 2; have p2 := ice_of s0 2; have q3 := cell_of s0 3; have p3 := ice_of s0 3; have q4 := cell_of s0 4; have p4 := ice_of s0 4; have q5 := cell_of s0 5; have p5 := ice_of s0 5; have q9 := lt_of_heap s0; (try simp only [World.size_alloc, List.getElem?_toArray, List.getElem?_cons_zero, List.getElem?_cons_succ] at q0 q1 q2 q3 q4 q5 p0 p1 p2 p3 p4 p5 q9); clear s0
     simp only [askA, sl_true]
     go_simp
     refine .inl ⟨set6_up hu n1, _, _, _, _, _, _, _, _, _, _, _, _, _, _, _, d, b5, b6, rfl, rfl, fun _ => ⟨rfl, rfl⟩, fun _ => ⟨rfl, rfl⟩, fun _ => ⟨n1, set6_at HS0.out, rfl, fun _ => ⟨rfl, rfl⟩⟩, fun h => ⟨(h9 rfl).1, (set6_other (Ne.symm (h89 rfl rfl))).trans (h9 rfl).2.1, (h9 rfl).2.2⟩, h89, fun _ => rfl, hB⟩
   · have e3 : l3 = true := by simp_all
     have e7 : l7 = true := by simp_all
     have e8 : l8 = true := by simp_all
     have e9 : l9 = true := by simp_all
     have e10 : l10 = true := by simp_all
     subst e3 e7 e8 e9 e10
     obtain ⟨n1, s0, n3, n4⟩ := h9 rfl
     obtain rfl := (hx3 rfl).2
     obtain rfl := (hy7 rfl).2
     obtain ⟨c0, c1, c2, c3, c4, c5, hc⟩ := six n3
     subst hc
     have HS0 := Lib.hid s0
     have q0 := cell_of s0 0; have p0 := ice_of s0 0; have q1 := cell_of s0 1; have p1 := ice_of s0 1; have q2 := cell_of s0 2; have p2 := ice_of s0 2; have q3 := cell_of s0 3; have p3 := ice_of s0 3; have q4 := cell_of s0 4; have p4 := ice_of s0 4; have q5 := cell_of s0 5; have p5 := ice_of s0 5; have q9 := lt_of_heap s0; (try simp only [World.size_alloc, List.getElem?_toArray, List.getElem?_cons_zero, List.getElem?_cons_succ] at q0 q1 q2 q3 q4 q5 p0 p1 p2 p3 p4 p5 q9); clear s0
     simp only [askA, sl_true]
     go_simp
     refine .inl ⟨set6_up hu n1, _, _, _, _, _, _, _, _, _, _, _, _, _, _, c, _, b5, b6, rfl, rfl, fun _ => ⟨rfl, rfl⟩, fun _ => ⟨rfl, rfl⟩, fun h => ⟨(h8 h).1, (set6_other (h89 rfl rfl)).trans (h8 h).2.1, (h8 h).2.2⟩, fun _ => ⟨n1, set6_at HS0.out, rfl, fun _ => ⟨rfl, rfl⟩⟩, h89, hA, fun _ => rfl⟩
end Go.Proofs.YtiaepldmgighbaaGreatDoor
