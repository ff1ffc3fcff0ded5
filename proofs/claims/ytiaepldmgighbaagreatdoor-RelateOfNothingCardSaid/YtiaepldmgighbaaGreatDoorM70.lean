import Derived.Deep.RegionHeld3
import Derived.Deep.OwnRows
import Derived.Test.YtiaepldmgighbaaGreatDoorM47
import Derived.Test.YtiaepldmgighbaaGreatDoorM36
import Derived.Test.YtiaepldmgighbaaGreatDoorM46
namespace Go.Proofs.YtiaepldmgighbaaGreatDoor
open Go.RowKit
set_option linter.unusedSimpArgs false
theorem Of_any (k : Int) (w : World) : Calls Tryz.prog 19 #[.int .i64 k] w fun e w' => e = .returned (tyV k 0 ⟨#[]⟩) ∧ Up w w' := by
 go_enter Tryz.func19, Tryz.ntmps19
 go_wp2_with fail
 refine bodyPost_ret (v := tyV k 0 ⟨#[]⟩) (by simp [results, Tryz.results19, go_sem]) rfl ?_
 exact ⟨rfl, uq⟩
abbrev wordsV : Array Value := #[.string ⟨#[]⟩, .string ⟨#[97, 110, 121]⟩, .string ⟨#[117, 110, 107, 110, 111, 119, 110]⟩, .string ⟨#[110, 101, 118, 101, 114]⟩, .string ⟨#[118, 111, 105, 100]⟩, .string ⟨#[117, 110, 100, 101, 102, 105, 110, 101, 100]⟩, .string ⟨#[110, 117, 108, 108]⟩, .string ⟨#[110, 117, 109, 98, 101, 114]⟩, .string ⟨#[115, 116, 114, 105, 110, 103]⟩, .string ⟨#[116, 114, 117, 101]⟩, .string ⟨#[102, 97, 108, 115, 101]⟩]
set_option maxRecDepth 100000 in
theorem words_any (w : World) : Calls Tryz.prog 85 #[] w fun e w' => ∃ b, e = .returned (.slice (some ⟨b, 0, none⟩) 11 11) ∧ w'.heap[b]? = some (.cells wordsV 9 (0, 0)) ∧ w.heap.size ≤ b ∧ Up w w' := by
 go_enter Tryz.func85, Tryz.ntmps85
 go_wp2_with fail
 go_ret
 exact ⟨w.heap.size, rfl, alloc_get _ _, Nat.le_refl _, uq⟩
theorem wordsV_at (k : Int) (h1 : 1 ≤ k) (h2 : k ≤ 10) : wordsV[k.toNat]? = some (.string (wordS k)) := by
 have hk : k = 1 ∨ k = 2 ∨ k = 3 ∨ k = 4 ∨ k = 5 ∨ k = 6 ∨ k = 7 ∨ k = 8 ∨ k = 9 ∨ k = 10 := by omega
 rcases hk with rfl | rfl | rfl | rfl | rfl | rfl | rfl | rfl | rfl | rfl <;> rfl
set_option maxRecDepth 100000 in
set_option maxHeartbeats 3200000 in
theorem Text_basic (k : Int) (h1 : 1 ≤ k) (h2 : k ≤ 10) (w : World) : Calls Tryz.prog 42 #[tyV k 0 ⟨#[]⟩] w fun e w' => e = .returned (.string (wordS k)) ∧ Up w w' := by
 have HK := Lib.hid (And.intro h1 h2)
 have e11 : (k == 11) = false := by simp; omega
 have e12 : (k == 12) = false := by simp; omega
 have e13 : (k == 13) = false := by simp; omega
 have e14 : (k == 14) = false := by simp; omega
 have e15 : (k == 15) = false := by simp; omega
 have e16 : (k == 16) = false := by simp; omega
 have e17 : (k == 17) = false := by simp; omega
 have e18 : (k == 18) = false := by simp; omega
 have e19 : (k == 19) = false := by simp; omega
 have e20 : (k == 20) = false := by simp; omega
 have e21 : (k == 21) = false := by simp; omega
 have e22 : (k == 22) = false := by simp; omega
 have e23 : (k == 23) = false := by simp; omega
 have k0 : (0 : Int) ≤ k := by omega
 have k1 : k < 11 := by omega
 obtain ⟨tx, htx⟩ : ∃ tx, Hid (wordS k = tx) := ⟨_, rfl⟩
 rw [htx.out]
 go_enter Tryz.func42, Tryz.ntmps42
 go_wp2_with fail
 have HB := Lib.hid (show (w.alloc (.cells #[.int .i64 k, .int .i64 0, .string ⟨#[]⟩, .slice none 0 0, .slice none 0 0, .slice none 0 0] 33)).heap[w.heap.size]? = _ from alloc_get _ _)
 go_region_law (first | (go_simp; go_at_call 85; refine (words_any _).mono ?_; rintro e w3 ⟨b, rfl, hb, hbl, hu3⟩; have y0 := (cell_of hb k.toNat).trans (wordsV_at k HK.out.1 HK.out.2); rw [htx.out] at y0; have yl := lt_of_heap hb; have s0 := (Up.trans (Up.drew (Up.refl _)) hu3).get HB.out; have q0 := cell_of s0 0; have p0 := ice_of s0 0; have q1 := cell_of s0 1; have p1 := ice_of s0 1; have q2 := cell_of s0 2; have p2 := ice_of s0 2; have q3 := cell_of s0 3; have p3 := ice_of s0 3; have q4 := cell_of s0 4; have p4 := ice_of s0 4; have q5 := cell_of s0 5; have p5 := ice_of s0 5; have q9 := lt_of_heap s0; (try simp only [World.size_alloc, List.getElem?_toArray, List.getElem?_cons_zero, List.getElem?_cons_succ] at q0 q1 q2 q3 q4 q5 p0 p1 p2 p3 p4 p5 q9); clear s0))
 all_goals go_wp2_with fail
 all_goals go_ret
 all_goals exact ⟨rfl, Up.trans (show Up w _ from Up.drew (Up.alloc (Up.refl w) _)) hu3⟩
def Basic (k : Int) : Prop := 1 ≤ k ∧ k ≤ 10
theorem word_eq (j k : Int) (hj : Basic j) (hk : Basic k) : ((wordS j).toList == (wordS k).toList) = decide (j = k) := by
  have h : ∀ a : Fin 10, ∀ b : Fin 10, ((wordS ((a.val : Int) + 1)).toList == (wordS ((b.val : Int) + 1)).toList) = decide ((a.val : Int) + 1 = (b.val : Int) + 1) := by decide +kernel
  obtain ⟨j1, j2⟩ := hj
  obtain ⟨k1, k2⟩ := hk
  have q := h ⟨(j - 1).toNat, by omega⟩ ⟨(k - 1).toNat, by omega⟩
  simp only at q
  rw [show (((j - 1).toNat : Nat) : Int) + 1 = j by omega, show (((k - 1).toNat : Nat) : Int) + 1 = k by omega] at q
  exact q
set_option maxRecDepth 100000 in
set_option maxHeartbeats 3200000 in
theorem Same_basic (j k : Int) (hj : Basic j) (hk : Basic k) (w : World) : Calls Tryz.prog 71 #[tyV j 0 ⟨#[]⟩, tyV k 0 ⟨#[]⟩] w fun e w' => e = .returned (.bool (decide (j = k))) ∧ Up w w' := by
 rw [← word_eq j k hj hk]
 have HJ := Lib.hid hj
 have HK := Lib.hid hk
 obtain ⟨tj, htj⟩ : ∃ tj, Hid (wordS j = tj) := ⟨_, rfl⟩
 obtain ⟨tk, htk⟩ : ∃ tk, Hid (wordS k = tk) := ⟨_, rfl⟩
 rw [htj.out, htk.out]
 clear hj hk
 go_enter Tryz.func71, Tryz.ntmps71
 go_wp2_with fail
 refine range_named fun A1 W1 hA1 hW1 => ?_
 have u1 : Up w W1 := by rw [hW1]; exact uq
 have bj : W1.heap[w.heap.size]? = some (.cells #[.int .i64 j, .int .i64 0, .string ⟨#[]⟩, .slice none 0 0, .slice none 0 0, .slice none 0 0] 33 (0, 0)) := by rw [hW1]; exact (alloc_old _ _ _ (by simp)).trans (alloc_get _ _)
 have bk : W1.heap[w.heap.size + 1]? = some (.cells #[.int .i64 k, .int .i64 0, .string ⟨#[]⟩, .slice none 0 0, .slice none 0 0, .slice none 0 0] 33 (0, 0)) := by rw [hW1]; exact alloc_at _ _ _ (by simp)
 clear hW1
 subst hA1
 have q0 : ∀ i : RUp W1, i.W.cell? ⟨w.heap.size, 0, none⟩ = some (.int .i64 j) := fun i => cell_of (i.up.get bj) 0
 have q1 : ∀ i : RUp W1, i.W.cell? ⟨w.heap.size, 1, none⟩ = some (.int .i64 0) := fun i => cell_of (i.up.get bj) 1
 have q2 : ∀ i : RUp W1, i.W.cell? ⟨w.heap.size, 2, none⟩ = some (.string ⟨#[]⟩) := fun i => cell_of (i.up.get bj) 2
 have q3 : ∀ i : RUp W1, i.W.cell? ⟨w.heap.size, 3, none⟩ = some (.slice none 0 0) := fun i => cell_of (i.up.get bj) 3
 have q4 : ∀ i : RUp W1, i.W.cell? ⟨w.heap.size, 4, none⟩ = some (.slice none 0 0) := fun i => cell_of (i.up.get bj) 4
 have q5 : ∀ i : RUp W1, i.W.cell? ⟨w.heap.size, 5, none⟩ = some (.slice none 0 0) := fun i => cell_of (i.up.get bj) 5
 have p0 : ∀ i : RUp W1, i.W.cell? ⟨w.heap.size + 1, 0, none⟩ = some (.int .i64 k) := fun i => cell_of (i.up.get bk) 0
 have p1 : ∀ i : RUp W1, i.W.cell? ⟨w.heap.size + 1, 1, none⟩ = some (.int .i64 0) := fun i => cell_of (i.up.get bk) 1
 have p2 : ∀ i : RUp W1, i.W.cell? ⟨w.heap.size + 1, 2, none⟩ = some (.string ⟨#[]⟩) := fun i => cell_of (i.up.get bk) 2
 have p3 : ∀ i : RUp W1, i.W.cell? ⟨w.heap.size + 1, 3, none⟩ = some (.slice none 0 0) := fun i => cell_of (i.up.get bk) 3
 have p4 : ∀ i : RUp W1, i.W.cell? ⟨w.heap.size + 1, 4, none⟩ = some (.slice none 0 0) := fun i => cell_of (i.up.get bk) 4
 have p5 : ∀ i : RUp W1, i.W.cell? ⟨w.heap.size + 1, 5, none⟩ = some (.slice none 0 0) := fun i => cell_of (i.up.get bk) 5
 have C1 : Hid (∀ i : RUp W1, Calls Tryz.prog 42 #[tyV j 0 ⟨#[]⟩] i.W fun e w' => e = .returned (.string tj) ∧ Up i.W w') := fun i => by rw [← htj.out]; exact Text_basic j HJ.out.1 HJ.out.2 i.W
 have C2 : Hid (∀ i : RUp W1, Calls Tryz.prog 42 #[tyV k 0 ⟨#[]⟩] i.W fun e w' => e = .returned (.string tk) ∧ Up i.W w') := fun i => by rw [← htk.out]; exact Text_basic k HK.out.1 HK.out.2 i.W
 refine wp_region_rup (by kernel_rfl) (by kernel_rfl) ?_
 repeat (go_big_quiet_step ((go_at_call 42; rename_i i; first | (with_reducible exact Calls.rup_of i (C1.out i)) | (with_reducible exact Calls.rup_of i (C2.out i)))))
 refine wpQuiet_nil ?_
 intro w6 hw'
 obtain ⟨i6, hw''⟩ := hw'
 have hu6 : Up W1 w6 := by rw [hw'']; exact i6.up
 clear hw'' i6 q0 q1 q2 q3 q4 q5 p0 p1 p2 p3 p4 p5
 go_wp2_with fail
 go_ret
 exact ⟨rfl, u1.trans hu6⟩
theorem cellOther {W : World} {b g i o : Nat} {v : Value} (h : g ≠ b) : (W.setCell ⟨b, i, none⟩ v).cell? ⟨g, o, none⟩ = W.cell? ⟨g, o, none⟩ := by simp only [World.cell?, setCell_other h]
def keyS (j k : Int) : ByteArray := wordS j ++ ⟨#[32, 58, 32]⟩ ++ wordS k
abbrev pairT (j k : Int) : Value := .agg #[.int .i64 j, .int .i64 0, .string ⟨#[]⟩, .slice none 0 0, .slice none 0 0, .slice none 0 0, .int .i64 k, .int .i64 0, .string ⟨#[]⟩, .slice none 0 0, .slice none 0 0, .slice none 0 0, .string (keyS j k)]
theorem word_len (j : Int) (hj : Basic j) : (wordS j).size ≤ 9 := by
 have h : ∀ a : Fin 10, (wordS ((a.val : Int) + 1)).size ≤ 9 := by decide +kernel
 obtain ⟨j1, j2⟩ := hj
 have q := h ⟨(j - 1).toNat, by omega⟩
 simp only at q
 rw [show (((j - 1).toNat : Nat) : Int) + 1 = j by omega] at q
 exact q
set_option maxRecDepth 100000 in
set_option maxHeartbeats 3200000 in
theorem made_basic (j k : Int) (hj : Basic j) (hk : Basic k) (w : World) : Calls Tryz.prog 88 #[tyV j 0 ⟨#[]⟩, tyV k 0 ⟨#[]⟩] w fun e w' => e = .returned (pairT j k) ∧ Up w w' := by
 have HJ := Lib.hid hj
 have HK := Lib.hid hk
 have lj := word_len j hj
 have lk := word_len k hk
 unfold pairT keyS
 obtain ⟨tj, htj⟩ : ∃ tj, Hid (wordS j = tj) := ⟨_, rfl⟩
 obtain ⟨tk, htk⟩ : ∃ tk, Hid (wordS k = tk) := ⟨_, rfl⟩
 rw [htj.out] at lj
 rw [htk.out] at lk
 rw [htj.out, htk.out]
 have z1 : ¬ 9223372036854775807 < tj.size + 3 := by omega
 have z2 : ¬ 9223372036854775807 < tj.size + 3 + tk.size := by omega
 clear hj hk
 go_enter Tryz.func88, Tryz.ntmps88
 go_wp2_with fail
 refine range_named fun A1 W1 hA1 hW1 => ?_
 have u1 : Up w W1 := by rw [hW1]; exact uq
 have HB : Hid (W1.heap[w.heap.size]? = some (.cells #[.int .i64 j, .int .i64 0, .string ⟨#[]⟩, .slice none 0 0, .slice none 0 0, .slice none 0 0] 33 (0, 0)) ∧ W1.heap[w.heap.size + 1]? = some (.cells #[.int .i64 k, .int .i64 0, .string ⟨#[]⟩, .slice none 0 0, .slice none 0 0, .slice none 0 0] 33 (0, 0)) ∧ W1.heap[w.heap.size + 1 + 1]? = some (.cells #[.int .i64 0, .int .i64 0, .string ⟨#[]⟩, .slice none 0 0, .slice none 0 0, .slice none 0 0, .int .i64 0, .int .i64 0, .string ⟨#[]⟩, .slice none 0 0, .slice none 0 0, .slice none 0 0, .string ⟨#[]⟩] 157 (0, 0))) := by
   unfold Hid
   rw [hW1]
   exact three (Up.refl _)
 have C1 : Hid (∀ W, Calls Tryz.prog 42 #[.agg #[.int .i64 j, .int .i64 0, .string ⟨#[]⟩, .slice none 0 0, .slice none 0 0, .slice none 0 0]] W fun e w' => e = .returned (.string tj) ∧ Up W w') := fun W => by rw [← htj.out]; exact Text_basic j HJ.out.1 HJ.out.2 W
 have C2 : Hid (∀ W, Calls Tryz.prog 42 #[.agg #[.int .i64 k, .int .i64 0, .string ⟨#[]⟩, .slice none 0 0, .slice none 0 0, .slice none 0 0]] W fun e w' => e = .returned (.string tk) ∧ Up W w') := fun W => by rw [← htk.out]; exact Text_basic k HK.out.1 HK.out.2 W
 clear hW1
 subst hA1
 have uX : Up W1 W1.drew := uq
 have bj := uX.get HB.out.1
 have bk := uX.get HB.out.2.1
 have bz := uX.get HB.out.2.2
 have q0 := cell_of bj 0
 have p0 := cell_of bk 0
 have q1 := cell_of bj 1
 have p1 := cell_of bk 1
 have q2 := cell_of bj 2
 have p2 := cell_of bk 2
 have q3 := cell_of bj 3
 have p3 := cell_of bk 3
 have q4 := cell_of bj 4
 have p4 := cell_of bk 4
 have q5 := cell_of bj 5
 have p5 := cell_of bk 5
 have z0 := cell_of bz 0
 have y0 := ice_of bz 0
 have z1 := cell_of bz 1
 have y1 := ice_of bz 1
 have z2 := cell_of bz 2
 have y2 := ice_of bz 2
 have z3 := cell_of bz 3
 have y3 := ice_of bz 3
 have z4 := cell_of bz 4
 have y4 := ice_of bz 4
 have z5 := cell_of bz 5
 have y5 := ice_of bz 5
 have z6 := cell_of bz 6
 have y6 := ice_of bz 6
 have z7 := cell_of bz 7
 have y7 := ice_of bz 7
 have z8 := cell_of bz 8
 have y8 := ice_of bz 8
 have z9 := cell_of bz 9
 have y9 := ice_of bz 9
 have z10 := cell_of bz 10
 have y10 := ice_of bz 10
 have z11 := cell_of bz 11
 have y11 := ice_of bz 11
 have z12 := cell_of bz 12
 have y12 := ice_of bz 12
 have zl := lt_of_heap bz
 have jl := lt_of_heap bj
 have kl := lt_of_heap bk
 simp only [List.getElem?_toArray, List.getElem?_cons_zero, List.getElem?_cons_succ] at q0 p0 q1 p1 q2 p2 q3 p3 q4 p4 q5 p5 z0 z1 z2 z3 z4 z5 z6 z7 z8 z9 z10 z11 z12
 clear uX bj bk bz
 go_region_held3 (fun W => W.cell? ⟨w.heap.size, 0, none⟩ = some (.int .i64 j) ∧ W.cell? ⟨w.heap.size, 1, none⟩ = some (.int .i64 0) ∧ W.cell? ⟨w.heap.size, 2, none⟩ = some (.string ⟨#[]⟩) ∧ W.cell? ⟨w.heap.size, 3, none⟩ = some (.slice none 0 0) ∧ W.cell? ⟨w.heap.size, 4, none⟩ = some (.slice none 0 0) ∧ W.cell? ⟨w.heap.size, 5, none⟩ = some (.slice none 0 0) ∧ W.cell? ⟨w.heap.size + 1, 0, none⟩ = some (.int .i64 k) ∧ W.cell? ⟨w.heap.size + 1, 1, none⟩ = some (.int .i64 0) ∧ W.cell? ⟨w.heap.size + 1, 2, none⟩ = some (.string ⟨#[]⟩) ∧ W.cell? ⟨w.heap.size + 1, 3, none⟩ = some (.slice none 0 0) ∧ W.cell? ⟨w.heap.size + 1, 4, none⟩ = some (.slice none 0 0) ∧ W.cell? ⟨w.heap.size + 1, 5, none⟩ = some (.slice none 0 0)) (((try dsimp only); (repeat' apply And.intro); all_goals (first | go_keep | (simp (disch := omega) only [cellOther]; assumption)))) (first | (go_at_call 42; with_reducible refine (C1.out _).mono ?_; rintro e w4 ⟨rfl, hu4⟩; have uX : Up W1 w4 := uq; have bj := uX.get HB.out.1; have bk := uX.get HB.out.2.1; have bz := uX.get HB.out.2.2; have q0 := cell_of bj 0; have p0 := cell_of bk 0; have q1 := cell_of bj 1; have p1 := cell_of bk 1; have q2 := cell_of bj 2; have p2 := cell_of bk 2; have q3 := cell_of bj 3; have p3 := cell_of bk 3; have q4 := cell_of bj 4; have p4 := cell_of bk 4; have q5 := cell_of bj 5; have p5 := cell_of bk 5; have z0 := cell_of bz 0; have y0 := ice_of bz 0; have z1 := cell_of bz 1; have y1 := ice_of bz 1; have z2 := cell_of bz 2; have y2 := ice_of bz 2; have z3 := cell_of bz 3; have y3 := ice_of bz 3; have z4 := cell_of bz 4; have y4 := ice_of bz 4; have z5 := cell_of bz 5; have y5 := ice_of bz 5; have z6 := cell_of bz 6; have y6 := ice_of bz 6; have z7 := cell_of bz 7; have y7 := ice_of bz 7; have z8 := cell_of bz 8; have y8 := ice_of bz 8; have z9 := cell_of bz 9; have y9 := ice_of bz 9; have z10 := cell_of bz 10; have y10 := ice_of bz 10; have z11 := cell_of bz 11; have y11 := ice_of bz 11; have z12 := cell_of bz 12; have y12 := ice_of bz 12; have zl := lt_of_heap bz; have jl := lt_of_heap bj; have kl := lt_of_heap bk; simp only [List.getElem?_toArray, List.getElem?_cons_zero, List.getElem?_cons_succ] at q0 p0 q1 p1 q2 p2 q3 p3 q4 p4 q5 p5 z0 z1 z2 z3 z4 z5 z6 z7 z8 z9 z10 z11 z12) | (go_at_call 42; with_reducible refine (C2.out _).mono ?_; rintro e w4 ⟨rfl, hu4⟩; have uX : Up W1 w4 := uq; have bj := uX.get HB.out.1; have bk := uX.get HB.out.2.1; have bz := uX.get HB.out.2.2; have q0 := cell_of bj 0; have p0 := cell_of bk 0; have q1 := cell_of bj 1; have p1 := cell_of bk 1; have q2 := cell_of bj 2; have p2 := cell_of bk 2; have q3 := cell_of bj 3; have p3 := cell_of bk 3; have q4 := cell_of bj 4; have p4 := cell_of bk 4; have q5 := cell_of bj 5; have p5 := cell_of bk 5; have z0 := cell_of bz 0; have y0 := ice_of bz 0; have z1 := cell_of bz 1; have y1 := ice_of bz 1; have z2 := cell_of bz 2; have y2 := ice_of bz 2; have z3 := cell_of bz 3; have y3 := ice_of bz 3; have z4 := cell_of bz 4; have y4 := ice_of bz 4; have z5 := cell_of bz 5; have y5 := ice_of bz 5; have z6 := cell_of bz 6; have y6 := ice_of bz 6; have z7 := cell_of bz 7; have y7 := ice_of bz 7; have z8 := cell_of bz 8; have y8 := ice_of bz 8; have z9 := cell_of bz 9; have y9 := ice_of bz 9; have z10 := cell_of bz 10; have y10 := ice_of bz 10; have z11 := cell_of bz 11; have y11 := ice_of bz 11; have z12 := cell_of bz 12; have y12 := ice_of bz 12; have zl := lt_of_heap bz; have jl := lt_of_heap bj; have kl := lt_of_heap bk; simp only [List.getElem?_toArray, List.getElem?_cons_zero, List.getElem?_cons_succ] at q0 p0 q1 p1 q2 p2 q3 p3 q4 p4 q5 p5 z0 z1 z2 z3 z4 z5 z6 z7 z8 z9 z10 z11 z12))
 all_goals go_wp2_with fail
 all_goals have uw : Up w w4 := u1.trans uX
 all_goals refine bodyPost_ret (v := .agg #[.int .i64 j, .int .i64 0, .string ⟨#[]⟩, .slice none 0 0, .slice none 0 0, .slice none 0 0, .int .i64 k, .int .i64 0, .string ⟨#[]⟩, .slice none 0 0, .slice none 0 0, .slice none 0 0, .string (tj ++ ⟨#[32, 58, 32]⟩ ++ tk)]) (by simp [results, Tryz.results88, go_sem, *]) rfl ?_
 all_goals exact ⟨rfl, uq⟩
abbrev asksT (h kn y al : Bool) (v : Value) : Value := .agg #[.bool h, .bool kn, .bool y, .bool al, v]
theorem known9_any (b : Bool) (w : World) : Calls Tryz.prog 135 #[.bool b] w fun e w' => e = .returned (asksT false true b false (.slice none 0 0)) ∧ Up w w' := by
 go_enter Tryz.func135, Tryz.ntmps135
 go_wp2_with fail
 refine bodyPost_ret (v := asksT false true b false (.slice none 0 0)) (by simp [results, Tryz.results135, go_sem, *]) rfl ?_
 exact ⟨rfl, uq⟩
set_option maxRecDepth 100000 in
set_option maxHeartbeats 1600000 in
theorem base_basic (j k : Int) (hj : Basic j) (hk : Basic k) (w : World) : Calls Tryz.prog 136 #[tyV j 0 ⟨#[]⟩, tyV k 0 ⟨#[]⟩] w fun e w' => e = .returned (.bool (smallK j k)) ∧ Up w w' := by
 obtain ⟨j1, j2⟩ := hj
 obtain ⟨k1, k2⟩ := hk
 have e11 : (j == 11) = false := by simp; omega
 have e12 : (j == 12) = false := by simp; omega
 have e19 : (j == 19) = false := by simp; omega
 have e20 : (j == 20) = false := by simp; omega
 unfold smallK
 rw [e11, e12, e19, e20]
 simp only [Bool.false_and, Bool.or_false, Bool.false_or]
 go_enter Tryz.func136, Tryz.ntmps136
 go_wp2_with fail
 all_goals (go_ret; refine ⟨by simp_all, uq⟩)
theorem Pieces_basic (k : Int) (a : Option Addr) (n c : Nat) (hk : Basic k) (w : World) : Calls Tryz.prog 138 #[tyV k 0 ⟨#[]⟩, .slice a n c] w fun e w' => e = .returned (.tuple #[.slice none 0 0, .int .i64 11]) ∧ Up w w' := by
 obtain ⟨k1, k2⟩ := hk
 have e14 : (k == 14) = false := by simp; omega
 have e17 : (k == 17) = false := by simp; omega
 go_enter Tryz.func138, Tryz.ntmps138
 go_wp2_with fail
 refine bodyPost_ret (v := .tuple #[.slice none 0 0, .int .i64 11]) (by simp [results, Tryz.results138, go_sem]) rfl ?_
 exact ⟨rfl, uq⟩
set_option maxRecDepth 100000 in
set_option maxHeartbeats 3200000 in
theorem Asked_basic (j k : Int) (hj : Basic j) (hk : Basic k) (w : World) : Calls Tryz.prog 89 #[pairT j k, .slice none 0 0] w fun e w' => e = .returned (asksT false true (ansK (decide (j = k)) j k) false (.slice none 0 0)) ∧ Up w w' := by
 have HJ := Lib.hid hj
 have HK := Lib.hid hk
 obtain ⟨j1, j2⟩ := hj
 obtain ⟨k1, k2⟩ := hk
 have e16 : (j == 16) = false := by simp; omega
 have e13 : (j == 13) = false := by simp; omega
 have e15 : (j == 15) = false := by simp; omega
 have g16 : (k == 16) = false := by simp; omega
 obtain ⟨key, hkey⟩ : ∃ key, Hid (keyS j k = key) := ⟨_, rfl⟩
 unfold pairT
 rw [hkey.out]
 go_enter Tryz.func89, Tryz.ntmps89
 go_wp2_with fail
 refine (Same_basic j k HJ.out HK.out _).mono ?_
 rintro e w2 ⟨rfl, hu2⟩
 have HB := Lib.hid (four hu2)
 have uw2 : Up w w2 := uq
 have s0 := (Up.refl w2).get HB.out.2.1
 have b0 := cell_of s0 0; have g0 := ice_of s0 0; have b1 := cell_of s0 1; have g1 := ice_of s0 1; have b2 := cell_of s0 2; have g2 := ice_of s0 2; have b3 := cell_of s0 3; have g3 := ice_of s0 3; have b4 := cell_of s0 4; have g4 := ice_of s0 4; have b9 := lt_of_heap s0; (try simp only [World.size_alloc, List.getElem?_toArray, List.getElem?_cons_zero, List.getElem?_cons_succ] at b0 b1 b2 b3 b4 g0 g1 g2 g3 g4 b9); clear s0
 have bx := (Up.refl w2).get HB.out.2.2.1
 have by' := (Up.refl w2).get HB.out.2.2.2
 have x0 := cell_of bx 0
 have y0 := cell_of by' 0
 have x1 := cell_of bx 1
 have y1 := cell_of by' 1
 have x2 := cell_of bx 2
 have y2 := cell_of by' 2
 have x3 := cell_of bx 3
 have y3 := cell_of by' 3
 have x4 := cell_of bx 4
 have y4 := cell_of by' 4
 have x5 := cell_of bx 5
 have y5 := cell_of by' 5
 have xl := lt_of_heap bx
 have yl := lt_of_heap by'
 simp only [List.getElem?_toArray, List.getElem?_cons_zero, List.getElem?_cons_succ] at x0 y0 x1 y1 x2 y2 x3 y3 x4 y4 x5 y5
 clear bx by'
 have h2 : (decide (j = k) = true) ∨ (decide (j = k) = false ∧ k = 1) ∨ (decide (j = k) = false ∧ ¬ k = 1 ∧ k = 2) ∨ (decide (j = k) = false ∧ ¬ k = 1 ∧ ¬ k = 2) := by
   by_cases e : j = k
   · exact .inl (by simp [e])
   · by_cases e1 : k = 1
     · exact .inr (.inl ⟨by simp [e], e1⟩)
     · by_cases e2 : k = 2
       · exact .inr (.inr (.inl ⟨by simp [e], e1, e2⟩))
       · exact .inr (.inr (.inr ⟨by simp [e], e1, e2⟩))
 rcases h2 with hd | ⟨hd, hk⟩ | ⟨hd, hk1, hk⟩ | ⟨hd, hk1, hk2⟩
 · have hA : Hid (ansK (decide (j = k)) j k = true) := by unfold Hid ansK; rw [if_pos (.inl hd)]
   go_wp2_with (first | (go_at_call 135; refine (known9_any _ _).mono ?_; rintro e w4 ⟨rfl, hu4⟩; have uX : Up w2 w4 := uq; have s0 := (uX).get HB.out.2.1; have b0 := cell_of s0 0; have g0 := ice_of s0 0; have b1 := cell_of s0 1; have g1 := ice_of s0 1; have b2 := cell_of s0 2; have g2 := ice_of s0 2; have b3 := cell_of s0 3; have g3 := ice_of s0 3; have b4 := cell_of s0 4; have g4 := ice_of s0 4; have b9 := lt_of_heap s0; (try simp only [World.size_alloc, List.getElem?_toArray, List.getElem?_cons_zero, List.getElem?_cons_succ] at b0 b1 b2 b3 b4 g0 g1 g2 g3 g4 b9); clear s0))
   all_goals refine bodyPost_ret (v := asksT false true true false (.slice none 0 0)) (by simp [results, Tryz.results89, go_sem, *]) rfl ?_
   all_goals exact ⟨by rw [hA.out], uq⟩
 · have hA : Hid (ansK (decide (j = k)) j k = true) := by unfold Hid ansK; rw [if_pos (.inr (.inl hk))]
   go_wp2_with (first | (go_at_call 135; refine (known9_any _ _).mono ?_; rintro e w4 ⟨rfl, hu4⟩; have uX : Up w2 w4 := uq; have s0 := (uX).get HB.out.2.1; have b0 := cell_of s0 0; have g0 := ice_of s0 0; have b1 := cell_of s0 1; have g1 := ice_of s0 1; have b2 := cell_of s0 2; have g2 := ice_of s0 2; have b3 := cell_of s0 3; have g3 := ice_of s0 3; have b4 := cell_of s0 4; have g4 := ice_of s0 4; have b9 := lt_of_heap s0; (try simp only [World.size_alloc, List.getElem?_toArray, List.getElem?_cons_zero, List.getElem?_cons_succ] at b0 b1 b2 b3 b4 g0 g1 g2 g3 g4 b9); clear s0))
   all_goals refine bodyPost_ret (v := asksT false true true false (.slice none 0 0)) (by simp [results, Tryz.results89, go_sem, *]) rfl ?_
   all_goals exact ⟨by rw [hA.out], uq⟩
 · have hA : Hid (ansK (decide (j = k)) j k = true) := by unfold Hid ansK; rw [if_pos (.inr (.inr hk))]
   go_wp2_with (first | (go_at_call 135; refine (known9_any _ _).mono ?_; rintro e w4 ⟨rfl, hu4⟩; have uX : Up w2 w4 := uq; have s0 := (uX).get HB.out.2.1; have b0 := cell_of s0 0; have g0 := ice_of s0 0; have b1 := cell_of s0 1; have g1 := ice_of s0 1; have b2 := cell_of s0 2; have g2 := ice_of s0 2; have b3 := cell_of s0 3; have g3 := ice_of s0 3; have b4 := cell_of s0 4; have g4 := ice_of s0 4; have b9 := lt_of_heap s0; (try simp only [World.size_alloc, List.getElem?_toArray, List.getElem?_cons_zero, List.getElem?_cons_succ] at b0 b1 b2 b3 b4 g0 g1 g2 g3 g4 b9); clear s0))
   all_goals refine bodyPost_ret (v := asksT false true true false (.slice none 0 0)) (by simp [results, Tryz.results89, go_sem, *]) rfl ?_
   all_goals exact ⟨by rw [hA.out], uq⟩
 · have hA : Hid (ansK (decide (j = k)) j k = if j = 1 then k != 3 else if j = 3 then true else if j = 2 then false else smallK j k) := by unfold Hid ansK; rw [if_neg (by rw [hd]; simp; omega)]
   have kb1 : (k == 1) = false := by simp [hk1]
   have kb2 : (k == 2) = false := by simp [hk2]
   have h3 : j = 1 ∨ (¬ j = 1 ∧ j = 3) ∨ (¬ j = 1 ∧ ¬ j = 3 ∧ j = 2) ∨ (¬ j = 1 ∧ ¬ j = 3 ∧ ¬ j = 2) := by omega
   rcases h3 with hj | ⟨hj1, hj⟩ | ⟨hj1, hj3, hj⟩ | ⟨hj1, hj3, hj2⟩
   · have hB : Hid (ansK (decide (j = k)) j k = (k != 3)) := by unfold Hid; rw [hA.out, if_pos hj]
     subst hj
     go_wp2_with (first | (go_at_call 135; refine (known9_any _ _).mono ?_; rintro e w4 ⟨rfl, hu4⟩; have uX : Up w2 w4 := uq; have s0 := (uX).get HB.out.2.1; have b0 := cell_of s0 0; have g0 := ice_of s0 0; have b1 := cell_of s0 1; have g1 := ice_of s0 1; have b2 := cell_of s0 2; have g2 := ice_of s0 2; have b3 := cell_of s0 3; have g3 := ice_of s0 3; have b4 := cell_of s0 4; have g4 := ice_of s0 4; have b9 := lt_of_heap s0; (try simp only [World.size_alloc, List.getElem?_toArray, List.getElem?_cons_zero, List.getElem?_cons_succ] at b0 b1 b2 b3 b4 g0 g1 g2 g3 g4 b9); clear s0))
     all_goals refine bodyPost_ret (v := asksT false true (k != 3) false (.slice none 0 0)) (by simp [results, Tryz.results89, go_sem, *]) rfl ?_
     all_goals exact ⟨by rw [hB.out], uq⟩
   · have hB : Hid (ansK (decide (j = k)) j k = true) := by unfold Hid; rw [hA.out, if_neg hj1, if_pos hj]
     subst hj
     go_wp2_with (first | (go_at_call 135; refine (known9_any _ _).mono ?_; rintro e w4 ⟨rfl, hu4⟩; have uX : Up w2 w4 := uq; have s0 := (uX).get HB.out.2.1; have b0 := cell_of s0 0; have g0 := ice_of s0 0; have b1 := cell_of s0 1; have g1 := ice_of s0 1; have b2 := cell_of s0 2; have g2 := ice_of s0 2; have b3 := cell_of s0 3; have g3 := ice_of s0 3; have b4 := cell_of s0 4; have g4 := ice_of s0 4; have b9 := lt_of_heap s0; (try simp only [World.size_alloc, List.getElem?_toArray, List.getElem?_cons_zero, List.getElem?_cons_succ] at b0 b1 b2 b3 b4 g0 g1 g2 g3 g4 b9); clear s0))
     all_goals refine bodyPost_ret (v := asksT false true true false (.slice none 0 0)) (by simp [results, Tryz.results89, go_sem, *]) rfl ?_
     all_goals exact ⟨by rw [hB.out], uq⟩
   · have hB : Hid (ansK (decide (j = k)) j k = false) := by unfold Hid; rw [hA.out, if_neg hj1, if_neg hj3, if_pos hj]
     subst hj
     go_wp2_with (first | (go_at_call 135; refine (known9_any _ _).mono ?_; rintro e w4 ⟨rfl, hu4⟩; have uX : Up w2 w4 := uq; have s0 := (uX).get HB.out.2.1; have b0 := cell_of s0 0; have g0 := ice_of s0 0; have b1 := cell_of s0 1; have g1 := ice_of s0 1; have b2 := cell_of s0 2; have g2 := ice_of s0 2; have b3 := cell_of s0 3; have g3 := ice_of s0 3; have b4 := cell_of s0 4; have g4 := ice_of s0 4; have b9 := lt_of_heap s0; (try simp only [World.size_alloc, List.getElem?_toArray, List.getElem?_cons_zero, List.getElem?_cons_succ] at b0 b1 b2 b3 b4 g0 g1 g2 g3 g4 b9); clear s0))
     all_goals refine bodyPost_ret (v := asksT false true false false (.slice none 0 0)) (by simp [results, Tryz.results89, go_sem, *]) rfl ?_
     all_goals exact ⟨by rw [hB.out], uq⟩
   · have hB : Hid (ansK (decide (j = k)) j k = smallK j k) := by unfold Hid; rw [hA.out, if_neg hj1, if_neg hj3, if_neg hj2]
     have jb1 : (j == 1) = false := by simp [hj1]
     have jb2 : (j == 2) = false := by simp [hj2]
     have jb3 : (j == 3) = false := by simp [hj3]
     clear hA
     go_wp2_with fail
     refine (base_basic j k HJ.out HK.out _).mono ?_
     rintro e w4 ⟨rfl, hu4⟩
     cases hs : smallK j k
     all_goals rw [hs] at hB
     · have uX : Up w2 w4 := uq; have s0 := (uX).get HB.out.2.1; have b0 := cell_of s0 0; have g0 := ice_of s0 0; have b1 := cell_of s0 1; have g1 := ice_of s0 1; have b2 := cell_of s0 2; have g2 := ice_of s0 2; have b3 := cell_of s0 3; have g3 := ice_of s0 3; have b4 := cell_of s0 4; have g4 := ice_of s0 4; have b9 := lt_of_heap s0; (try simp only [World.size_alloc, List.getElem?_toArray, List.getElem?_cons_zero, List.getElem?_cons_succ] at b0 b1 b2 b3 b4 g0 g1 g2 g3 g4 b9); clear s0; have bx := (uX).get HB.out.2.2.1; have by' := (uX).get HB.out.2.2.2; have x0 := cell_of bx 0; have y0 := cell_of by' 0; have x1 := cell_of bx 1; have y1 := cell_of by' 1; have x2 := cell_of bx 2; have y2 := cell_of by' 2; have x3 := cell_of bx 3; have y3 := cell_of by' 3; have x4 := cell_of bx 4; have y4 := cell_of by' 4; have x5 := cell_of bx 5; have y5 := cell_of by' 5; have xl := lt_of_heap bx; have yl := lt_of_heap by'; simp only [List.getElem?_toArray, List.getElem?_cons_zero, List.getElem?_cons_succ] at x0 y0 x1 y1 x2 y2 x3 y3 x4 y4 x5 y5; clear bx by'
       go_wp2_with fail
       refine (Pieces_basic j _ _ _ HJ.out _).mono ?_
       rintro e w5 ⟨rfl, hu5⟩
       have uX : Up w2 w5 := uq; have s0 := (uX).get HB.out.2.1; have b0 := cell_of s0 0; have g0 := ice_of s0 0; have b1 := cell_of s0 1; have g1 := ice_of s0 1; have b2 := cell_of s0 2; have g2 := ice_of s0 2; have b3 := cell_of s0 3; have g3 := ice_of s0 3; have b4 := cell_of s0 4; have g4 := ice_of s0 4; have b9 := lt_of_heap s0; (try simp only [World.size_alloc, List.getElem?_toArray, List.getElem?_cons_zero, List.getElem?_cons_succ] at b0 b1 b2 b3 b4 g0 g1 g2 g3 g4 b9); clear s0; have bx := (uX).get HB.out.2.2.1; have by' := (uX).get HB.out.2.2.2; have x0 := cell_of bx 0; have y0 := cell_of by' 0; have x1 := cell_of bx 1; have y1 := cell_of by' 1; have x2 := cell_of bx 2; have y2 := cell_of by' 2; have x3 := cell_of bx 3; have y3 := cell_of by' 3; have x4 := cell_of bx 4; have y4 := cell_of by' 4; have x5 := cell_of bx 5; have y5 := cell_of by' 5; have xl := lt_of_heap bx; have yl := lt_of_heap by'; simp only [List.getElem?_toArray, List.getElem?_cons_zero, List.getElem?_cons_succ] at x0 y0 x1 y1 x2 y2 x3 y3 x4 y4 x5 y5; clear bx by'
       go_wp2_with fail
       refine (Pieces_basic k _ _ _ HK.out _).mono ?_
       rintro e w6 ⟨rfl, hu6⟩
       have uX : Up w2 w6 := uq; have s0 := (uX).get HB.out.2.1; have b0 := cell_of s0 0; have g0 := ice_of s0 0; have b1 := cell_of s0 1; have g1 := ice_of s0 1; have b2 := cell_of s0 2; have g2 := ice_of s0 2; have b3 := cell_of s0 3; have g3 := ice_of s0 3; have b4 := cell_of s0 4; have g4 := ice_of s0 4; have b9 := lt_of_heap s0; (try simp only [World.size_alloc, List.getElem?_toArray, List.getElem?_cons_zero, List.getElem?_cons_succ] at b0 b1 b2 b3 b4 g0 g1 g2 g3 g4 b9); clear s0; have bx := (uX).get HB.out.2.2.1; have by' := (uX).get HB.out.2.2.2; have x0 := cell_of bx 0; have y0 := cell_of by' 0; have x1 := cell_of bx 1; have y1 := cell_of by' 1; have x2 := cell_of bx 2; have y2 := cell_of by' 2; have x3 := cell_of bx 3; have y3 := cell_of by' 3; have x4 := cell_of bx 4; have y4 := cell_of by' 4; have x5 := cell_of bx 5; have y5 := cell_of by' 5; have xl := lt_of_heap bx; have yl := lt_of_heap by'; simp only [List.getElem?_toArray, List.getElem?_cons_zero, List.getElem?_cons_succ] at x0 y0 x1 y1 x2 y2 x3 y3 x4 y4 x5 y5; clear bx by'
       go_wp2_with (first | (go_at_call 135; refine (known9_any _ _).mono ?_; rintro e w4 ⟨rfl, hu4⟩; have uX : Up w2 w4 := uq; have s0 := (uX).get HB.out.2.1; have b0 := cell_of s0 0; have g0 := ice_of s0 0; have b1 := cell_of s0 1; have g1 := ice_of s0 1; have b2 := cell_of s0 2; have g2 := ice_of s0 2; have b3 := cell_of s0 3; have g3 := ice_of s0 3; have b4 := cell_of s0 4; have g4 := ice_of s0 4; have b9 := lt_of_heap s0; (try simp only [World.size_alloc, List.getElem?_toArray, List.getElem?_cons_zero, List.getElem?_cons_succ] at b0 b1 b2 b3 b4 g0 g1 g2 g3 g4 b9); clear s0))
       all_goals refine bodyPost_ret (v := asksT false true false false (.slice none 0 0)) (by simp [results, Tryz.results89, go_sem, *]) rfl ?_
       all_goals exact ⟨by rw [hB.out], uq⟩
     · have uX : Up w2 w4 := uq; have s0 := (uX).get HB.out.2.1; have b0 := cell_of s0 0; have g0 := ice_of s0 0; have b1 := cell_of s0 1; have g1 := ice_of s0 1; have b2 := cell_of s0 2; have g2 := ice_of s0 2; have b3 := cell_of s0 3; have g3 := ice_of s0 3; have b4 := cell_of s0 4; have g4 := ice_of s0 4; have b9 := lt_of_heap s0; (try simp only [World.size_alloc, List.getElem?_toArray, List.getElem?_cons_zero, List.getElem?_cons_succ] at b0 b1 b2 b3 b4 g0 g1 g2 g3 g4 b9); clear s0
       go_wp2_with (first | (go_at_call 135; refine (known9_any _ _).mono ?_; rintro e w4 ⟨rfl, hu4⟩; have uX : Up w2 w4 := uq; have s0 := (uX).get HB.out.2.1; have b0 := cell_of s0 0; have g0 := ice_of s0 0; have b1 := cell_of s0 1; have g1 := ice_of s0 1; have b2 := cell_of s0 2; have g2 := ice_of s0 2; have b3 := cell_of s0 3; have g3 := ice_of s0 3; have b4 := cell_of s0 4; have g4 := ice_of s0 4; have b9 := lt_of_heap s0; (try simp only [World.size_alloc, List.getElem?_toArray, List.getElem?_cons_zero, List.getElem?_cons_succ] at b0 b1 b2 b3 b4 g0 g1 g2 g3 g4 b9); clear s0))
       all_goals refine bodyPost_ret (v := asksT false true true false (.slice none 0 0)) (by simp [results, Tryz.results89, go_sem, *]) rfl ?_
       all_goals exact ⟨by rw [hB.out], uq⟩
set_option linter.unusedVariables false
def AskAt (w : World) (q : Nat) (b : Bool) : Prop := q < w.heap.size ∧ w.cell? ⟨q, 0, none⟩ = some (.bool false) ∧ w.cell? ⟨q, 1, none⟩ = some (.bool true) ∧ w.cell? ⟨q, 2, none⟩ = some (.bool b) ∧ w.cell? ⟨q, 3, none⟩ = some (.bool false) ∧ w.cell? ⟨q, 4, none⟩ = some (.slice none 0 0)
theorem AskAt.up {w w' : World} {q : Nat} {b : Bool} (h : AskAt w q b) (k : Up w w') : AskAt w' q b :=
 ⟨Nat.lt_of_lt_of_le h.1 k.size, (k.cells _ _ h.1).trans h.2.1, (k.cells _ _ h.1).trans h.2.2.1, (k.cells _ _ h.1).trans h.2.2.2.1, (k.cells _ _ h.1).trans h.2.2.2.2.1, (k.cells _ _ h.1).trans h.2.2.2.2.2⟩
theorem AskAt.of {w : World} {q : Nat} {b : Bool} {z : Array Value} {T : TypeId} {f : Nat × Nat} (h : w.heap[q]? = some (.cells (#[.bool false, .bool true, .bool b, .bool false, .slice none 0 0] ++ z) T f)) : AskAt w q b := by
 refine ⟨lt_of_heap h, ?_, ?_, ?_, ?_, ?_⟩
 all_goals (rw [cell_of h, Array.getElem?_append_left (by simp)]; rfl)
set_option maxRecDepth 100000 in
set_option maxHeartbeats 3200000 in
theorem Reached_basic (j k : Int) (hj : Basic j) (hk : Basic k) (w : World) : Calls Tryz.prog 50 #[tyV j 0 ⟨#[]⟩, tyV k 0 ⟨#[]⟩, .slice none 0 0, .int .i64 2000] w fun e w' => ∃ pl q c, e = .returned (.tuple #[.slice (some ⟨pl, 0, none⟩) 1 1, .slice (some ⟨q, 0, none⟩) 1 c]) ∧ AskAt w' q (ansK (decide (j = k)) j k) ∧ Up w w' := by
 have HJ := Lib.hid hj
 have HK := Lib.hid hk
 clear hj hk
 go_enter Tryz.func50, Tryz.ntmps50
 go_wp2_with (first | (go_at_call 88; refine (made_basic j k HJ.out HK.out _).mono ?_; rintro e w2 ⟨rfl, hu2⟩))
 refine range_named fun A3 W3 hA3 hW3 => ?_
 have hp : Hid (W3.heap[w2.heap.size]? = some (.cells #[.int .i64 j, .int .i64 0, .string ⟨#[]⟩, .slice none 0 0, .slice none 0 0, .slice none 0 0, .int .i64 k, .int .i64 0, .string ⟨#[]⟩, .slice none 0 0, .slice none 0 0, .slice none 0 0, .string (keyS j k)] 157 (0, 0))) := by subst hW3; exact alloc_get _ _
 have hu3 : Hid (Up w W3) := by subst hW3; exact uq
 clear hW3
 subst hA3
 go_loopw [10, 11, 12] (fun l v i wr => (l = .slice (some ⟨w2.heap.size, 0, none⟩) 1 1) ∧ ((i = .int .i64 0 ∧ v = .slice none 0 0 ∧ Up W3 wr) ∨ (i = .int .i64 1 ∧ (∃ q c, v = .slice (some ⟨q, 0, none⟩) 1 c ∧ AskAt wr q (ansK (decide (j = k)) j k)) ∧ Up W3 wr))) (fun _ _ i _ => 1 - (intOf i).toNat)
 case atStart => exact ⟨rfl, .inl ⟨rfl, rfl, uq⟩⟩
 case round =>
   rcases hrel with ⟨rfl, ⟨rfl, rfl, hup⟩ | ⟨rfl, ⟨q, c, rfl, hq⟩, hup⟩⟩
   · have s := hup.get hp.out
     have c0 := cell_of s 0; have cf0 := ice_of s 0; have c1 := cell_of s 1; have cf1 := ice_of s 1; have c2 := cell_of s 2; have cf2 := ice_of s 2; have c3 := cell_of s 3; have cf3 := ice_of s 3; have c4 := cell_of s 4; have cf4 := ice_of s 4; have c5 := cell_of s 5; have cf5 := ice_of s 5; have c6 := cell_of s 6; have cf6 := ice_of s 6; have c7 := cell_of s 7; have cf7 := ice_of s 7; have c8 := cell_of s 8; have cf8 := ice_of s 8; have c9 := cell_of s 9; have cf9 := ice_of s 9; have c10 := cell_of s 10; have cf10 := ice_of s 10; have c11 := cell_of s 11; have cf11 := ice_of s 11; have c12 := cell_of s 12; have cf12 := ice_of s 12; have cl := lt_of_heap s; (try simp only [World.size_alloc, List.getElem?_toArray, List.getElem?_cons_zero, List.getElem?_cons_succ] at c0 cf0 c1 cf1 c2 cf2 c3 cf3 c4 cf4 c5 cf5 c6 cf6 c7 cf7 c8 cf8 c9 cf9 c10 cf10 c11 cf11 c12 cf12 cl); clear s
     go_wp2_with (first | (go_at_call 89; refine (Asked_basic j k HJ.out HK.out _).mono ?_; rintro e w4 ⟨rfl, hu4⟩))
     refine range_named fun A5 W5 hA5 hW5 => ?_
     have hb5 : Hid (W5.heap[w4.heap.size]? = some (.cells #[.bool false, .bool true, .bool (ansK (decide (j = k)) j k), .bool false, .slice none 0 0] 112 (0, 0))) := by
       subst hW5
       exact (show Up (w4.alloc _) _ from uq).get (alloc_get _ _)
     have hq5 : Hid (AskAt W5 (w4.heap.size + 1 + 1) (ansK (decide (j = k)) j k)) := by
       subst hW5
       exact AskAt.of ((show Up (((w4.alloc _).alloc _).alloc _) _ from uq).get (alloc_at _ _ _ (by simp only [World.size_alloc])))
     have hu5 : Hid (Up W3 W5) := by subst hW5; exact uq
     clear hW5
     subst hA5
     go_loopw [10, 14] (fun l i wr => l = .slice (some ⟨w2.heap.size, 0, none⟩) 1 1 ∧ i = .int .i64 0 ∧ Up W5 wr) (fun _ _ _ => 0)
     case atStart => exact ⟨rfl, rfl, Up.refl _⟩
     case round =>
       obtain ⟨rfl, rfl, hup⟩ := hrel
       have s := hup.get hb5.out
       have b0 := cell_of s 0; have g0 := ice_of s 0; have b1 := cell_of s 1; have g1 := ice_of s 1; have b2 := cell_of s 2; have g2 := ice_of s 2; have b3 := cell_of s 3; have g3 := ice_of s 3; have b4 := cell_of s 4; have g4 := ice_of s 4; have b9 := lt_of_heap s; (try simp only [World.size_alloc, List.getElem?_toArray, List.getElem?_cons_zero, List.getElem?_cons_succ] at b0 b1 b2 b3 b4 g0 g1 g2 g3 g4 b9); clear s
       go_wp2_with fail
       exact ⟨⟨rfl, .inr ⟨rfl, ⟨_, _, rfl, hq5.out.up (show Up W5 _ from uq)⟩, hu5.out.trans (show Up W5 _ from uq)⟩⟩, by simp [intOf]⟩
   · have hq := Lib.hid hq
     go_wp2_with fail
     refine bodyPost_ret (v := .tuple #[.slice (some ⟨w2.heap.size, 0, none⟩) 1 1, .slice (some ⟨q, 0, none⟩) 1 c]) (by simp [results, Tryz.results50, go_sem, *]) rfl ?_
     exact ⟨_, q, c, rfl, hq.out.up (show Up wr _ from uq), hu3.out.trans (show Up W3 _ from uq)⟩
set_option maxRecDepth 100000 in
theorem holds_known (b : Bool) (lv sv : Value) (w : World) : Calls Tryz.prog 51 #[asksT false true b false (.slice none 0 0), lv, sv] w fun e w' => e = .returned (.bool b) ∧ Up w w' := by
 go_enter Tryz.func51, Tryz.ntmps51
 go_wp2_with fail
 all_goals go_ret
 all_goals exact ⟨rfl, uq⟩
def vN : Option Value → Nat
 | some (.bool true) => 2
 | _ => 0
def boolN : Value → Nat
 | .bool true => 1
 | _ => 0
theorem make_one (w : World) : (Instr.makeSlice 31 (.int .i64 1) (.int .i64 1)).run Tryz.prog w = .ok (.slice (some ⟨w.heap.size, 0, none⟩) 1 1) (w.alloc (.cells #[.bool false] BooT)) := by
 have h := run_make_row' 31 BooT (.bool false) 1 Tryz.underlying31 bool_info rfl .i64 .i64 1 (by decide) (by decide) w
 have e : madeCells #[Value.bool false] 1 = #[Value.bool false] := by
   apply Array.ext
   · simp [size_madeCells]
   · intro i h1 h2
     have h0 : i = 0 := by simpa using h2
     subst h0
     simp [madeCells]
 rw [e] at h
 exact h
attribute [local go_sem] make_one
set_option maxRecDepth 100000 in
set_option maxHeartbeats 3200000 in
theorem Assignable_basic (j k : Int) (hj : Basic j) (hk : Basic k) (w : World) : Calls Tryz.prog 18 #[tyV j 0 ⟨#[]⟩, tyV k 0 ⟨#[]⟩, .slice none 0 0] w fun e w' => e = .returned (.tuple #[.bool (ansK (decide (j = k)) j k), .int .i64 0]) ∧ Up w w' := by
 have HJ := Lib.hid hj
 have HK := Lib.hid hk
 obtain ⟨b, hb⟩ : ∃ b, Hid (ansK (decide (j = k)) j k = b) := ⟨_, rfl⟩
 rw [hb.out]
 clear hj hk
 go_enter Tryz.func18, Tryz.ntmps18
 go_wp2_with (first | (go_at_call 50; refine (Reached_basic j k HJ.out HK.out _).mono ?_; rintro e w2 ⟨pl, q, c, rfl, hq, hu2⟩; rw [hb.out] at hq; have HQ := Lib.hid hq; clear hq))
 refine range_named fun A3 W3 hA3 hW3 => ?_
 have hb3 : Hid (W3.heap[w2.heap.size]? = some (.cells #[.bool false] BooT (0, 0))) := by subst hW3; exact alloc_get _ _
 have hu3 : Hid (Up w2 W3) := by subst hW3; exact uq
 have hw3 : Hid (w.heap.size ≤ w2.heap.size) := (show Up w w2 from uq).size
 have hu3w : Hid (Up w W3) := by subst hW3; exact uq
 clear hW3
 subst hA3
 have HS := Lib.hid (fun (W : World) (h : Up w2 W) => HQ.out.up h)
 go_loopw [11] (fun i wr => ((i = .int .i64 0 ∧ wr.heap[w2.heap.size]? = some (.cells #[.bool false] BooT (0, 0))) ∨ (i = .int .i64 1 ∧ wr.heap[w2.heap.size]? = some (.cells #[.bool true] BooT (0, 0)))) ∧ Up w2 wr) (fun i _ => 1 - (intOf i).toNat)
 case atStart => exact ⟨.inl ⟨rfl, hb3.out⟩, hu3.out⟩
 case round =>
   obtain ⟨⟨rfl, hs⟩ | ⟨rfl, hs⟩, hup⟩ := hrel
   · obtain ⟨l1, q0, q1, q2, q3, q4⟩ := HS.out _ hup
     have c0 := cell_of hs 0
     have f0 := ice_of hs 0
     have cl := lt_of_heap hs
     simp only [List.getElem?_toArray, List.getElem?_cons_zero, List.getElem?_cons_succ] at c0
     have hset := setCell_block (i := 0) hs (.bool true)
     go_wp2_with fail
     exact ⟨⟨.inr ⟨rfl, hset⟩, uq⟩, by simp [intOf]⟩
   · have hs := Lib.hid hs
     have hup0 := Lib.hid hup
     go_wp2_with fail
     go_loopw [12, 13] (fun t i wr => (∃ t' v : Bool, t = .bool t' ∧ wr.heap[w2.heap.size]? = some (.cells #[.bool v] BooT (0, 0)) ∧ ((t' = true ∧ v = true) ∨ (t' = true ∧ v = false ∧ b = false) ∨ (t' = false ∧ v = b))) ∧ Up w2 wr) (fun t _ wr => vN (wr.cell? ⟨w2.heap.size, 0, none⟩) + boolN t)
     case atStart => exact ⟨⟨true, true, rfl, hs.out, .inl ⟨rfl, rfl⟩⟩, hup0.out⟩
     case round =>
       obtain ⟨⟨t', v, rfl, hs, hc⟩, hup⟩ := hrel
       have hs0 := Lib.hid hs
       have hs := hs0
       have hup0 := Lib.hid hup
       rcases hc with ⟨rfl, rfl⟩ | ⟨rfl, rfl, hbf⟩ | ⟨rfl, rfl⟩
       · go_wp2_with fail
         go_loopw [12, 13] (fun t i w5 => (∃ t' v : Bool, t = .bool t' ∧ w5.heap[w2.heap.size]? = some (.cells #[.bool v] BooT (0, 0)) ∧ ((i = .int .i64 0 ∧ t' = false ∧ v = true) ∨ (i = .int .i64 1 ∧ t' = !b ∧ v = b))) ∧ Up w2 w5) (fun _ i _ => 1 - (intOf i).toNat)
         case atStart => exact ⟨⟨false, true, rfl, hs.out, .inl ⟨rfl, rfl, rfl⟩⟩, hup0.out⟩
         case round =>
           obtain ⟨⟨t', v, rfl, hs, hc⟩, hup⟩ := hrel
           rcases hc with ⟨rfl, rfl, rfl⟩ | ⟨rfl, rfl, rfl⟩
           · obtain ⟨l1, q0, q1, q2, q3, q4⟩ := HS.out _ hup
             have c0 := cell_of hs 0
             have f0 := ice_of hs 0
             have cl := lt_of_heap hs
             simp only [List.getElem?_toArray, List.getElem?_cons_zero, List.getElem?_cons_succ] at c0
             have hset := fun (W : World) (h : Up wr W) => setCell_block (i := 0) (h.get hs) (.bool false)
             cases b
             · go_wp2_with (first | (go_at_call 51; refine (holds_known false _ _ _).mono ?_; rintro e w6 ⟨rfl, hu6⟩; have uX : Up wr w6 := uq; have hs6 := uX.get hs; have c0 := cell_of hs6 0; have f0 := ice_of hs6 0; have cl := lt_of_heap hs6; simp only [List.getElem?_toArray, List.getElem?_cons_zero, List.getElem?_cons_succ] at c0))
               exact ⟨⟨⟨true, false, rfl, hset _ uq, .inr ⟨rfl, rfl, rfl⟩⟩, uq⟩, by simp [intOf]⟩
             · go_wp2_with (first | (go_at_call 51; refine (holds_known true _ _ _).mono ?_; rintro e w6 ⟨rfl, hu6⟩; have uX : Up wr w6 := uq; have hs6 := uX.get hs))
               exact ⟨⟨⟨false, true, rfl, hs6, .inr ⟨rfl, rfl, rfl⟩⟩, uq⟩, by simp [intOf]⟩
           · have hsx := Lib.hid hs
             have hupx := Lib.hid hup
             go_wp2_with fail
             go_roundw
             case rel =>
               refine ⟨⟨!v, v, rfl, hsx.out, ?_⟩, hupx.out⟩
               cases v
               · exact .inr (.inl ⟨rfl, rfl, rfl⟩)
               · exact .inr (.inr ⟨rfl, rfl⟩)
             case measure =>
               rw [cell_of hsx.out, cell_of hs0.out]
               cases v <;> simp [vN, boolN]
       · subst hbf
         go_wp2_with fail
         go_loopw [12, 13] (fun t i w5 => t = .bool false ∧ w5.heap[w2.heap.size]? = some (.cells #[.bool false] BooT (0, 0)) ∧ (i = .int .i64 0 ∨ i = .int .i64 1) ∧ Up w2 w5) (fun _ i _ => 1 - (intOf i).toNat)
         case atStart => exact ⟨rfl, hs.out, .inl rfl, hup0.out⟩
         case round =>
           obtain ⟨rfl, hs, hi, hup⟩ := hrel
           rcases hi with rfl | rfl
           · have c0 := cell_of hs 0
             have f0 := ice_of hs 0
             have cl := lt_of_heap hs
             simp only [List.getElem?_toArray, List.getElem?_cons_zero, List.getElem?_cons_succ] at c0
             go_wp2_with fail
             exact ⟨⟨rfl, hs, .inr rfl, uq⟩, by simp [intOf]⟩
           · have hsx := Lib.hid hs
             have hupx := Lib.hid hup
             go_wp2_with fail
             go_roundw
             case rel => exact ⟨⟨false, false, rfl, hsx.out, .inr (.inr ⟨rfl, rfl⟩)⟩, hupx.out⟩
             case measure =>
               rw [cell_of hsx.out, cell_of hs0.out]
               simp [vN, boolN]
       · have c0 := cell_of hs.out 0
         have cl := lt_of_heap hs.out
         simp only [List.getElem?_toArray, List.getElem?_cons_zero, List.getElem?_cons_succ] at c0
         go_wp2_with fail
         refine bodyPost_ret (v := .tuple #[.bool v, .int .i64 0]) (by simp [results, Tryz.results18, go_sem, *]) rfl ?_
         exact ⟨rfl, (show Up w w2 from uq).trans (hup0.out.trans (show Up wr _ from uq))⟩
end Go.Proofs.YtiaepldmgighbaaGreatDoor
namespace Go.Proofs.YtiaepldmgighbaaGreatDoor
open Go.RowKit
set_option linter.unusedSimpArgs false
set_option maxRecDepth 100000 in
set_option maxHeartbeats 3200000 in
theorem Assignable_nil (x y : Int) (w : World) : Calls Tryz.prog 16 #[.pointer none, .int .i64 x, .int .i64 y] w fun e w' => e = .returned (.tuple #[.bool false, .int .i64 1]) ∧ Up w w' := by
 go_enter Tryz.func16, Tryz.ntmps16
 go_wp2_with fail
 refine wp_scope_straight ?_
 go_wp2_with fail
 rw [Exit.noGoto_ret]
 refine bodyPost_ret (v := .tuple #[.bool false, .int .i64 1]) (by simp [results, Tryz.results16, go_sem]) rfl ?_
 exact ⟨rfl, uq⟩
set_option maxRecDepth 100000 in
set_option maxHeartbeats 3200000 in
theorem Assignable_none (A N : Nat) (x y : Int) (w : World) (hh : HeadIs w A N) (hN : N ≤ 1000000) (hxy : ¬ (0 ≤ x ∧ x < N ∧ 0 ≤ y ∧ y < N)) : Calls Tryz.prog 16 #[.pointer (some ⟨A, 0, none⟩), .int .i64 x, .int .i64 y] w fun e w' => e = .returned (.tuple #[.bool false, .int .i64 11]) ∧ Up w w' := by
 have HL := Lib.hid (head_len hh hN).2
 clear hh
 have hc : x < 0 ∨ (¬ x < 0 ∧ (N : Int) ≤ x) ∨ (¬ x < 0 ∧ ¬ (N : Int) ≤ x ∧ y < 0) ∨ (¬ x < 0 ∧ ¬ (N : Int) ≤ x ∧ ¬ y < 0 ∧ (N : Int) ≤ y) := by omega
 clear hxy
 rcases hc with h1 | ⟨h1, h2⟩ | ⟨h1, h2, h3⟩ | ⟨h1, h2, h3, h4⟩
 all_goals (
   go_enter Tryz.func16, Tryz.ntmps16
   go_wp2_with fail
   refine wp_scope_straight ?_
   go_wp2_with (first | (go_at_call 45; refine (HL.out _ (.up uq fun b hb => hb)).mono ?_; rintro e w2 ⟨rfl, hu2⟩; have u2 : Up ((w.alloc (.cells #[.bool false] BoT)).alloc (.cells #[.int .i64 0] ErT)) w2 := uq; have zb := u2.get ((alloc_old _ _ _ (by simp)).trans (alloc_get w (.cells #[.bool false] BoT))); have ze := u2.get (alloc_at (w.alloc (.cells #[.bool false] BoT)) (.cells #[.int .i64 0] ErT) (w.heap.size + 1) (by simp)); have z0 := cell_of zb 0; have z1 := ice_of zb 0; have z2 := lt_of_heap zb; have z3 := cell_of ze 0; have z4 := ice_of ze 0; have z5 := lt_of_heap ze; simp only [List.getElem?_toArray, List.getElem?_cons_zero] at z0 z3))
   rw [Exit.noGoto_ret]
   refine bodyPost_ret (v := .tuple #[.bool false, .int .i64 11]) (by simp [results, Tryz.results16, go_sem, *]) rfl ?_
   exact ⟨rfl, uq⟩)
set_option linter.unusedVariables false
set_option maxRecDepth 100000 in
set_option maxHeartbeats 3200000 in
theorem nothing_any (x y : Int) (w : World) : Calls Tryz.prog 3 #[.int .i64 x, .int .i64 y] w fun e w' => e = .returned (.bool true) ∧ Up w w' := by
 go_enter Tryz.func3, Tryz.ntmps3
 go_wp2_with fail
 refine (Assignable_nil x y _).mono ?_
 rintro e w1 ⟨rfl, hu1⟩
 go_wp2_with fail
 refine (New_any _).mono ?_
 rintro e w2 ⟨A, bs, g, tv, rfl, hf, hu2⟩
 have HF := Lib.hid hf.leaves
 have HU2 : Hid (Up w w2) := uq
 clear hf hu1 hu2
 by_cases hin : 0 ≤ x ∧ x < 10 ∧ 0 ≤ y ∧ y < 10
 · obtain ⟨x0, x1, y0, y1⟩ := hin
   obtain ⟨i, rfl⟩ := Int.eq_ofNat_of_zero_le x0
   obtain ⟨j, rfl⟩ := Int.eq_ofNat_of_zero_le y0
   obtain ⟨b, hb⟩ : ∃ b, Hid (ansK (decide (i = j)) ((i : Int) + 1) ((j : Int) + 1) = b) := ⟨_, rfl⟩
   have hb2 : Hid (ansK (decide ((i : Int) + 1 = (j : Int) + 1)) ((i : Int) + 1) ((j : Int) + 1) = b) := by
     unfold Hid
     rw [← hb.out]
     congr 1
     rw [decide_eq_decide]
     omega
   have hc := Lib.hid (fun W (hW : Up w2 W) => Assignable_leaf A 10 i j _ W (HF.out.1.up hW) (HF.out.2.up hW) (by omega) (by omega))
   have hd := Lib.hid (fun W => Assignable_basic ((i : Int) + 1) ((j : Int) + 1) ⟨by omega, by omega⟩ ⟨by omega, by omega⟩ W)
   rw [hb2.out] at hd
   go_wp2_with fail
   refine (hc.out _ (show Up w2 _ from uq)).mono ?_
   rintro e w3 ⟨he, hu3⟩
   rw [hb.out] at he
   subst he
   go_wp2_with (first | (go_at_call 19; refine (Of_any _ _).mono ?_; rintro e w4 ⟨rfl, hu4⟩))
   refine (hd.out _).mono ?_
   rintro e w5 ⟨rfl, hu5⟩
   have HU5 : Hid (Up w w5) := HU2.out.trans (show Up w2 w5 from uq)
   cases b
   all_goals go_wp2_with (first | (go_at_call 20; refine (known_any _).mono ?_; rintro e wk ⟨rfl, huk⟩))
   all_goals go_ret
   all_goals exact ⟨rfl, HU5.out.trans uq⟩
 · have hc := Lib.hid (fun W (hW : Up w2 W) => Assignable_none A 10 x y W (HF.out.2.up hW) (by decide) (by simpa using hin))
   go_wp2_with fail
   refine (hc.out _ (show Up w2 _ from uq)).mono ?_
   rintro e w3 ⟨rfl, hu3⟩
   go_wp2_with (first | (go_at_call 20; refine (known_any _).mono ?_; rintro e wk ⟨rfl, huk⟩))
   all_goals first
     | (exfalso; simp_all; omega)
     | (go_ret; exact ⟨rfl, HU2.out.trans uq⟩)
end Go.Proofs.YtiaepldmgighbaaGreatDoor
