import Derived.Test.YtmbipadiaggolaaGreatDoorM29
import Derived.Test.YtmbipadiaggolaaGreatDoorM37
/- YtmbipadiaggolaaGreatDoorM38: lemmas of the proof, in order: Does. -/
/- Walks: same, does (over heaps of nothing). -/
namespace Go.Proofs.YtmbipadiaggolaaGreatDoor
open Go.RowKit
set_option linter.unusedSimpArgs false
attribute [local go_sem] ta_aa ta_ao ta_an ta_oa ta_oo ta_on m_kind_a m_kind_o m_behind_a m_behind_o m_own_a m_own_o valV

theorem same_two (ak an bk bn : Int) (sa sb t u : ByteArray) (f g : Int) (w : World) (h1 : (ak == bk) = true) (h2 : (an == bn) = true) (h3 : (sa.toList == sb.toList) = true) (h4 : (t.toList == u.toList) = true) (h5 : (f == g) = true) :
    Calls Tryz.prog 23 #[.agg #[.int .i64 ak, .int .i64 an, .string sa], .string t, .int .i64 f, .agg #[.int .i64 bk, .int .i64 bn, .string sb, .string u, .int .i64 g]] w fun e w' => e = .returned (.bool true) ∧ Up w w' := by
  go_enter Tryz.func23, Tryz.ntmps23
  go_wp2_with fail
  go_ret
  exact ⟨rfl, uq⟩
theorem same_self (k n : Int) (s t : ByteArray) (f : Int) (w : World) :
    Calls Tryz.prog 23 #[.agg #[.int .i64 k, .int .i64 n, .string s], .string t, .int .i64 f, .agg #[.int .i64 k, .int .i64 n, .string s, .string t, .int .i64 f]] w fun e w' => e = .returned (.bool true) ∧ Up w w' :=
  same_two k n k n s s t t f f w (by simp) (by simp) (by simp) (by simp) (by simp)

/-- a step in memory -/
abbrev stepCells (K N M : Int) (v x z : Val) (key : ByteArray) : Array Value := #[.int .i64 K, .int .i64 N, .int .i64 M, .int .i64 v.k, .int .i64 v.n, .string v.s, .int .i64 x.k, .int .i64 x.n, .string x.s, .int .i64 z.k, .int .i64 z.n, .string z.s, .string key]
theorem has0 (k n : Int) (key : ByteArray) : H0.has k n key = (false, noInS, 1) := by unfold HM.has; simp [there0]
theorem len0 (n : Int) : H0.lenOf n = 0 := by unfold HM.lenOf; simp [there0]
theorem kind0 (n : Int) : H0.kindOf n = 0 := by unfold HM.kindOf; simp [there0]

set_option maxRecDepth 100000 in
set_option maxHeartbeats 3200000 in
theorem does_1 (hv : Value) (tvs : List Value) (own : Own) (rb : Nat) (N M : Int) (v x z : Val) (key : ByteArray) (w : World) (h : HRep w hv H0 tvs own) (hr : RNil w rb) :
    Calls Tryz.prog 10 #[hv, .pointer (some ⟨rb, 0, none⟩), .agg (stepCells 1 N M v x z key)] w fun e w' => e = .returned (.bool true) ∧ Up w w' := by
  have hh := Lib.hid h
  have HR := Lib.hid hr
  clear h hr
  have X0 := Lib.hid (alloc_get w (.cells (stepCells 1 N M v x z key) 36))
  go_enter Tryz.func10, Tryz.ntmps10
  go_wp2_with (first | (go_at_call 19; refine (Make_full hv H0 tvs own _ _ _ (hh.out.up uq) (by decide)).mono ?_; rintro e w2 ⟨rfl, hu2⟩; have s0 := Up.get (w' := w2) uq X0.out; have x0 := cell_of s0 0; have x1 := cell_of s0 1; have x2 := cell_of s0 2; have x3 := cell_of s0 3; have x4 := cell_of s0 4; have x5 := cell_of s0 5; have x6 := cell_of s0 6; have x7 := cell_of s0 7; have x8 := cell_of s0 8; have x9 := cell_of s0 9; have x10 := cell_of s0 10; have x11 := cell_of s0 11; have x12 := cell_of s0 12; have x99 := lt_of_heap s0; (try simp only [World.size_alloc, List.getElem?_toArray, List.getElem?_cons_zero, List.getElem?_cons_succ] at x0 x1 x2 x3 x4 x5 x6 x7 x8 x9 x10 x11 x12 x99); clear s0) | (go_at_call 21; refine (r_make rb _ _ _ (HR.out.up uq)).mono ?_; rintro e w3 ⟨rfl, hu3⟩; have s0 := Up.get (w' := w3) uq X0.out; have x0 := cell_of s0 0; have x1 := cell_of s0 1; have x2 := cell_of s0 2; have x3 := cell_of s0 3; have x4 := cell_of s0 4; have x5 := cell_of s0 5; have x6 := cell_of s0 6; have x7 := cell_of s0 7; have x8 := cell_of s0 8; have x9 := cell_of s0 9; have x10 := cell_of s0 10; have x11 := cell_of s0 11; have x12 := cell_of s0 12; have x99 := lt_of_heap s0; (try simp only [World.size_alloc, List.getElem?_toArray, List.getElem?_cons_zero, List.getElem?_cons_succ] at x0 x1 x2 x3 x4 x5 x6 x7 x8 x9 x10 x11 x12 x99); clear s0))
  go_ret
  exact ⟨rfl, uq⟩

set_option maxRecDepth 100000 in
set_option maxHeartbeats 3200000 in
theorem does_3 (hv : Value) (tvs : List Value) (own : Own) (rb : Nat) (N M : Int) (v x z : Val) (key : ByteArray) (w : World) (h : HRep w hv H0 tvs own) (hr : RNil w rb) :
    Calls Tryz.prog 10 #[hv, .pointer (some ⟨rb, 0, none⟩), .agg (stepCells 3 N M v x z key)] w fun e w' => e = .returned (.bool true) ∧ Up w w' := by
  have hh := Lib.hid h
  have HR := Lib.hid hr
  clear h hr
  have X0 := Lib.hid (alloc_get w (.cells (stepCells 3 N M v x z key) 36))
  go_enter Tryz.func10, Tryz.ntmps10
  go_wp2_with (first | (go_at_call 20; refine (Set_none hv H0 tvs own _ _ _ _ x _ (hh.out.up uq) (fun _ => there0 _)).mono ?_; rintro e w2 ⟨rfl, hu2⟩; have s0 := Up.get (w' := w2) uq X0.out; have x0 := cell_of s0 0; have x1 := cell_of s0 1; have x2 := cell_of s0 2; have x3 := cell_of s0 3; have x4 := cell_of s0 4; have x5 := cell_of s0 5; have x6 := cell_of s0 6; have x7 := cell_of s0 7; have x8 := cell_of s0 8; have x9 := cell_of s0 9; have x10 := cell_of s0 10; have x11 := cell_of s0 11; have x12 := cell_of s0 12; have x99 := lt_of_heap s0; (try simp only [World.size_alloc, List.getElem?_toArray, List.getElem?_cons_zero, List.getElem?_cons_succ] at x0 x1 x2 x3 x4 x5 x6 x7 x8 x9 x10 x11 x12 x99); clear s0) | (go_at_call 25; refine (r_set rb _ _ _ _ x _ (HR.out.up uq)).mono ?_; rintro e w3 ⟨rfl, hu3⟩; have s0 := Up.get (w' := w3) uq X0.out; have x0 := cell_of s0 0; have x1 := cell_of s0 1; have x2 := cell_of s0 2; have x3 := cell_of s0 3; have x4 := cell_of s0 4; have x5 := cell_of s0 5; have x6 := cell_of s0 6; have x7 := cell_of s0 7; have x8 := cell_of s0 8; have x9 := cell_of s0 9; have x10 := cell_of s0 10; have x11 := cell_of s0 11; have x12 := cell_of s0 12; have x99 := lt_of_heap s0; (try simp only [World.size_alloc, List.getElem?_toArray, List.getElem?_cons_zero, List.getElem?_cons_succ] at x0 x1 x2 x3 x4 x5 x6 x7 x8 x9 x10 x11 x12 x99); clear s0) | (go_at_call 23; refine (same_self _ _ _ _ _ _).mono ?_; rintro e w5 ⟨rfl, hu5⟩))
  go_ret
  exact ⟨rfl, uq⟩

set_option maxRecDepth 100000 in
set_option maxHeartbeats 3200000 in
theorem does_4 (hv : Value) (tvs : List Value) (own : Own) (rb : Nat) (N M : Int) (v x z : Val) (key : ByteArray) (w : World) (h : HRep w hv H0 tvs own) (hr : RNil w rb) :
    Calls Tryz.prog 10 #[hv, .pointer (some ⟨rb, 0, none⟩), .agg (stepCells 4 N M v x z key)] w fun e w' => e = .returned (.bool true) ∧ Up w w' := by
  have hh := Lib.hid h
  have HR := Lib.hid hr
  clear h hr
  have X0 := Lib.hid (alloc_get w (.cells (stepCells 4 N M v x z key) 36))
  go_enter Tryz.func10, Tryz.ntmps10
  go_wp2_with (first | (go_at_call 26; refine (Has_any hv H0 tvs own _ _ _ _ _ (hh.out.up uq)).mono ?_; rintro e w2 ⟨rfl, hu2⟩; simp only [has0]; have s0 := Up.get (w' := w2) uq X0.out; have x0 := cell_of s0 0; have x1 := cell_of s0 1; have x2 := cell_of s0 2; have x3 := cell_of s0 3; have x4 := cell_of s0 4; have x5 := cell_of s0 5; have x6 := cell_of s0 6; have x7 := cell_of s0 7; have x8 := cell_of s0 8; have x9 := cell_of s0 9; have x10 := cell_of s0 10; have x11 := cell_of s0 11; have x12 := cell_of s0 12; have x99 := lt_of_heap s0; (try simp only [World.size_alloc, List.getElem?_toArray, List.getElem?_cons_zero, List.getElem?_cons_succ] at x0 x1 x2 x3 x4 x5 x6 x7 x8 x9 x10 x11 x12 x99); clear s0) | (go_at_call 27; refine (r_has rb _ _ _ _ _ (HR.out.up uq)).mono ?_; rintro e w3 ⟨rfl, hu3⟩; have s0 := Up.get (w' := w3) uq X0.out; have x0 := cell_of s0 0; have x1 := cell_of s0 1; have x2 := cell_of s0 2; have x3 := cell_of s0 3; have x4 := cell_of s0 4; have x5 := cell_of s0 5; have x6 := cell_of s0 6; have x7 := cell_of s0 7; have x8 := cell_of s0 8; have x9 := cell_of s0 9; have x10 := cell_of s0 10; have x11 := cell_of s0 11; have x12 := cell_of s0 12; have x99 := lt_of_heap s0; (try simp only [World.size_alloc, List.getElem?_toArray, List.getElem?_cons_zero, List.getElem?_cons_succ] at x0 x1 x2 x3 x4 x5 x6 x7 x8 x9 x10 x11 x12 x99); clear s0) | (go_at_call 23; refine (same_self _ _ _ _ _ _).mono ?_; rintro e w5 ⟨rfl, hu5⟩))
  go_ret
  exact ⟨rfl, uq⟩

set_option maxRecDepth 100000 in
set_option maxHeartbeats 3200000 in
theorem does_6 (hv : Value) (tvs : List Value) (own : Own) (rb : Nat) (N M : Int) (v x z : Val) (key : ByteArray) (w : World) (h : HRep w hv H0 tvs own) (hr : RNil w rb) :
    Calls Tryz.prog 10 #[hv, .pointer (some ⟨rb, 0, none⟩), .agg (stepCells 6 N M v x z key)] w fun e w' => e = .returned (.bool true) ∧ Up w w' := by
  have hh := Lib.hid h
  have HR := Lib.hid hr
  clear h hr
  have X0 := Lib.hid (alloc_get w (.cells (stepCells 6 N M v x z key) 36))
  go_enter Tryz.func10, Tryz.ntmps10
  go_wp2_with (first | (go_at_call 30; refine (Put_nothing hv tvs own _ _ _ _ _ _ z _ (hh.out.up uq)).mono ?_; rintro e w2 ⟨rfl, hu2⟩; have s0 := Up.get (w' := w2) uq X0.out; have x0 := cell_of s0 0; have x1 := cell_of s0 1; have x2 := cell_of s0 2; have x3 := cell_of s0 3; have x4 := cell_of s0 4; have x5 := cell_of s0 5; have x6 := cell_of s0 6; have x7 := cell_of s0 7; have x8 := cell_of s0 8; have x9 := cell_of s0 9; have x10 := cell_of s0 10; have x11 := cell_of s0 11; have x12 := cell_of s0 12; have x99 := lt_of_heap s0; (try simp only [World.size_alloc, List.getElem?_toArray, List.getElem?_cons_zero, List.getElem?_cons_succ] at x0 x1 x2 x3 x4 x5 x6 x7 x8 x9 x10 x11 x12 x99); clear s0) | (go_at_call 31; refine (r_put rb _ _ _ _ _ _ z _ (HR.out.up uq)).mono ?_; rintro e w3 ⟨rfl, hu3⟩; have s0 := Up.get (w' := w3) uq X0.out; have x0 := cell_of s0 0; have x1 := cell_of s0 1; have x2 := cell_of s0 2; have x3 := cell_of s0 3; have x4 := cell_of s0 4; have x5 := cell_of s0 5; have x6 := cell_of s0 6; have x7 := cell_of s0 7; have x8 := cell_of s0 8; have x9 := cell_of s0 9; have x10 := cell_of s0 10; have x11 := cell_of s0 11; have x12 := cell_of s0 12; have x99 := lt_of_heap s0; (try simp only [World.size_alloc, List.getElem?_toArray, List.getElem?_cons_zero, List.getElem?_cons_succ] at x0 x1 x2 x3 x4 x5 x6 x7 x8 x9 x10 x11 x12 x99); clear s0) | (go_at_call 23; refine (same_self _ _ _ _ _ _).mono ?_; rintro e w5 ⟨rfl, hu5⟩))
  go_ret
  exact ⟨rfl, uq⟩

set_option maxRecDepth 100000 in
set_option maxHeartbeats 3200000 in
theorem does_7 (hv : Value) (tvs : List Value) (own : Own) (rb : Nat) (N M : Int) (v x z : Val) (key : ByteArray) (w : World) (h : HRep w hv H0 tvs own) (hr : RNil w rb) :
    Calls Tryz.prog 10 #[hv, .pointer (some ⟨rb, 0, none⟩), .agg (stepCells 7 N M v x z key)] w fun e w' => e = .returned (.bool true) ∧ Up w w' := by
  have hh := Lib.hid h
  have HR := Lib.hid hr
  clear h hr
  have X0 := Lib.hid (alloc_get w (.cells (stepCells 7 N M v x z key) 36))
  go_enter Tryz.func10, Tryz.ntmps10
  go_wp2_with (first | (go_at_call 32; refine (Push_none hv H0 tvs own _ v _ (hh.out.up uq) (arr0 _ _ _)).mono ?_; rintro e w2 ⟨rfl, hu2⟩; have s0 := Up.get (w' := w2) uq X0.out; have x0 := cell_of s0 0; have x1 := cell_of s0 1; have x2 := cell_of s0 2; have x3 := cell_of s0 3; have x4 := cell_of s0 4; have x5 := cell_of s0 5; have x6 := cell_of s0 6; have x7 := cell_of s0 7; have x8 := cell_of s0 8; have x9 := cell_of s0 9; have x10 := cell_of s0 10; have x11 := cell_of s0 11; have x12 := cell_of s0 12; have x99 := lt_of_heap s0; (try simp only [World.size_alloc, List.getElem?_toArray, List.getElem?_cons_zero, List.getElem?_cons_succ] at x0 x1 x2 x3 x4 x5 x6 x7 x8 x9 x10 x11 x12 x99); clear s0) | (go_at_call 33; refine (r_push rb _ v _ (HR.out.up uq)).mono ?_; rintro e w3 ⟨rfl, hu3⟩; have s0 := Up.get (w' := w3) uq X0.out; have x0 := cell_of s0 0; have x1 := cell_of s0 1; have x2 := cell_of s0 2; have x3 := cell_of s0 3; have x4 := cell_of s0 4; have x5 := cell_of s0 5; have x6 := cell_of s0 6; have x7 := cell_of s0 7; have x8 := cell_of s0 8; have x9 := cell_of s0 9; have x10 := cell_of s0 10; have x11 := cell_of s0 11; have x12 := cell_of s0 12; have x99 := lt_of_heap s0; (try simp only [World.size_alloc, List.getElem?_toArray, List.getElem?_cons_zero, List.getElem?_cons_succ] at x0 x1 x2 x3 x4 x5 x6 x7 x8 x9 x10 x11 x12 x99); clear s0))
  go_ret
  exact ⟨rfl, uq⟩

set_option maxRecDepth 100000 in
set_option maxHeartbeats 3200000 in
theorem does_2 (hv : Value) (tvs : List Value) (own : Own) (rb : Nat) (N M : Int) (v x z : Val) (key : ByteArray) (w : World) (h : HRep w hv H0 tvs own) (hr : RNil w rb) (hs : (plainS H0 v).s.size ≤ 1000000) :
    Calls Tryz.prog 10 #[hv, .pointer (some ⟨rb, 0, none⟩), .agg (stepCells 2 N M v x z key)] w fun e w' => e = .returned (.bool true) ∧ Up w w' := by
  have hh := Lib.hid h
  have HR := Lib.hid hr
  clear h hr
  have X0 := Lib.hid (alloc_get w (.cells (stepCells 2 N M v x z key) 36))
  obtain ⟨r, hg⟩ : ∃ r, Hid (H0.get v key (runesN (plainS H0 v).s) = r) := ⟨_, rfl⟩
  have HZ := Lib.hid hs
  go_enter Tryz.func10, Tryz.ntmps10
  go_wp2_with (first | (go_at_call 22; refine (Get_full hv H0 tvs own v.k v.n v.s key _ (hh.out.up uq) (Nat.le_trans HZ.out (by decide))).mono ?_; rintro e w2 ⟨rfl, hu2⟩; rw [hg.out]; have X2 := Lib.hid (Up.get (w' := w2) uq X0.out); have s0 := alloc_keep (o := .cells #[.int .i64 r.1.k, .int .i64 r.1.n, .string r.1.s] 34) (Up.get (w' := w2) uq X0.out); have x0 := cell_of s0 0; have x1 := cell_of s0 1; have x2 := cell_of s0 2; have x3 := cell_of s0 3; have x4 := cell_of s0 4; have x5 := cell_of s0 5; have x6 := cell_of s0 6; have x7 := cell_of s0 7; have x8 := cell_of s0 8; have x9 := cell_of s0 9; have x10 := cell_of s0 10; have x11 := cell_of s0 11; have x12 := cell_of s0 12; have x99 := lt_of_heap s0; (try simp only [World.size_alloc, List.getElem?_toArray, List.getElem?_cons_zero, List.getElem?_cons_succ] at x0 x1 x2 x3 x4 x5 x6 x7 x8 x9 x10 x11 x12 x99); clear s0; have s0 := alloc_get w2 (.cells #[.int .i64 r.1.k, .int .i64 r.1.n, .string r.1.s] 34); have a0 := cell_of s0 0; have a1 := cell_of s0 1; have a2 := cell_of s0 2; have f0 := ice_of s0 0; have f1 := ice_of s0 1; have f2 := ice_of s0 2; have a4 := lt_of_heap s0; (try simp only [World.size_alloc, List.getElem?_toArray, List.getElem?_cons_zero, List.getElem?_cons_succ] at a0 a1 a2 f0 f1 f2 a4); clear s0))
  go_region_held3 (fun W => W.cell? ⟨w2.heap.size, 0, none⟩ = some (.int .i64 r.1.k) ∧ W.cell? ⟨w2.heap.size, 1, none⟩ = some (.int .i64 r.1.n) ∧ W.cell? ⟨w2.heap.size, 2, none⟩ = some (.string r.1.s) ∧ W.cell? ⟨w.heap.size, 3, none⟩ = some (.int .i64 v.k) ∧ W.cell? ⟨w.heap.size, 4, none⟩ = some (.int .i64 v.n) ∧ W.cell? ⟨w.heap.size, 5, none⟩ = some (.string v.s) ∧ W.cell? ⟨w.heap.size, 12, none⟩ = some (.string key)) (go_keep) (first | (go_at_call 24; refine (r_get rb v.k v.n v.s key _ (HR.out.up uq) HZ.out).mono ?_; rintro e w3 ⟨rfl, hu3⟩; rw [hg.out]; have s0 := hu3.get (Up.get (w := w2) uq X2.out); have x0 := cell_of s0 0; have x1 := cell_of s0 1; have x2 := cell_of s0 2; have x3 := cell_of s0 3; have x4 := cell_of s0 4; have x5 := cell_of s0 5; have x6 := cell_of s0 6; have x7 := cell_of s0 7; have x8 := cell_of s0 8; have x9 := cell_of s0 9; have x10 := cell_of s0 10; have x11 := cell_of s0 11; have x12 := cell_of s0 12; have x99 := lt_of_heap s0; (try simp only [World.size_alloc, List.getElem?_toArray, List.getElem?_cons_zero, List.getElem?_cons_succ] at x0 x1 x2 x3 x4 x5 x6 x7 x8 x9 x10 x11 x12 x99); clear s0; have s0 := hu3.get (Up.get uq (alloc_get w2 (.cells #[.int .i64 r.1.k, .int .i64 r.1.n, .string r.1.s] 34))); have a0 := cell_of s0 0; have a1 := cell_of s0 1; have a2 := cell_of s0 2; have f0 := ice_of s0 0; have f1 := ice_of s0 1; have f2 := ice_of s0 2; have a4 := lt_of_heap s0; (try simp only [World.size_alloc, List.getElem?_toArray, List.getElem?_cons_zero, List.getElem?_cons_succ] at a0 a1 a2 f0 f1 f2 a4); clear s0) | (go_at_call 23; refine (same_self _ _ _ _ _ _).mono ?_; rintro e w5 ⟨rfl, hu5⟩; have s0 := hu5.get (Up.get (w := w2) uq X2.out); have x0 := cell_of s0 0; have x1 := cell_of s0 1; have x2 := cell_of s0 2; have x3 := cell_of s0 3; have x4 := cell_of s0 4; have x5 := cell_of s0 5; have x6 := cell_of s0 6; have x7 := cell_of s0 7; have x8 := cell_of s0 8; have x9 := cell_of s0 9; have x10 := cell_of s0 10; have x11 := cell_of s0 11; have x12 := cell_of s0 12; have x99 := lt_of_heap s0; (try simp only [World.size_alloc, List.getElem?_toArray, List.getElem?_cons_zero, List.getElem?_cons_succ] at x0 x1 x2 x3 x4 x5 x6 x7 x8 x9 x10 x11 x12 x99); clear s0; have s0 := hu5.get (Up.get uq (alloc_get w2 (.cells #[.int .i64 r.1.k, .int .i64 r.1.n, .string r.1.s] 34))); have a0 := cell_of s0 0; have a1 := cell_of s0 1; have a2 := cell_of s0 2; have f0 := ice_of s0 0; have f1 := ice_of s0 1; have f2 := ice_of s0 2; have a4 := lt_of_heap s0; (try simp only [World.size_alloc, List.getElem?_toArray, List.getElem?_cons_zero, List.getElem?_cons_succ] at a0 a1 a2 f0 f1 f2 a4); clear s0))
  go_wp2_with fail
  go_ret
  exact ⟨rfl, uq⟩

set_option maxRecDepth 100000 in
set_option maxHeartbeats 3200000 in
theorem does_5 (hv : Value) (tvs : List Value) (own : Own) (rb : Nat) (N M : Int) (v x z : Val) (key : ByteArray) (w : World) (h : HRep w hv H0 tvs own) (hr : RNil w rb) (hs : (plainS H0 v).s.size ≤ 1000000) :
    Calls Tryz.prog 10 #[hv, .pointer (some ⟨rb, 0, none⟩), .agg (stepCells 5 N M v x z key)] w fun e w' => e = .returned (.bool true) ∧ Up w w' := by
  have hh := Lib.hid h
  have HR := Lib.hid hr
  clear h hr
  have X0 := Lib.hid (alloc_get w (.cells (stepCells 5 N M v x z key) 36))
  obtain ⟨r, hg⟩ : ∃ r, Hid (at0 v x = r) := ⟨_, rfl⟩
  have HZ := Lib.hid hs
  go_enter Tryz.func10, Tryz.ntmps10
  go_wp2_with (first | (go_at_call 28; refine (At_nothing hv tvs own v x _ (hh.out.up uq) HZ.out).mono ?_; rintro e w2 ⟨rfl, hu2⟩; rw [hg.out]; have X2 := Lib.hid (Up.get (w' := w2) uq X0.out); have s0 := alloc_keep (o := .cells #[.int .i64 r.1.k, .int .i64 r.1.n, .string r.1.s] 34) (Up.get (w' := w2) uq X0.out); have x0 := cell_of s0 0; have x1 := cell_of s0 1; have x2 := cell_of s0 2; have x3 := cell_of s0 3; have x4 := cell_of s0 4; have x5 := cell_of s0 5; have x6 := cell_of s0 6; have x7 := cell_of s0 7; have x8 := cell_of s0 8; have x9 := cell_of s0 9; have x10 := cell_of s0 10; have x11 := cell_of s0 11; have x12 := cell_of s0 12; have x99 := lt_of_heap s0; (try simp only [World.size_alloc, List.getElem?_toArray, List.getElem?_cons_zero, List.getElem?_cons_succ] at x0 x1 x2 x3 x4 x5 x6 x7 x8 x9 x10 x11 x12 x99); clear s0; have s0 := alloc_get w2 (.cells #[.int .i64 r.1.k, .int .i64 r.1.n, .string r.1.s] 34); have a0 := cell_of s0 0; have a1 := cell_of s0 1; have a2 := cell_of s0 2; have f0 := ice_of s0 0; have f1 := ice_of s0 1; have f2 := ice_of s0 2; have a4 := lt_of_heap s0; (try simp only [World.size_alloc, List.getElem?_toArray, List.getElem?_cons_zero, List.getElem?_cons_succ] at a0 a1 a2 f0 f1 f2 a4); clear s0))
  go_region_held3 (fun W => W.cell? ⟨w2.heap.size, 0, none⟩ = some (.int .i64 r.1.k) ∧ W.cell? ⟨w2.heap.size, 1, none⟩ = some (.int .i64 r.1.n) ∧ W.cell? ⟨w2.heap.size, 2, none⟩ = some (.string r.1.s) ∧ W.cell? ⟨w.heap.size, 3, none⟩ = some (.int .i64 v.k) ∧ W.cell? ⟨w.heap.size, 4, none⟩ = some (.int .i64 v.n) ∧ W.cell? ⟨w.heap.size, 5, none⟩ = some (.string v.s) ∧ W.cell? ⟨w.heap.size, 6, none⟩ = some (.int .i64 x.k) ∧ W.cell? ⟨w.heap.size, 7, none⟩ = some (.int .i64 x.n) ∧ W.cell? ⟨w.heap.size, 8, none⟩ = some (.string x.s)) (go_keep) (first | (go_at_call 29; refine (r_at rb v x _ (HR.out.up uq) HZ.out).mono ?_; rintro e w3 ⟨rfl, hu3⟩; rw [hg.out]; have s0 := hu3.get (Up.get (w := w2) uq X2.out); have x0 := cell_of s0 0; have x1 := cell_of s0 1; have x2 := cell_of s0 2; have x3 := cell_of s0 3; have x4 := cell_of s0 4; have x5 := cell_of s0 5; have x6 := cell_of s0 6; have x7 := cell_of s0 7; have x8 := cell_of s0 8; have x9 := cell_of s0 9; have x10 := cell_of s0 10; have x11 := cell_of s0 11; have x12 := cell_of s0 12; have x99 := lt_of_heap s0; (try simp only [World.size_alloc, List.getElem?_toArray, List.getElem?_cons_zero, List.getElem?_cons_succ] at x0 x1 x2 x3 x4 x5 x6 x7 x8 x9 x10 x11 x12 x99); clear s0; have s0 := hu3.get (Up.get uq (alloc_get w2 (.cells #[.int .i64 r.1.k, .int .i64 r.1.n, .string r.1.s] 34))); have a0 := cell_of s0 0; have a1 := cell_of s0 1; have a2 := cell_of s0 2; have f0 := ice_of s0 0; have f1 := ice_of s0 1; have f2 := ice_of s0 2; have a4 := lt_of_heap s0; (try simp only [World.size_alloc, List.getElem?_toArray, List.getElem?_cons_zero, List.getElem?_cons_succ] at a0 a1 a2 f0 f1 f2 a4); clear s0) | (go_at_call 23; refine (same_self _ _ _ _ _ _).mono ?_; rintro e w5 ⟨rfl, hu5⟩; have s0 := hu5.get (Up.get (w := w2) uq X2.out); have x0 := cell_of s0 0; have x1 := cell_of s0 1; have x2 := cell_of s0 2; have x3 := cell_of s0 3; have x4 := cell_of s0 4; have x5 := cell_of s0 5; have x6 := cell_of s0 6; have x7 := cell_of s0 7; have x8 := cell_of s0 8; have x9 := cell_of s0 9; have x10 := cell_of s0 10; have x11 := cell_of s0 11; have x12 := cell_of s0 12; have x99 := lt_of_heap s0; (try simp only [World.size_alloc, List.getElem?_toArray, List.getElem?_cons_zero, List.getElem?_cons_succ] at x0 x1 x2 x3 x4 x5 x6 x7 x8 x9 x10 x11 x12 x99); clear s0; have s0 := hu5.get (Up.get uq (alloc_get w2 (.cells #[.int .i64 r.1.k, .int .i64 r.1.n, .string r.1.s] 34))); have a0 := cell_of s0 0; have a1 := cell_of s0 1; have a2 := cell_of s0 2; have f0 := ice_of s0 0; have f1 := ice_of s0 1; have f2 := ice_of s0 2; have a4 := lt_of_heap s0; (try simp only [World.size_alloc, List.getElem?_toArray, List.getElem?_cons_zero, List.getElem?_cons_succ] at a0 a1 a2 f0 f1 f2 a4); clear s0))
  go_wp2_with fail
  go_ret
  exact ⟨rfl, uq⟩

set_option maxRecDepth 100000 in
set_option maxHeartbeats 3200000 in
theorem does_9 (hv : Value) (tvs : List Value) (own : Own) (rb : Nat) (N M : Int) (v x z : Val) (key : ByteArray) (w : World) (h : HRep w hv H0 tvs own) (hr : RNil w rb) :
    Calls Tryz.prog 10 #[hv, .pointer (some ⟨rb, 0, none⟩), .agg (stepCells 9 N M v x z key)] w fun e w' => e = .returned (.bool true) ∧ Up w w' := by
  have hh := Lib.hid h
  have HR := Lib.hid hr
  clear h hr
  have X0 := Lib.hid (alloc_get w (.cells (stepCells 9 N M v x z key) 36))
  obtain ⟨a, b, ha, hb, hab⟩ : ∃ a b, Hid (typeofS (plainS H0 v).k = a) ∧ Hid (typeofS (plainS H0 v).k = b) ∧ (a.toList == b.toList) = true := ⟨_, _, rfl, rfl, by simp⟩
  go_enter Tryz.func10, Tryz.ntmps10
  go_wp2_with (first | fail)
  have s0 := X0.out
  have x0 := cell_of s0 0; have x1 := cell_of s0 1; have x2 := cell_of s0 2; have x3 := cell_of s0 3; have x4 := cell_of s0 4; have x5 := cell_of s0 5; have x6 := cell_of s0 6; have x7 := cell_of s0 7; have x8 := cell_of s0 8; have x9 := cell_of s0 9; have x10 := cell_of s0 10; have x11 := cell_of s0 11; have x12 := cell_of s0 12; have x99 := lt_of_heap s0; (try simp only [World.size_alloc, List.getElem?_toArray, List.getElem?_cons_zero, List.getElem?_cons_succ] at x0 x1 x2 x3 x4 x5 x6 x7 x8 x9 x10 x11 x12 x99); clear s0
  go_region_held3 (fun W => W.cell? ⟨w.heap.size, 3, none⟩ = some (.int .i64 v.k) ∧ W.cell? ⟨w.heap.size, 4, none⟩ = some (.int .i64 v.n) ∧ W.cell? ⟨w.heap.size, 5, none⟩ = some (.string v.s)) (go_keep) (first | (go_at_call 18; refine (Typeof_nothing hv tvs own v.k v.n v.s _ (hh.out.up uq)).mono ?_; rintro e w2 ⟨rfl, hu2⟩; rw [ha.out]; have s0 := Up.get (w' := w2) uq X0.out; have x0 := cell_of s0 0; have x1 := cell_of s0 1; have x2 := cell_of s0 2; have x3 := cell_of s0 3; have x4 := cell_of s0 4; have x5 := cell_of s0 5; have x6 := cell_of s0 6; have x7 := cell_of s0 7; have x8 := cell_of s0 8; have x9 := cell_of s0 9; have x10 := cell_of s0 10; have x11 := cell_of s0 11; have x12 := cell_of s0 12; have x99 := lt_of_heap s0; (try simp only [World.size_alloc, List.getElem?_toArray, List.getElem?_cons_zero, List.getElem?_cons_succ] at x0 x1 x2 x3 x4 x5 x6 x7 x8 x9 x10 x11 x12 x99); clear s0) | (go_at_call 34; refine (r_typeof rb v.k v.n v.s _ (HR.out.up uq)).mono ?_; rintro e w3 ⟨rfl, hu3⟩; rw [hb.out]; have s0 := Up.get (w' := w3) uq X0.out; have x0 := cell_of s0 0; have x1 := cell_of s0 1; have x2 := cell_of s0 2; have x3 := cell_of s0 3; have x4 := cell_of s0 4; have x5 := cell_of s0 5; have x6 := cell_of s0 6; have x7 := cell_of s0 7; have x8 := cell_of s0 8; have x9 := cell_of s0 9; have x10 := cell_of s0 10; have x11 := cell_of s0 11; have x12 := cell_of s0 12; have x99 := lt_of_heap s0; (try simp only [World.size_alloc, List.getElem?_toArray, List.getElem?_cons_zero, List.getElem?_cons_succ] at x0 x1 x2 x3 x4 x5 x6 x7 x8 x9 x10 x11 x12 x99); clear s0))
  go_wp2_with fail
  go_ret
  exact ⟨rfl, uq⟩

set_option maxRecDepth 100000 in
set_option maxHeartbeats 3200000 in
theorem does_8 (hv : Value) (tvs : List Value) (own : Own) (rb : Nat) (N M : Int) (v x z : Val) (key : ByteArray) (w : World) (h : HRep w hv H0 tvs own) (hr : RNil w rb) :
    Calls Tryz.prog 10 #[hv, .pointer (some ⟨rb, 0, none⟩), .agg (stepCells 8 N M v x z key)] w fun e w' => e = .returned (.bool true) ∧ Up w w' := by
  have hh := Lib.hid h
  have HR := Lib.hid hr
  clear h hr
  have X0 := Lib.hid (alloc_get w (.cells (stepCells 8 N M v x z key) 36))
  go_enter Tryz.func10, Tryz.ntmps10
  go_wp2_with (first | fail)
  have s0 := X0.out
  have x0 := cell_of s0 0; have x1 := cell_of s0 1; have x2 := cell_of s0 2; have x3 := cell_of s0 3; have x4 := cell_of s0 4; have x5 := cell_of s0 5; have x6 := cell_of s0 6; have x7 := cell_of s0 7; have x8 := cell_of s0 8; have x9 := cell_of s0 9; have x10 := cell_of s0 10; have x11 := cell_of s0 11; have x12 := cell_of s0 12; have x99 := lt_of_heap s0; (try simp only [World.size_alloc, List.getElem?_toArray, List.getElem?_cons_zero, List.getElem?_cons_succ] at x0 x1 x2 x3 x4 x5 x6 x7 x8 x9 x10 x11 x12 x99); clear s0
  go_region_held3 (fun W => W.cell? ⟨w.heap.size, 1, none⟩ = some (.int .i64 N)) (go_keep) (first | (go_at_call 16; refine (Len_any hv H0 tvs own _ _ (hh.out.up uq)).mono ?_; rintro e w2 ⟨rfl, hu2⟩; rw [len0]; have s0 := Up.get (w' := w2) uq X0.out; have x0 := cell_of s0 0; have x1 := cell_of s0 1; have x2 := cell_of s0 2; have x3 := cell_of s0 3; have x4 := cell_of s0 4; have x5 := cell_of s0 5; have x6 := cell_of s0 6; have x7 := cell_of s0 7; have x8 := cell_of s0 8; have x9 := cell_of s0 9; have x10 := cell_of s0 10; have x11 := cell_of s0 11; have x12 := cell_of s0 12; have x99 := lt_of_heap s0; (try simp only [World.size_alloc, List.getElem?_toArray, List.getElem?_cons_zero, List.getElem?_cons_succ] at x0 x1 x2 x3 x4 x5 x6 x7 x8 x9 x10 x11 x12 x99); clear s0) | (go_at_call 14; refine (Kind_any hv H0 tvs own _ _ (hh.out.up uq)).mono ?_; rintro e w3 ⟨rfl, hu3⟩; rw [kind0]; have s0 := Up.get (w' := w3) uq X0.out; have x0 := cell_of s0 0; have x1 := cell_of s0 1; have x2 := cell_of s0 2; have x3 := cell_of s0 3; have x4 := cell_of s0 4; have x5 := cell_of s0 5; have x6 := cell_of s0 6; have x7 := cell_of s0 7; have x8 := cell_of s0 8; have x9 := cell_of s0 9; have x10 := cell_of s0 10; have x11 := cell_of s0 11; have x12 := cell_of s0 12; have x99 := lt_of_heap s0; (try simp only [World.size_alloc, List.getElem?_toArray, List.getElem?_cons_zero, List.getElem?_cons_succ] at x0 x1 x2 x3 x4 x5 x6 x7 x8 x9 x10 x11 x12 x99); clear s0) | (go_at_call 17; refine (r_len rb _ _ (HR.out.up uq)).mono ?_; rintro e w4 ⟨rfl, rfl⟩) | (go_at_call 15; refine (r_kind rb _ _ (HR.out.up uq)).mono ?_; rintro e w5 ⟨rfl, rfl⟩))
  go_wp2_with fail
  go_ret
  exact ⟨rfl, uq⟩

theorem show_nothing (q : ByteArray → ByteArray) (x : Val) : H0.show q x = show0 x := by
  unfold HM.show show0
  by_cases h4 : (plainS H0 x).k = 4
  · rw [if_pos h4, if_pos h4]
  · rw [if_neg h4, if_neg h4]
    have hat : H0.at (plainS H0 x) = none := by unfold HM.at; simp [there0]
    rw [showV_none 3 _ _ h4 hat]
    have hs := textOf_few (plainS H0 x) (by
      have := plain0_kinds x
      unfold plainV
      (repeat' split) <;> simp_all)
    have hf : fitsB [] (textOf (plainS H0 x)) = true := by unfold fitsB; simp; omega
    simp only [say, hf, if_true, laid]
    simp
theorem nothing_okay {B : Nat} {w : World} : H0.Okay noQ B w := fun i t ht => by simp at ht
theorem Show_nothing (hv : Value) (tvs : List Value) (own : Own) (k n : Int) (s : ByteArray) (w : World) (h : HRep w hv H0 tvs own) (ht : Tab w) :
    Calls Tryz.prog 12 #[hv, .agg #[.int .i64 k, .int .i64 n, .string s]] w fun e w' => e = .returned (.string (H0.show noQ ⟨k, n, s⟩)) ∧ Up w w' := by
  rcases e : plainS H0 ⟨k, n, s⟩ with ⟨pk, pn, ps⟩
  by_cases h4 : pk = 4
  · subst h4
    exact Show_text noQ hv H0 tvs own k n s w h pn ps e
  · exact Show_else noQ hv H0 tvs own k n s w h pk pn ps e (by simpa using h4) nothing_okay ⟨fun h => absurd h h4, fun _ => .inr fun w' hb => ht.up hb⟩

set_option maxRecDepth 100000 in
set_option maxHeartbeats 3200000 in
theorem does_else (hv : Value) (tvs : List Value) (own : Own) (rb : Nat) (K N M : Int) (v x z : Val) (key : ByteArray) (w : World) (h : HRep w hv H0 tvs own) (hr : RNil w rb) (ht : Tab w) (h1 : (K == 1) = false) (h2 : (K == 2) = false) (h3 : (K == 3) = false) (h4 : (K == 4) = false) (h5 : (K == 5) = false) (h6 : (K == 6) = false) (h7 : (K == 7) = false) (h8 : (K == 8) = false) (h9 : (K == 9) = false) :
    Calls Tryz.prog 10 #[hv, .pointer (some ⟨rb, 0, none⟩), .agg (stepCells K N M v x z key)] w fun e w' => e = .returned (.bool true) ∧ Up w w' := by
  have hh := Lib.hid h
  have HR := Lib.hid hr
  clear h hr
  have X0 := Lib.hid (alloc_get w (.cells (stepCells K N M v x z key) 36))
  obtain ⟨a, b, ha, hb, hab⟩ : ∃ a b, Hid (H0.show noQ v = a) ∧ Hid (show0 v = b) ∧ (a.toList == b.toList) = true := ⟨_, _, rfl, rfl, by rw [show_nothing]; simp⟩
  have HT := Lib.hid ht
  clear ht
  go_enter Tryz.func10, Tryz.ntmps10
  go_wp2_with (first | fail)
  have s0 := X0.out
  have x0 := cell_of s0 0; have x1 := cell_of s0 1; have x2 := cell_of s0 2; have x3 := cell_of s0 3; have x4 := cell_of s0 4; have x5 := cell_of s0 5; have x6 := cell_of s0 6; have x7 := cell_of s0 7; have x8 := cell_of s0 8; have x9 := cell_of s0 9; have x10 := cell_of s0 10; have x11 := cell_of s0 11; have x12 := cell_of s0 12; have x99 := lt_of_heap s0; (try simp only [World.size_alloc, List.getElem?_toArray, List.getElem?_cons_zero, List.getElem?_cons_succ] at x0 x1 x2 x3 x4 x5 x6 x7 x8 x9 x10 x11 x12 x99); clear s0
  go_region_held3 (fun W => W.cell? ⟨w.heap.size, 3, none⟩ = some (.int .i64 v.k) ∧ W.cell? ⟨w.heap.size, 4, none⟩ = some (.int .i64 v.n) ∧ W.cell? ⟨w.heap.size, 5, none⟩ = some (.string v.s)) (go_keep) (first | (go_at_call 12; refine (Show_nothing hv tvs own v.k v.n v.s _ (hh.out.up uq) (HT.out.up uq)).mono ?_; rintro e w2 ⟨rfl, hu2⟩; rw [ha.out]; have s0 := Up.get (w' := w2) uq X0.out; have x0 := cell_of s0 0; have x1 := cell_of s0 1; have x2 := cell_of s0 2; have x3 := cell_of s0 3; have x4 := cell_of s0 4; have x5 := cell_of s0 5; have x6 := cell_of s0 6; have x7 := cell_of s0 7; have x8 := cell_of s0 8; have x9 := cell_of s0 9; have x10 := cell_of s0 10; have x11 := cell_of s0 11; have x12 := cell_of s0 12; have x99 := lt_of_heap s0; (try simp only [World.size_alloc, List.getElem?_toArray, List.getElem?_cons_zero, List.getElem?_cons_succ] at x0 x1 x2 x3 x4 x5 x6 x7 x8 x9 x10 x11 x12 x99); clear s0) | (go_at_call 13; refine (r_show rb v.k v.n v.s _ (HR.out.up uq)).mono ?_; rintro e w3 ⟨rfl, hu3⟩; rw [hb.out]; have s0 := Up.get (w' := w3) uq X0.out; have x0 := cell_of s0 0; have x1 := cell_of s0 1; have x2 := cell_of s0 2; have x3 := cell_of s0 3; have x4 := cell_of s0 4; have x5 := cell_of s0 5; have x6 := cell_of s0 6; have x7 := cell_of s0 7; have x8 := cell_of s0 8; have x9 := cell_of s0 9; have x10 := cell_of s0 10; have x11 := cell_of s0 11; have x12 := cell_of s0 12; have x99 := lt_of_heap s0; (try simp only [World.size_alloc, List.getElem?_toArray, List.getElem?_cons_zero, List.getElem?_cons_succ] at x0 x1 x2 x3 x4 x5 x6 x7 x8 x9 x10 x11 x12 x99); clear s0))
  go_wp2_with fail
  go_ret
  exact ⟨rfl, uq⟩

end Go.Proofs.YtmbipadiaggolaaGreatDoor
