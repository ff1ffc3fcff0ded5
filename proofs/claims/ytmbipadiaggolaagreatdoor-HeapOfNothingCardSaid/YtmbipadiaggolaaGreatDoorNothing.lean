import Derived.Test.YtmbipadiaggolaaGreatDoorDoes
import Derived.Test.YtmbipadiaggolaaGreatDoorOurs
/- Walk: HeapOfNothing. -/
namespace Go.Proofs.YtmbipadiaggolaaGreatDoor
open Go.RowKit
set_option linter.unusedSimpArgs false
attribute [local go_sem] ta_aa ta_ao ta_an ta_oa ta_oo ta_on m_kind_a m_kind_o m_behind_a m_behind_o m_own_a m_own_o valV

/-- a step, over heaps of nothing -/
theorem does_any (hv : Value) (tvs : List Value) (own : Own) (rb : Nat) (K N M : Int) (v x z : Val) (key : ByteArray) (w : World) (h : HRep w hv H0 tvs own) (hr : RNil w rb) (ht : Tab w) (hs : (plainS H0 v).s.size ≤ 1000000) :
    Calls Tryz.prog 10 #[hv, .pointer (some ⟨rb, 0, none⟩), .agg (stepCells K N M v x z key)] w fun e w' => e = .returned (.bool true) ∧ Up w w' := by
  by_cases h1 : K = 1
  · subst h1; exact does_1 hv tvs own rb N M v x z key w h hr
  by_cases h2 : K = 2
  · subst h2; exact does_2 hv tvs own rb N M v x z key w h hr hs
  by_cases h3 : K = 3
  · subst h3; exact does_3 hv tvs own rb N M v x z key w h hr
  by_cases h4 : K = 4
  · subst h4; exact does_4 hv tvs own rb N M v x z key w h hr
  by_cases h5 : K = 5
  · subst h5; exact does_5 hv tvs own rb N M v x z key w h hr hs
  by_cases h6 : K = 6
  · subst h6; exact does_6 hv tvs own rb N M v x z key w h hr
  by_cases h7 : K = 7
  · subst h7; exact does_7 hv tvs own rb N M v x z key w h hr
  by_cases h8 : K = 8
  · subst h8; exact does_8 hv tvs own rb N M v x z key w h hr
  by_cases h9 : K = 9
  · subst h9; exact does_9 hv tvs own rb N M v x z key w h hr
  exact does_else hv tvs own rb K N M v x z key w h hr ht (by simpa using h1) (by simpa using h2) (by simpa using h3) (by simpa using h4) (by simpa using h5) (by simpa using h6) (by simpa using h7) (by simpa using h8) (by simpa using h9)

theorem r_new (w : World) : Calls Tryz.prog 9 #[.int .i64 0] w fun e w' => ∃ rb, e = .returned (.tuple #[.pointer (some ⟨rb, 0, none⟩), .int .i64 0]) ∧ RNil w' rb ∧ Up w w' := by
  go_enter Tryz.func9, Tryz.ntmps9
  go_wp2_with fail
  refine bodyPost_ret (v := .tuple #[.pointer (some ⟨w.heap.size, 0, none⟩), .int .i64 0]) (by simp [results, Tryz.results9, go_sem]) rfl ⟨_, rfl, alloc_get _ _, (by repeat (first | with_reducible exact Up.refl _ | with_reducible assumption | with_reducible refine Up.drewN ?_ _ | with_reducible refine Up.drew ?_ | with_reducible refine Up.alloc ?_ _ | with_reducible refine Up.setCell ?_ (by first | omega | (simp; done) | (simp; omega)) _ | with_reducible refine Up.trans ?_ (by assumption)))⟩

set_option maxRecDepth 100000 in
set_option maxHeartbeats 1600000 in
theorem heavy_one (b : Nat) (K N M : Int) (v x z : Val) (key : ByteArray) (w : World) (h : w.heap[b]? = some (.cells (stepCells K N M v x z key) 36 (0, 0)))
    (h1 : key.size ≤ 140737488351232) (h2 : v.s.size ≤ 140737488351232) (h3 : x.s.size ≤ 140737488351232) (h4 : z.s.size ≤ 140737488351232) :
    Calls Tryz.prog 6 #[.slice (some ⟨b, 0, none⟩) 1 1] w fun e w' => e = .returned (.bool (decide (8000 < key.size + v.s.size + x.s.size + z.s.size))) ∧ Up w w' := by
  have s0 := h
  have x0 := cell_of s0 0; have x1 := cell_of s0 1; have x2 := cell_of s0 2; have x3 := cell_of s0 3; have x4 := cell_of s0 4; have x5 := cell_of s0 5; have x6 := cell_of s0 6; have x7 := cell_of s0 7; have x8 := cell_of s0 8; have x9 := cell_of s0 9; have x10 := cell_of s0 10; have x11 := cell_of s0 11; have x12 := cell_of s0 12; have x99 := lt_of_heap s0; (try simp only [World.size_alloc, List.getElem?_toArray, List.getElem?_cons_zero, List.getElem?_cons_succ] at x0 x1 x2 x3 x4 x5 x6 x7 x8 x9 x10 x11 x12 x99); clear s0
  by_cases hbig : 8000 < key.size + v.s.size + x.s.size + z.s.size
  · have hb2 : (8000 : Int) < (key.size : Int) + v.s.size + x.s.size + z.s.size := by omega
    rw [decide_eq_true hbig]
    clear hbig
    go_enter Tryz.func6, Tryz.ntmps6
    go_wp2_with fail
    refine wp_loop_rounds 2 ?_
    rw [rounds_succ]
    go_wp2_with fail
    go_quiet (fail)
    go_wp2_with fail
    go_ret
    exact ⟨rfl, (by repeat (first | with_reducible exact Up.refl _ | with_reducible assumption | with_reducible refine Up.drewN ?_ _ | with_reducible refine Up.drew ?_ | with_reducible refine Up.alloc ?_ _ | with_reducible refine Up.setCell ?_ (by first | omega | (simp; done) | (simp; omega)) _ | with_reducible refine Up.trans ?_ (by assumption)))⟩
  · have hb2 : ¬ (8000 : Int) < (key.size : Int) + v.s.size + x.s.size + z.s.size := by omega
    rw [decide_eq_false hbig]
    clear hbig
    go_enter Tryz.func6, Tryz.ntmps6
    go_wp2_with fail
    refine wp_loop_rounds 2 ?_
    rw [rounds_succ]
    go_wp2_with fail
    go_quiet (fail)
    go_wp2_with fail
    rw [rounds_succ]
    go_wp2_with fail
    go_ret
    exact ⟨rfl, (by repeat (first | with_reducible exact Up.refl _ | with_reducible assumption | with_reducible refine Up.drewN ?_ _ | with_reducible refine Up.drew ?_ | with_reducible refine Up.alloc ?_ _ | with_reducible refine Up.setCell ?_ (by first | omega | (simp; done) | (simp; omega)) _ | with_reducible refine Up.trans ?_ (by assumption)))⟩

theorem plain0_text (x : Val) : (plainS H0 x).s.size ≤ x.s.size := by
  unfold plainS
  repeat' split
  all_goals first | exact Nat.le_refl _ | exact Nat.zero_le _

set_option maxRecDepth 100000 in
set_option maxHeartbeats 1600000 in
theorem nothing_any (K N M : Int) (v x z : Val) (key : ByteArray) (w : World) (ht : Tab w)
    (h1 : key.size ≤ 140737488351232) (h2 : v.s.size ≤ 140737488351232) (h3 : x.s.size ≤ 140737488351232) (h4 : z.s.size ≤ 140737488351232) :
    Calls Tryz.prog 4 #[.agg (stepCells K N M v x z key)] w fun e w' => e = .returned (.bool true) ∧ Up w w' := by
  have X0 := Lib.hid (alloc_get w (.cells (stepCells K N M v x z key) 36))
  have HT := Lib.hid ht
  have HV := Lib.hid (And.intro h1 (And.intro h2 (And.intro h3 h4)))
  clear ht h1 h2 h3 h4
  by_cases hbig : 8000 < key.size + v.s.size + x.s.size + z.s.size
  · have HB := Lib.hid (decide_eq_true hbig)
    clear hbig
    go_enter Tryz.func4, Tryz.ntmps4
    go_wp2_with (first | (go_at_call 6; refine (heavy_one _ K N M v x z key _ (alloc_at _ _ _ (by simp)) HV.out.1 HV.out.2.1 HV.out.2.2.1 HV.out.2.2.2).mono ?_; rintro e w2 ⟨rfl, hu2⟩; rw [HB.out]) | (go_at_call 7; refine (known_any _).mono ?_; rintro e w3 ⟨rfl, hu3⟩))
    go_ret
    exact ⟨rfl, (by repeat (first | with_reducible exact Up.refl _ | with_reducible assumption | with_reducible refine Up.drewN ?_ _ | with_reducible refine Up.drew ?_ | with_reducible refine Up.alloc ?_ _ | with_reducible refine Up.setCell ?_ (by first | omega | (simp; done) | (simp; omega)) _ | with_reducible refine Up.trans ?_ (by assumption)))⟩
  · have HB := Lib.hid (decide_eq_false hbig)
    have HZ := Lib.hid (show (plainS H0 v).s.size ≤ 1000000 by have := plain0_text v; omega)
    clear hbig
    go_enter Tryz.func4, Tryz.ntmps4
    go_wp2_with (first | (go_at_call 6; refine (heavy_one _ K N M v x z key _ (alloc_at _ _ _ (by simp)) HV.out.1 HV.out.2.1 HV.out.2.2.1 HV.out.2.2.2).mono ?_; rintro e w2 ⟨rfl, hu2⟩; rw [HB.out]; have s0 := Up.get (w' := w2) (by repeat (first | with_reducible exact Up.refl _ | with_reducible assumption | with_reducible refine Up.drewN ?_ _ | with_reducible refine Up.drew ?_ | with_reducible refine Up.alloc ?_ _ | with_reducible refine Up.setCell ?_ (by first | omega | (simp; done) | (simp; omega)) _ | with_reducible refine Up.trans ?_ (by assumption))) X0.out; have x0 := cell_of s0 0; have x1 := cell_of s0 1; have x2 := cell_of s0 2; have x3 := cell_of s0 3; have x4 := cell_of s0 4; have x5 := cell_of s0 5; have x6 := cell_of s0 6; have x7 := cell_of s0 7; have x8 := cell_of s0 8; have x9 := cell_of s0 9; have x10 := cell_of s0 10; have x11 := cell_of s0 11; have x12 := cell_of s0 12; have x99 := lt_of_heap s0; (try simp only [World.size_alloc, List.getElem?_toArray, List.getElem?_cons_zero, List.getElem?_cons_succ] at x0 x1 x2 x3 x4 x5 x6 x7 x8 x9 x10 x11 x12 x99); clear s0) | (go_at_call 9; refine (r_new _).mono ?_; rintro e w3 ⟨rb, rfl, hr, hu3⟩; have HR := Lib.hid hr; clear hr; have s0 := Up.get (w' := w3) (by repeat (first | with_reducible exact Up.refl _ | with_reducible assumption | with_reducible refine Up.drewN ?_ _ | with_reducible refine Up.drew ?_ | with_reducible refine Up.alloc ?_ _ | with_reducible refine Up.setCell ?_ (by first | omega | (simp; done) | (simp; omega)) _ | with_reducible refine Up.trans ?_ (by assumption))) X0.out; have x0 := cell_of s0 0; have x1 := cell_of s0 1; have x2 := cell_of s0 2; have x3 := cell_of s0 3; have x4 := cell_of s0 4; have x5 := cell_of s0 5; have x6 := cell_of s0 6; have x7 := cell_of s0 7; have x8 := cell_of s0 8; have x9 := cell_of s0 9; have x10 := cell_of s0 10; have x11 := cell_of s0 11; have x12 := cell_of s0 12; have x99 := lt_of_heap s0; (try simp only [World.size_alloc, List.getElem?_toArray, List.getElem?_cons_zero, List.getElem?_cons_succ] at x0 x1 x2 x3 x4 x5 x6 x7 x8 x9 x10 x11 x12 x99); clear s0))
    refine (does_any _ _ _ rb K N M v x z key _ (.some _ _ _ _ (Rep.fresh 0 w3 (by decide) (by decide))) (HR.out.up (by repeat (first | with_reducible exact Up.refl _ | with_reducible assumption | with_reducible refine Up.drewN ?_ _ | with_reducible refine Up.drew ?_ | with_reducible refine Up.alloc ?_ _ | with_reducible refine Up.setCell ?_ (by first | omega | (simp; done) | (simp; omega)) _ | with_reducible refine Up.trans ?_ (by assumption)))) (HT.out.up (by repeat (first | with_reducible exact Up.refl _ | with_reducible assumption | with_reducible refine Up.drewN ?_ _ | with_reducible refine Up.drew ?_ | with_reducible refine Up.alloc ?_ _ | with_reducible refine Up.setCell ?_ (by first | omega | (simp; done) | (simp; omega)) _ | with_reducible refine Up.trans ?_ (by assumption)))) HZ.out).mono ?_
    rintro e w4 ⟨rfl, hu4⟩
    have s0 := Up.get (w' := w4) (by repeat (first | with_reducible exact Up.refl _ | with_reducible assumption | with_reducible refine Up.drewN ?_ _ | with_reducible refine Up.drew ?_ | with_reducible refine Up.alloc ?_ _ | with_reducible refine Up.setCell ?_ (by first | omega | (simp; done) | (simp; omega)) _ | with_reducible refine Up.trans ?_ (by assumption))) X0.out
    have x0 := cell_of s0 0; have x1 := cell_of s0 1; have x2 := cell_of s0 2; have x3 := cell_of s0 3; have x4 := cell_of s0 4; have x5 := cell_of s0 5; have x6 := cell_of s0 6; have x7 := cell_of s0 7; have x8 := cell_of s0 8; have x9 := cell_of s0 9; have x10 := cell_of s0 10; have x11 := cell_of s0 11; have x12 := cell_of s0 12; have x99 := lt_of_heap s0; (try simp only [World.size_alloc, List.getElem?_toArray, List.getElem?_cons_zero, List.getElem?_cons_succ] at x0 x1 x2 x3 x4 x5 x6 x7 x8 x9 x10 x11 x12 x99); clear s0
    go_wp2_with fail
    refine (does_any _ [] (fun _ => none) rb K N M v x z key _ .nil (HR.out.up (by repeat (first | with_reducible exact Up.refl _ | with_reducible assumption | with_reducible refine Up.drewN ?_ _ | with_reducible refine Up.drew ?_ | with_reducible refine Up.alloc ?_ _ | with_reducible refine Up.setCell ?_ (by first | omega | (simp; done) | (simp; omega)) _ | with_reducible refine Up.trans ?_ (by assumption)))) (HT.out.up (by repeat (first | with_reducible exact Up.refl _ | with_reducible assumption | with_reducible refine Up.drewN ?_ _ | with_reducible refine Up.drew ?_ | with_reducible refine Up.alloc ?_ _ | with_reducible refine Up.setCell ?_ (by first | omega | (simp; done) | (simp; omega)) _ | with_reducible refine Up.trans ?_ (by assumption)))) HZ.out).mono ?_
    rintro e w5 ⟨rfl, hu5⟩
    have s0 := Up.get (w' := w5) (by repeat (first | with_reducible exact Up.refl _ | with_reducible assumption | with_reducible refine Up.drewN ?_ _ | with_reducible refine Up.drew ?_ | with_reducible refine Up.alloc ?_ _ | with_reducible refine Up.setCell ?_ (by first | omega | (simp; done) | (simp; omega)) _ | with_reducible refine Up.trans ?_ (by assumption))) X0.out
    have x0 := cell_of s0 0; have x1 := cell_of s0 1; have x2 := cell_of s0 2; have x3 := cell_of s0 3; have x4 := cell_of s0 4; have x5 := cell_of s0 5; have x6 := cell_of s0 6; have x7 := cell_of s0 7; have x8 := cell_of s0 8; have x9 := cell_of s0 9; have x10 := cell_of s0 10; have x11 := cell_of s0 11; have x12 := cell_of s0 12; have x99 := lt_of_heap s0; (try simp only [World.size_alloc, List.getElem?_toArray, List.getElem?_cons_zero, List.getElem?_cons_succ] at x0 x1 x2 x3 x4 x5 x6 x7 x8 x9 x10 x11 x12 x99); clear s0
    go_wp2_with fail
    refine (Used_any _ H0 _ _ _ (.some _ _ _ _ (Rep.fresh 0 w5 (by decide) (by decide)))).mono ?_
    rintro e w6 ⟨rfl, rfl⟩
    go_wp2_with (first | (go_at_call 7; refine (known_any _).mono ?_; rintro e w7 ⟨rfl, hu7⟩))
    go_ret
    exact ⟨rfl, (by repeat (first | with_reducible exact Up.refl _ | with_reducible assumption | with_reducible refine Up.drewN ?_ _ | with_reducible refine Up.drew ?_ | with_reducible refine Up.alloc ?_ _ | with_reducible refine Up.setCell ?_ (by first | omega | (simp; done) | (simp; omega)) _ | with_reducible refine Up.trans ?_ (by assumption)))⟩

end Go.Proofs.YtmbipadiaggolaaGreatDoor
