import Derived.Test.YtmbipadiaggolaaGreatDoorM35
import Derived.Test.YtmbipadiaggolaaGreatDoorM38
/- YtmbipadiaggolaaGreatDoorM39: lemmas of the proof, in order: BothD. -/
/- Walks: does, over two heaps of one model. -/
namespace Go.Proofs.YtmbipadiaggolaaGreatDoor
open Go.RowKit
set_option linter.unusedSimpArgs false
attribute [local go_sem] ta_aa ta_ao ta_an ta_oa ta_oo ta_on m_kind_a m_kind_o m_behind_a m_behind_o m_own_a m_own_o valV

theorem Stepped.same {hb rb : Nat} {H : HM} {tvs : List Value} {rs : List RT} {o1 o2 : Own} {w w' : World} (h : Both w hb rb H tvs rs o1 o2) (k : Up w w') : Stepped hb rb H o1 o2 w (.returned (.bool true)) w' := ⟨rfl, tvs, rs, o1, o2, h.up k, k.mut2 o1 o2⟩

set_option maxRecDepth 100000 in
set_option maxHeartbeats 3200000 in
theorem both_1 (hb rb : Nat) (H : HM) (tvs : List Value) (rs : List RT) (o1 o2 : Own) (N M : Int) (v x z : Val) (key : ByteArray) (w : World) (h : Both w hb rb H tvs rs o1 o2) :
    Calls Tryz.prog 10 #[.pointer (some ⟨hb, 0, none⟩), .pointer (some ⟨rb, 0, none⟩), .agg (stepCells 1 N M v x z key)] w (Stepped hb rb (H.step 1 N M v x z key) o1 o2 w) := by
  have hh := Lib.hid (HRep.some hb H tvs o1 h.p)
  have HB := Lib.hid h
  have HW := Lib.hid h.p.wf
  have HN1 := Lib.hid (h.new1 (Nat.le_refl _))
  have HN2 := Lib.hid (h.new2 (Nat.le_refl _))
  clear h
  have X0 := Lib.hid (alloc_get w (.cells (stepCells 1 N M v x z key) 36))
  obtain ⟨a, ha⟩ : ∃ a : Int, Hid ((if H.used < H.room then (H.things.length : Int) else -1) = a) := ⟨_, rfl⟩
  obtain ⟨c, hc⟩ : ∃ c : Int, Hid ((if H.used < H.room then (0 : Int) else 3) = c) := ⟨_, rfl⟩
  go_enter Tryz.func10, Tryz.ntmps10
  go_wp2_with (first | (go_at_call 19; refine (Make_any hb H tvs o1 _ _ _ (HB.out.p.up uq)).mono ?_; rintro e w2 ⟨rfl, tvs', o1', hR2, hM2⟩; rw [ha.out, hc.out]; have s0 := hM2.get (Up.get uq X0.out) HN1.out; have X2 := Lib.hid s0; have x0 := cell_of s0 0; have x1 := cell_of s0 1; have x2 := cell_of s0 2; have x3 := cell_of s0 3; have x4 := cell_of s0 4; have x5 := cell_of s0 5; have x6 := cell_of s0 6; have x7 := cell_of s0 7; have x8 := cell_of s0 8; have x9 := cell_of s0 9; have x10 := cell_of s0 10; have x11 := cell_of s0 11; have x12 := cell_of s0 12; have x99 := lt_of_heap s0; (try simp only [World.size_alloc, List.getElem?_toArray, List.getElem?_cons_zero, List.getElem?_cons_succ] at x0 x1 x2 x3 x4 x5 x6 x7 x8 x9 x10 x11 x12 x99); clear s0) | (go_at_call 21; refine (s_make rb H rs o2 _ _ _ ((HB.out.late uq hM2).1.up uq) HW.out).mono ?_; rintro e w3 ⟨rfl, rs', o2', hR3, hM3⟩; rw [ha.out, hc.out]; have s0 := hM3.get (Up.get uq X2.out) HN2.out; have x0 := cell_of s0 0; have x1 := cell_of s0 1; have x2 := cell_of s0 2; have x3 := cell_of s0 3; have x4 := cell_of s0 4; have x5 := cell_of s0 5; have x6 := cell_of s0 6; have x7 := cell_of s0 7; have x8 := cell_of s0 8; have x9 := cell_of s0 9; have x10 := cell_of s0 10; have x11 := cell_of s0 11; have x12 := cell_of s0 12; have x99 := lt_of_heap s0; (try simp only [World.size_alloc, List.getElem?_toArray, List.getElem?_cons_zero, List.getElem?_cons_succ] at x0 x1 x2 x3 x4 x5 x6 x7 x8 x9 x10 x11 x12 x99); clear s0))
  go_ret
  unfold HM.step; rw [if_pos rfl]
  exact ⟨rfl, _, _, _, _, both_two HB.out uq hR2 hM2 uq hR3 hM3 uq (behind_make HB.out.behind _ _)⟩

set_option maxRecDepth 100000 in
set_option maxHeartbeats 3200000 in
theorem both_3 (hb rb : Nat) (H : HM) (tvs : List Value) (rs : List RT) (o1 o2 : Own) (N M : Int) (v x z : Val) (key : ByteArray) (w : World) (h : Both w hb rb H tvs rs o1 o2) :
    Calls Tryz.prog 10 #[.pointer (some ⟨hb, 0, none⟩), .pointer (some ⟨rb, 0, none⟩), .agg (stepCells 3 N M v x z key)] w (Stepped hb rb (H.step 3 N M v x z key) o1 o2 w) := by
  have hh := Lib.hid (HRep.some hb H tvs o1 h.p)
  have HB := Lib.hid h
  have HW := Lib.hid h.p.wf
  have HN1 := Lib.hid (h.new1 (Nat.le_refl _))
  have HN2 := Lib.hid (h.new2 (Nat.le_refl _))
  clear h
  have X0 := Lib.hid (alloc_get w (.cells (stepCells 3 N M v x z key) 36))
  obtain ⟨R, hS⟩ : ∃ R, Hid (H.set v.k v.n key x = R) := ⟨_, rfl⟩
  go_enter Tryz.func10, Tryz.ntmps10
  go_wp2_with (first | (go_at_call 20; refine (Set_any hb H tvs o1 _ _ _ _ x _ (HB.out.p.up uq)).mono ?_; rintro e w2 ⟨rfl, tvs', o1', hR2, hM2⟩; rw [hS.out]; have s0 := hM2.get (Up.get uq X0.out) HN1.out; have X2 := Lib.hid s0; have x0 := cell_of s0 0; have x1 := cell_of s0 1; have x2 := cell_of s0 2; have x3 := cell_of s0 3; have x4 := cell_of s0 4; have x5 := cell_of s0 5; have x6 := cell_of s0 6; have x7 := cell_of s0 7; have x8 := cell_of s0 8; have x9 := cell_of s0 9; have x10 := cell_of s0 10; have x11 := cell_of s0 11; have x12 := cell_of s0 12; have x99 := lt_of_heap s0; (try simp only [World.size_alloc, List.getElem?_toArray, List.getElem?_cons_zero, List.getElem?_cons_succ] at x0 x1 x2 x3 x4 x5 x6 x7 x8 x9 x10 x11 x12 x99); clear s0) | (go_at_call 25; refine (s_set rb H rs o2 _ _ _ _ x _ ((HB.out.late uq hM2).1.up uq) HW.out).mono ?_; rintro e w3 ⟨rfl, rs', o2', hR3, hM3⟩; rw [hS.out]; have s0 := hM3.get (Up.get uq X2.out) HN2.out; have x0 := cell_of s0 0; have x1 := cell_of s0 1; have x2 := cell_of s0 2; have x3 := cell_of s0 3; have x4 := cell_of s0 4; have x5 := cell_of s0 5; have x6 := cell_of s0 6; have x7 := cell_of s0 7; have x8 := cell_of s0 8; have x9 := cell_of s0 9; have x10 := cell_of s0 10; have x11 := cell_of s0 11; have x12 := cell_of s0 12; have x99 := lt_of_heap s0; (try simp only [World.size_alloc, List.getElem?_toArray, List.getElem?_cons_zero, List.getElem?_cons_succ] at x0 x1 x2 x3 x4 x5 x6 x7 x8 x9 x10 x11 x12 x99); clear s0) | (go_at_call 23; refine (same_self _ _ _ _ _ _).mono ?_; rintro e w5 ⟨rfl, hu5⟩))
  go_ret
  unfold HM.step; rw [if_neg (by decide), if_pos rfl]
  exact ⟨rfl, _, _, _, _, both_two HB.out uq hR2 hM2 uq hR3 hM3 uq (behind_mset HB.out.behind _ _ _ _)⟩

set_option maxRecDepth 100000 in
set_option maxHeartbeats 3200000 in
theorem both_6 (hb rb : Nat) (H : HM) (tvs : List Value) (rs : List RT) (o1 o2 : Own) (N M : Int) (v x z : Val) (key : ByteArray) (w : World) (h : Both w hb rb H tvs rs o1 o2) :
    Calls Tryz.prog 10 #[.pointer (some ⟨hb, 0, none⟩), .pointer (some ⟨rb, 0, none⟩), .agg (stepCells 6 N M v x z key)] w (Stepped hb rb (H.step 6 N M v x z key) o1 o2 w) := by
  have hh := Lib.hid (HRep.some hb H tvs o1 h.p)
  have HB := Lib.hid h
  have HW := Lib.hid h.p.wf
  have HN1 := Lib.hid (h.new1 (Nat.le_refl _))
  have HN2 := Lib.hid (h.new2 (Nat.le_refl _))
  clear h
  have X0 := Lib.hid (alloc_get w (.cells (stepCells 6 N M v x z key) 36))
  obtain ⟨R, hS⟩ : ∃ R, Hid (H.put v x z = R) := ⟨_, rfl⟩
  go_enter Tryz.func10, Tryz.ntmps10
  go_wp2_with (first | (go_at_call 30; refine (Put_any hb H tvs o1 v x z _ (HB.out.p.up uq)).mono ?_; rintro e w2 ⟨rfl, tvs', o1', hR2, hM2⟩; rw [hS.out]; have s0 := hM2.get (Up.get uq X0.out) HN1.out; have X2 := Lib.hid s0; have x0 := cell_of s0 0; have x1 := cell_of s0 1; have x2 := cell_of s0 2; have x3 := cell_of s0 3; have x4 := cell_of s0 4; have x5 := cell_of s0 5; have x6 := cell_of s0 6; have x7 := cell_of s0 7; have x8 := cell_of s0 8; have x9 := cell_of s0 9; have x10 := cell_of s0 10; have x11 := cell_of s0 11; have x12 := cell_of s0 12; have x99 := lt_of_heap s0; (try simp only [World.size_alloc, List.getElem?_toArray, List.getElem?_cons_zero, List.getElem?_cons_succ] at x0 x1 x2 x3 x4 x5 x6 x7 x8 x9 x10 x11 x12 x99); clear s0) | (go_at_call 31; refine (s_put rb H rs o2 v x z _ ((HB.out.late uq hM2).1.up uq) HW.out).mono ?_; rintro e w3 ⟨rfl, rs', o2', hR3, hM3⟩; rw [hS.out]; have s0 := hM3.get (Up.get uq X2.out) HN2.out; have x0 := cell_of s0 0; have x1 := cell_of s0 1; have x2 := cell_of s0 2; have x3 := cell_of s0 3; have x4 := cell_of s0 4; have x5 := cell_of s0 5; have x6 := cell_of s0 6; have x7 := cell_of s0 7; have x8 := cell_of s0 8; have x9 := cell_of s0 9; have x10 := cell_of s0 10; have x11 := cell_of s0 11; have x12 := cell_of s0 12; have x99 := lt_of_heap s0; (try simp only [World.size_alloc, List.getElem?_toArray, List.getElem?_cons_zero, List.getElem?_cons_succ] at x0 x1 x2 x3 x4 x5 x6 x7 x8 x9 x10 x11 x12 x99); clear s0) | (go_at_call 23; refine (same_self _ _ _ _ _ _).mono ?_; rintro e w5 ⟨rfl, hu5⟩))
  go_ret
  unfold HM.step; rw [if_neg (by decide), if_neg (by decide), if_pos rfl]
  exact ⟨rfl, _, _, _, _, both_two HB.out uq hR2 hM2 uq hR3 hM3 uq (behind_put HB.out.behind _ _ _)⟩

set_option maxRecDepth 100000 in
set_option maxHeartbeats 3200000 in
theorem both_7 (hb rb : Nat) (H : HM) (tvs : List Value) (rs : List RT) (o1 o2 : Own) (N M : Int) (v x z : Val) (key : ByteArray) (w : World) (h : Both w hb rb H tvs rs o1 o2) :
    Calls Tryz.prog 10 #[.pointer (some ⟨hb, 0, none⟩), .pointer (some ⟨rb, 0, none⟩), .agg (stepCells 7 N M v x z key)] w (Stepped hb rb (H.step 7 N M v x z key) o1 o2 w) := by
  have hh := Lib.hid (HRep.some hb H tvs o1 h.p)
  have HB := Lib.hid h
  have HW := Lib.hid h.p.wf
  have HN1 := Lib.hid (h.new1 (Nat.le_refl _))
  have HN2 := Lib.hid (h.new2 (Nat.le_refl _))
  clear h
  have X0 := Lib.hid (alloc_get w (.cells (stepCells 7 N M v x z key) 36))
  obtain ⟨R, hS⟩ : ∃ R, Hid (H.push N v = R) := ⟨_, rfl⟩
  go_enter Tryz.func10, Tryz.ntmps10
  go_wp2_with (first | (go_at_call 32; refine (Push_any hb H tvs o1 _ v _ (HB.out.p.up uq)).mono ?_; rintro e w2 ⟨rfl, tvs', o1', hR2, hM2⟩; rw [hS.out]; have s0 := hM2.get (Up.get uq X0.out) HN1.out; have X2 := Lib.hid s0; have x0 := cell_of s0 0; have x1 := cell_of s0 1; have x2 := cell_of s0 2; have x3 := cell_of s0 3; have x4 := cell_of s0 4; have x5 := cell_of s0 5; have x6 := cell_of s0 6; have x7 := cell_of s0 7; have x8 := cell_of s0 8; have x9 := cell_of s0 9; have x10 := cell_of s0 10; have x11 := cell_of s0 11; have x12 := cell_of s0 12; have x99 := lt_of_heap s0; (try simp only [World.size_alloc, List.getElem?_toArray, List.getElem?_cons_zero, List.getElem?_cons_succ] at x0 x1 x2 x3 x4 x5 x6 x7 x8 x9 x10 x11 x12 x99); clear s0) | (go_at_call 33; refine (s_push rb H rs o2 _ v _ ((HB.out.late uq hM2).1.up uq) HW.out).mono ?_; rintro e w3 ⟨rfl, rs', o2', hR3, hM3⟩; rw [hS.out]; have s0 := hM3.get (Up.get uq X2.out) HN2.out; have x0 := cell_of s0 0; have x1 := cell_of s0 1; have x2 := cell_of s0 2; have x3 := cell_of s0 3; have x4 := cell_of s0 4; have x5 := cell_of s0 5; have x6 := cell_of s0 6; have x7 := cell_of s0 7; have x8 := cell_of s0 8; have x9 := cell_of s0 9; have x10 := cell_of s0 10; have x11 := cell_of s0 11; have x12 := cell_of s0 12; have x99 := lt_of_heap s0; (try simp only [World.size_alloc, List.getElem?_toArray, List.getElem?_cons_zero, List.getElem?_cons_succ] at x0 x1 x2 x3 x4 x5 x6 x7 x8 x9 x10 x11 x12 x99); clear s0))
  go_ret
  unfold HM.step; rw [if_neg (by decide), if_neg (by decide), if_neg (by decide), if_pos rfl]
  exact ⟨rfl, _, _, _, _, both_two HB.out uq hR2 hM2 uq hR3 hM3 uq (behind_push HB.out.behind _ _)⟩

set_option maxRecDepth 100000 in
set_option maxHeartbeats 3200000 in
theorem both_4 (hb rb : Nat) (H : HM) (tvs : List Value) (rs : List RT) (o1 o2 : Own) (N M : Int) (v x z : Val) (key : ByteArray) (w : World) (h : Both w hb rb H tvs rs o1 o2) :
    Calls Tryz.prog 10 #[.pointer (some ⟨hb, 0, none⟩), .pointer (some ⟨rb, 0, none⟩), .agg (stepCells 4 N M v x z key)] w (Stepped hb rb (H.step 4 N M v x z key) o1 o2 w) := by
  have hh := Lib.hid (HRep.some hb H tvs o1 h.p)
  have HB := Lib.hid h
  have HW := Lib.hid h.p.wf
  have HN1 := Lib.hid (h.new1 (Nat.le_refl _))
  have HN2 := Lib.hid (h.new2 (Nat.le_refl _))
  clear h
  have X0 := Lib.hid (alloc_get w (.cells (stepCells 4 N M v x z key) 36))
  obtain ⟨r, hg⟩ : ∃ r, Hid (H.has v.k v.n key = r) := ⟨_, rfl⟩
  go_enter Tryz.func10, Tryz.ntmps10
  go_wp2_with (first | (go_at_call 26; refine (Has_any (.pointer (some ⟨hb, 0, none⟩)) H tvs o1 _ _ _ _ _ (hh.out.up uq)).mono ?_; rintro e w2 ⟨rfl, hu2⟩; rw [hg.out]; have s0 := Up.get (w' := w2) uq X0.out; have x0 := cell_of s0 0; have x1 := cell_of s0 1; have x2 := cell_of s0 2; have x3 := cell_of s0 3; have x4 := cell_of s0 4; have x5 := cell_of s0 5; have x6 := cell_of s0 6; have x7 := cell_of s0 7; have x8 := cell_of s0 8; have x9 := cell_of s0 9; have x10 := cell_of s0 10; have x11 := cell_of s0 11; have x12 := cell_of s0 12; have x99 := lt_of_heap s0; (try simp only [World.size_alloc, List.getElem?_toArray, List.getElem?_cons_zero, List.getElem?_cons_succ] at x0 x1 x2 x3 x4 x5 x6 x7 x8 x9 x10 x11 x12 x99); clear s0) | (go_at_call 27; refine (s_has rb H rs o2 _ _ _ _ _ (HB.out.r.up uq) HW.out HB.out.behind).mono ?_; rintro e w3 ⟨rfl, hu3⟩; rw [hg.out]; have s0 := Up.get (w' := w3) uq X0.out; have x0 := cell_of s0 0; have x1 := cell_of s0 1; have x2 := cell_of s0 2; have x3 := cell_of s0 3; have x4 := cell_of s0 4; have x5 := cell_of s0 5; have x6 := cell_of s0 6; have x7 := cell_of s0 7; have x8 := cell_of s0 8; have x9 := cell_of s0 9; have x10 := cell_of s0 10; have x11 := cell_of s0 11; have x12 := cell_of s0 12; have x99 := lt_of_heap s0; (try simp only [World.size_alloc, List.getElem?_toArray, List.getElem?_cons_zero, List.getElem?_cons_succ] at x0 x1 x2 x3 x4 x5 x6 x7 x8 x9 x10 x11 x12 x99); clear s0) | (go_at_call 23; refine (same_self _ _ _ _ _ _).mono ?_; rintro e w5 ⟨rfl, hu5⟩))
  go_ret
  exact Stepped.same HB.out uq

set_option maxRecDepth 100000 in
set_option maxHeartbeats 3200000 in
theorem both_2 (hb rb : Nat) (H : HM) (tvs : List Value) (rs : List RT) (o1 o2 : Own) (N M : Int) (v x z : Val) (key : ByteArray) (w : World) (h : Both w hb rb H tvs rs o1 o2) (hs : (plainS H v).s.size ≤ 1000000) :
    Calls Tryz.prog 10 #[.pointer (some ⟨hb, 0, none⟩), .pointer (some ⟨rb, 0, none⟩), .agg (stepCells 2 N M v x z key)] w (Stepped hb rb (H.step 2 N M v x z key) o1 o2 w) := by
  have hh := Lib.hid (HRep.some hb H tvs o1 h.p)
  have HB := Lib.hid h
  have HW := Lib.hid h.p.wf
  have HN1 := Lib.hid (h.new1 (Nat.le_refl _))
  have HN2 := Lib.hid (h.new2 (Nat.le_refl _))
  clear h
  have X0 := Lib.hid (alloc_get w (.cells (stepCells 2 N M v x z key) 36))
  obtain ⟨r, hg⟩ : ∃ r, Hid (H.get v key (runesN (plainS H v).s) = r) := ⟨_, rfl⟩
  have HZ := Lib.hid hs
  go_enter Tryz.func10, Tryz.ntmps10
  go_wp2_with (first | (go_at_call 22; refine (Get_full (.pointer (some ⟨hb, 0, none⟩)) H tvs o1 v.k v.n v.s key _ (hh.out.up uq) (Nat.le_trans HZ.out (by decide))).mono ?_; rintro e w2 ⟨rfl, hu2⟩; rw [hg.out]; have X2 := Lib.hid (Up.get (w' := w2) uq X0.out); have s0 := alloc_keep (o := .cells #[.int .i64 r.1.k, .int .i64 r.1.n, .string r.1.s] 34) (Up.get (w' := w2) uq X0.out); have x0 := cell_of s0 0; have x1 := cell_of s0 1; have x2 := cell_of s0 2; have x3 := cell_of s0 3; have x4 := cell_of s0 4; have x5 := cell_of s0 5; have x6 := cell_of s0 6; have x7 := cell_of s0 7; have x8 := cell_of s0 8; have x9 := cell_of s0 9; have x10 := cell_of s0 10; have x11 := cell_of s0 11; have x12 := cell_of s0 12; have x99 := lt_of_heap s0; (try simp only [World.size_alloc, List.getElem?_toArray, List.getElem?_cons_zero, List.getElem?_cons_succ] at x0 x1 x2 x3 x4 x5 x6 x7 x8 x9 x10 x11 x12 x99); clear s0; have s0 := alloc_get w2 (.cells #[.int .i64 r.1.k, .int .i64 r.1.n, .string r.1.s] 34); have a0 := cell_of s0 0; have a1 := cell_of s0 1; have a2 := cell_of s0 2; have f0 := ice_of s0 0; have f1 := ice_of s0 1; have f2 := ice_of s0 2; have a4 := lt_of_heap s0; (try simp only [World.size_alloc, List.getElem?_toArray, List.getElem?_cons_zero, List.getElem?_cons_succ] at a0 a1 a2 f0 f1 f2 a4); clear s0))
  go_region_held3 (fun W => W.cell? ⟨w2.heap.size, 0, none⟩ = some (.int .i64 r.1.k) ∧ W.cell? ⟨w2.heap.size, 1, none⟩ = some (.int .i64 r.1.n) ∧ W.cell? ⟨w2.heap.size, 2, none⟩ = some (.string r.1.s) ∧ W.cell? ⟨w.heap.size, 3, none⟩ = some (.int .i64 v.k) ∧ W.cell? ⟨w.heap.size, 4, none⟩ = some (.int .i64 v.n) ∧ W.cell? ⟨w.heap.size, 5, none⟩ = some (.string v.s) ∧ W.cell? ⟨w.heap.size, 12, none⟩ = some (.string key)) (go_keep) (first | (go_at_call 24; refine (s_get rb H rs o2 v.k v.n v.s key _ (HB.out.r.up uq) HW.out HB.out.behind HZ.out).mono ?_; rintro e w3 ⟨rfl, hu3⟩; rw [hg.out]; have s0 := hu3.get (Up.get (w := w2) uq X2.out); have x0 := cell_of s0 0; have x1 := cell_of s0 1; have x2 := cell_of s0 2; have x3 := cell_of s0 3; have x4 := cell_of s0 4; have x5 := cell_of s0 5; have x6 := cell_of s0 6; have x7 := cell_of s0 7; have x8 := cell_of s0 8; have x9 := cell_of s0 9; have x10 := cell_of s0 10; have x11 := cell_of s0 11; have x12 := cell_of s0 12; have x99 := lt_of_heap s0; (try simp only [World.size_alloc, List.getElem?_toArray, List.getElem?_cons_zero, List.getElem?_cons_succ] at x0 x1 x2 x3 x4 x5 x6 x7 x8 x9 x10 x11 x12 x99); clear s0; have s0 := hu3.get (Up.get uq (alloc_get w2 (.cells #[.int .i64 r.1.k, .int .i64 r.1.n, .string r.1.s] 34))); have a0 := cell_of s0 0; have a1 := cell_of s0 1; have a2 := cell_of s0 2; have f0 := ice_of s0 0; have f1 := ice_of s0 1; have f2 := ice_of s0 2; have a4 := lt_of_heap s0; (try simp only [World.size_alloc, List.getElem?_toArray, List.getElem?_cons_zero, List.getElem?_cons_succ] at a0 a1 a2 f0 f1 f2 a4); clear s0) | (go_at_call 23; refine (same_self _ _ _ _ _ _).mono ?_; rintro e w5 ⟨rfl, hu5⟩; have s0 := hu5.get (Up.get (w := w2) uq X2.out); have x0 := cell_of s0 0; have x1 := cell_of s0 1; have x2 := cell_of s0 2; have x3 := cell_of s0 3; have x4 := cell_of s0 4; have x5 := cell_of s0 5; have x6 := cell_of s0 6; have x7 := cell_of s0 7; have x8 := cell_of s0 8; have x9 := cell_of s0 9; have x10 := cell_of s0 10; have x11 := cell_of s0 11; have x12 := cell_of s0 12; have x99 := lt_of_heap s0; (try simp only [World.size_alloc, List.getElem?_toArray, List.getElem?_cons_zero, List.getElem?_cons_succ] at x0 x1 x2 x3 x4 x5 x6 x7 x8 x9 x10 x11 x12 x99); clear s0; have s0 := hu5.get (Up.get uq (alloc_get w2 (.cells #[.int .i64 r.1.k, .int .i64 r.1.n, .string r.1.s] 34))); have a0 := cell_of s0 0; have a1 := cell_of s0 1; have a2 := cell_of s0 2; have f0 := ice_of s0 0; have f1 := ice_of s0 1; have f2 := ice_of s0 2; have a4 := lt_of_heap s0; (try simp only [World.size_alloc, List.getElem?_toArray, List.getElem?_cons_zero, List.getElem?_cons_succ] at a0 a1 a2 f0 f1 f2 a4); clear s0))
  go_wp2_with fail
  go_ret
  exact Stepped.same HB.out uq

set_option maxRecDepth 100000 in
set_option maxHeartbeats 3200000 in
theorem both_5 (hb rb : Nat) (H : HM) (tvs : List Value) (rs : List RT) (o1 o2 : Own) (N M : Int) (v x z : Val) (key : ByteArray) (w : World) (h : Both w hb rb H tvs rs o1 o2) (hs : (plainS H v).s.size ≤ 1000000) :
    Calls Tryz.prog 10 #[.pointer (some ⟨hb, 0, none⟩), .pointer (some ⟨rb, 0, none⟩), .agg (stepCells 5 N M v x z key)] w (Stepped hb rb (H.step 5 N M v x z key) o1 o2 w) := by
  have hh := Lib.hid (HRep.some hb H tvs o1 h.p)
  have HB := Lib.hid h
  have HW := Lib.hid h.p.wf
  have HN1 := Lib.hid (h.new1 (Nat.le_refl _))
  have HN2 := Lib.hid (h.new2 (Nat.le_refl _))
  clear h
  have X0 := Lib.hid (alloc_get w (.cells (stepCells 5 N M v x z key) 36))
  obtain ⟨r, hg⟩ : ∃ r, Hid (H.atG v x = r) := ⟨_, rfl⟩
  have HZ := Lib.hid hs
  go_enter Tryz.func10, Tryz.ntmps10
  go_wp2_with (first | (go_at_call 28; refine (At_any hb H tvs o1 v x _ (HB.out.p.up uq) HZ.out).mono ?_; rintro e w2 ⟨rfl, hu2⟩; rw [hg.out]; have X2 := Lib.hid (Up.get (w' := w2) uq X0.out); have s0 := alloc_keep (o := .cells #[.int .i64 r.1.k, .int .i64 r.1.n, .string r.1.s] 34) (Up.get (w' := w2) uq X0.out); have x0 := cell_of s0 0; have x1 := cell_of s0 1; have x2 := cell_of s0 2; have x3 := cell_of s0 3; have x4 := cell_of s0 4; have x5 := cell_of s0 5; have x6 := cell_of s0 6; have x7 := cell_of s0 7; have x8 := cell_of s0 8; have x9 := cell_of s0 9; have x10 := cell_of s0 10; have x11 := cell_of s0 11; have x12 := cell_of s0 12; have x99 := lt_of_heap s0; (try simp only [World.size_alloc, List.getElem?_toArray, List.getElem?_cons_zero, List.getElem?_cons_succ] at x0 x1 x2 x3 x4 x5 x6 x7 x8 x9 x10 x11 x12 x99); clear s0; have s0 := alloc_get w2 (.cells #[.int .i64 r.1.k, .int .i64 r.1.n, .string r.1.s] 34); have a0 := cell_of s0 0; have a1 := cell_of s0 1; have a2 := cell_of s0 2; have f0 := ice_of s0 0; have f1 := ice_of s0 1; have f2 := ice_of s0 2; have a4 := lt_of_heap s0; (try simp only [World.size_alloc, List.getElem?_toArray, List.getElem?_cons_zero, List.getElem?_cons_succ] at a0 a1 a2 f0 f1 f2 a4); clear s0))
  go_region_held3 (fun W => W.cell? ⟨w2.heap.size, 0, none⟩ = some (.int .i64 r.1.k) ∧ W.cell? ⟨w2.heap.size, 1, none⟩ = some (.int .i64 r.1.n) ∧ W.cell? ⟨w2.heap.size, 2, none⟩ = some (.string r.1.s) ∧ W.cell? ⟨w.heap.size, 3, none⟩ = some (.int .i64 v.k) ∧ W.cell? ⟨w.heap.size, 4, none⟩ = some (.int .i64 v.n) ∧ W.cell? ⟨w.heap.size, 5, none⟩ = some (.string v.s) ∧ W.cell? ⟨w.heap.size, 6, none⟩ = some (.int .i64 x.k) ∧ W.cell? ⟨w.heap.size, 7, none⟩ = some (.int .i64 x.n) ∧ W.cell? ⟨w.heap.size, 8, none⟩ = some (.string x.s)) (go_keep) (first | (go_at_call 29; refine (s_at rb H rs o2 v x _ (HB.out.r.up uq) HW.out HB.out.behind HZ.out).mono ?_; rintro e w3 ⟨rfl, hu3⟩; rw [hg.out]; have s0 := hu3.get (Up.get (w := w2) uq X2.out); have x0 := cell_of s0 0; have x1 := cell_of s0 1; have x2 := cell_of s0 2; have x3 := cell_of s0 3; have x4 := cell_of s0 4; have x5 := cell_of s0 5; have x6 := cell_of s0 6; have x7 := cell_of s0 7; have x8 := cell_of s0 8; have x9 := cell_of s0 9; have x10 := cell_of s0 10; have x11 := cell_of s0 11; have x12 := cell_of s0 12; have x99 := lt_of_heap s0; (try simp only [World.size_alloc, List.getElem?_toArray, List.getElem?_cons_zero, List.getElem?_cons_succ] at x0 x1 x2 x3 x4 x5 x6 x7 x8 x9 x10 x11 x12 x99); clear s0; have s0 := hu3.get (Up.get uq (alloc_get w2 (.cells #[.int .i64 r.1.k, .int .i64 r.1.n, .string r.1.s] 34))); have a0 := cell_of s0 0; have a1 := cell_of s0 1; have a2 := cell_of s0 2; have f0 := ice_of s0 0; have f1 := ice_of s0 1; have f2 := ice_of s0 2; have a4 := lt_of_heap s0; (try simp only [World.size_alloc, List.getElem?_toArray, List.getElem?_cons_zero, List.getElem?_cons_succ] at a0 a1 a2 f0 f1 f2 a4); clear s0) | (go_at_call 23; refine (same_self _ _ _ _ _ _).mono ?_; rintro e w5 ⟨rfl, hu5⟩; have s0 := hu5.get (Up.get (w := w2) uq X2.out); have x0 := cell_of s0 0; have x1 := cell_of s0 1; have x2 := cell_of s0 2; have x3 := cell_of s0 3; have x4 := cell_of s0 4; have x5 := cell_of s0 5; have x6 := cell_of s0 6; have x7 := cell_of s0 7; have x8 := cell_of s0 8; have x9 := cell_of s0 9; have x10 := cell_of s0 10; have x11 := cell_of s0 11; have x12 := cell_of s0 12; have x99 := lt_of_heap s0; (try simp only [World.size_alloc, List.getElem?_toArray, List.getElem?_cons_zero, List.getElem?_cons_succ] at x0 x1 x2 x3 x4 x5 x6 x7 x8 x9 x10 x11 x12 x99); clear s0; have s0 := hu5.get (Up.get uq (alloc_get w2 (.cells #[.int .i64 r.1.k, .int .i64 r.1.n, .string r.1.s] 34))); have a0 := cell_of s0 0; have a1 := cell_of s0 1; have a2 := cell_of s0 2; have f0 := ice_of s0 0; have f1 := ice_of s0 1; have f2 := ice_of s0 2; have a4 := lt_of_heap s0; (try simp only [World.size_alloc, List.getElem?_toArray, List.getElem?_cons_zero, List.getElem?_cons_succ] at a0 a1 a2 f0 f1 f2 a4); clear s0))
  go_wp2_with fail
  go_ret
  exact Stepped.same HB.out uq

set_option maxRecDepth 100000 in
set_option maxHeartbeats 3200000 in
theorem both_9 (hb rb : Nat) (H : HM) (tvs : List Value) (rs : List RT) (o1 o2 : Own) (N M : Int) (v x z : Val) (key : ByteArray) (w : World) (h : Both w hb rb H tvs rs o1 o2) :
    Calls Tryz.prog 10 #[.pointer (some ⟨hb, 0, none⟩), .pointer (some ⟨rb, 0, none⟩), .agg (stepCells 9 N M v x z key)] w (Stepped hb rb (H.step 9 N M v x z key) o1 o2 w) := by
  have hh := Lib.hid (HRep.some hb H tvs o1 h.p)
  have HB := Lib.hid h
  have HW := Lib.hid h.p.wf
  have HN1 := Lib.hid (h.new1 (Nat.le_refl _))
  have HN2 := Lib.hid (h.new2 (Nat.le_refl _))
  clear h
  have X0 := Lib.hid (alloc_get w (.cells (stepCells 9 N M v x z key) 36))
  obtain ⟨a, b, ha, hbb, hab⟩ : ∃ a b, Hid (H.typeofG v = a) ∧ Hid (H.typeofG v = b) ∧ (a.toList == b.toList) = true := ⟨_, _, rfl, rfl, by simp⟩
  go_enter Tryz.func10, Tryz.ntmps10
  go_wp2_with (first | fail)
  have s0 := X0.out
  have x0 := cell_of s0 0; have x1 := cell_of s0 1; have x2 := cell_of s0 2; have x3 := cell_of s0 3; have x4 := cell_of s0 4; have x5 := cell_of s0 5; have x6 := cell_of s0 6; have x7 := cell_of s0 7; have x8 := cell_of s0 8; have x9 := cell_of s0 9; have x10 := cell_of s0 10; have x11 := cell_of s0 11; have x12 := cell_of s0 12; have x99 := lt_of_heap s0; (try simp only [World.size_alloc, List.getElem?_toArray, List.getElem?_cons_zero, List.getElem?_cons_succ] at x0 x1 x2 x3 x4 x5 x6 x7 x8 x9 x10 x11 x12 x99); clear s0
  go_region_held3 (fun W => W.cell? ⟨w.heap.size, 3, none⟩ = some (.int .i64 v.k) ∧ W.cell? ⟨w.heap.size, 4, none⟩ = some (.int .i64 v.n) ∧ W.cell? ⟨w.heap.size, 5, none⟩ = some (.string v.s)) (go_keep) (first | (go_at_call 18; refine (Typeof_any (.pointer (some ⟨hb, 0, none⟩)) H tvs o1 v.k v.n v.s _ (hh.out.up uq)).mono ?_; rintro e w2 ⟨rfl, hu2⟩; rw [ha.out]; have s0 := Up.get (w' := w2) uq X0.out; have x0 := cell_of s0 0; have x1 := cell_of s0 1; have x2 := cell_of s0 2; have x3 := cell_of s0 3; have x4 := cell_of s0 4; have x5 := cell_of s0 5; have x6 := cell_of s0 6; have x7 := cell_of s0 7; have x8 := cell_of s0 8; have x9 := cell_of s0 9; have x10 := cell_of s0 10; have x11 := cell_of s0 11; have x12 := cell_of s0 12; have x99 := lt_of_heap s0; (try simp only [World.size_alloc, List.getElem?_toArray, List.getElem?_cons_zero, List.getElem?_cons_succ] at x0 x1 x2 x3 x4 x5 x6 x7 x8 x9 x10 x11 x12 x99); clear s0) | (go_at_call 34; refine (s_typeof rb H rs o2 v.k v.n v.s _ (HB.out.r.up uq) HW.out).mono ?_; rintro e w3 ⟨rfl, hu3⟩; rw [hbb.out]; have s0 := Up.get (w' := w3) uq X0.out; have x0 := cell_of s0 0; have x1 := cell_of s0 1; have x2 := cell_of s0 2; have x3 := cell_of s0 3; have x4 := cell_of s0 4; have x5 := cell_of s0 5; have x6 := cell_of s0 6; have x7 := cell_of s0 7; have x8 := cell_of s0 8; have x9 := cell_of s0 9; have x10 := cell_of s0 10; have x11 := cell_of s0 11; have x12 := cell_of s0 12; have x99 := lt_of_heap s0; (try simp only [World.size_alloc, List.getElem?_toArray, List.getElem?_cons_zero, List.getElem?_cons_succ] at x0 x1 x2 x3 x4 x5 x6 x7 x8 x9 x10 x11 x12 x99); clear s0))
  go_wp2_with fail
  go_ret
  exact Stepped.same HB.out uq

set_option maxRecDepth 100000 in
set_option maxHeartbeats 3200000 in
theorem both_8 (hb rb : Nat) (H : HM) (tvs : List Value) (rs : List RT) (o1 o2 : Own) (N M : Int) (v x z : Val) (key : ByteArray) (w : World) (h : Both w hb rb H tvs rs o1 o2) :
    Calls Tryz.prog 10 #[.pointer (some ⟨hb, 0, none⟩), .pointer (some ⟨rb, 0, none⟩), .agg (stepCells 8 N M v x z key)] w (Stepped hb rb (H.step 8 N M v x z key) o1 o2 w) := by
  have hh := Lib.hid (HRep.some hb H tvs o1 h.p)
  have HB := Lib.hid h
  have HW := Lib.hid h.p.wf
  have HN1 := Lib.hid (h.new1 (Nat.le_refl _))
  have HN2 := Lib.hid (h.new2 (Nat.le_refl _))
  clear h
  have X0 := Lib.hid (alloc_get w (.cells (stepCells 8 N M v x z key) 36))
  obtain ⟨a, hl⟩ : ∃ a, Hid (H.lenOf N = a) := ⟨_, rfl⟩
  obtain ⟨c, hk⟩ : ∃ c, Hid (H.kindOf N = c) := ⟨_, rfl⟩
  go_enter Tryz.func10, Tryz.ntmps10
  go_wp2_with (first | fail)
  have s0 := X0.out
  have x0 := cell_of s0 0; have x1 := cell_of s0 1; have x2 := cell_of s0 2; have x3 := cell_of s0 3; have x4 := cell_of s0 4; have x5 := cell_of s0 5; have x6 := cell_of s0 6; have x7 := cell_of s0 7; have x8 := cell_of s0 8; have x9 := cell_of s0 9; have x10 := cell_of s0 10; have x11 := cell_of s0 11; have x12 := cell_of s0 12; have x99 := lt_of_heap s0; (try simp only [World.size_alloc, List.getElem?_toArray, List.getElem?_cons_zero, List.getElem?_cons_succ] at x0 x1 x2 x3 x4 x5 x6 x7 x8 x9 x10 x11 x12 x99); clear s0
  go_region_held3 (fun W => W.cell? ⟨w.heap.size, 1, none⟩ = some (.int .i64 N)) (go_keep) (first | (go_at_call 16; refine (Len_any (.pointer (some ⟨hb, 0, none⟩)) H tvs o1 _ _ (hh.out.up uq)).mono ?_; rintro e w2 ⟨rfl, hu2⟩; rw [hl.out]; have s0 := Up.get (w' := w2) uq X0.out; have x0 := cell_of s0 0; have x1 := cell_of s0 1; have x2 := cell_of s0 2; have x3 := cell_of s0 3; have x4 := cell_of s0 4; have x5 := cell_of s0 5; have x6 := cell_of s0 6; have x7 := cell_of s0 7; have x8 := cell_of s0 8; have x9 := cell_of s0 9; have x10 := cell_of s0 10; have x11 := cell_of s0 11; have x12 := cell_of s0 12; have x99 := lt_of_heap s0; (try simp only [World.size_alloc, List.getElem?_toArray, List.getElem?_cons_zero, List.getElem?_cons_succ] at x0 x1 x2 x3 x4 x5 x6 x7 x8 x9 x10 x11 x12 x99); clear s0) | (go_at_call 14; refine (Kind_any (.pointer (some ⟨hb, 0, none⟩)) H tvs o1 _ _ (hh.out.up uq)).mono ?_; rintro e w3 ⟨rfl, hu3⟩; rw [hk.out]; have s0 := Up.get (w' := w3) uq X0.out; have x0 := cell_of s0 0; have x1 := cell_of s0 1; have x2 := cell_of s0 2; have x3 := cell_of s0 3; have x4 := cell_of s0 4; have x5 := cell_of s0 5; have x6 := cell_of s0 6; have x7 := cell_of s0 7; have x8 := cell_of s0 8; have x9 := cell_of s0 9; have x10 := cell_of s0 10; have x11 := cell_of s0 11; have x12 := cell_of s0 12; have x99 := lt_of_heap s0; (try simp only [World.size_alloc, List.getElem?_toArray, List.getElem?_cons_zero, List.getElem?_cons_succ] at x0 x1 x2 x3 x4 x5 x6 x7 x8 x9 x10 x11 x12 x99); clear s0) | (go_at_call 17; refine (s_len rb H rs o2 _ _ (HB.out.r.up uq) HW.out).mono ?_; rintro e w4 ⟨rfl, rfl⟩; rw [hl.out]) | (go_at_call 15; refine (s_kind rb H rs o2 _ _ (HB.out.r.up uq) HW.out).mono ?_; rintro e w5 ⟨rfl, rfl⟩; rw [hk.out]))
  go_wp2_with fail
  go_ret
  exact Stepped.same HB.out uq

end Go.Proofs.YtmbipadiaggolaaGreatDoor
