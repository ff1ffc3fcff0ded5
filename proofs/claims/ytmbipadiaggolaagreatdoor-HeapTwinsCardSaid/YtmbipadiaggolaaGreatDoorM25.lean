import Derived.Test.YtmbipadiaggolaaGreatDoorM24
/- YtmbipadiaggolaaGreatDoorM25: lemmas of the proof, in order: RefR. -/
/- Walks: the document's heap: Make, where a thing is to stand behind. -/
namespace Go.Proofs.YtmbipadiaggolaaGreatDoor
open Go.RowKit
set_option linter.unusedSimpArgs false

set_option maxRecDepth 100000 in
set_option maxHeartbeats 8000000 in
theorem s_make_at1 (rb : Nat) (H : HM) (rs : List RT) (own : Own) (k kk pp : Int) (N : Nat) (u : Thing) (w : World) (h : RRep w rb H rs own) (hw : H.Wf) (hf : H.used < H.room) (hti : H.things[N]? = some u) (ht : H.there N = true) (hu : u.kind = 1) (hpp : kk ≠ 2 → pp = N) (hkk : (k < 1 ∧ kk = 1) ∨ (4 < k ∧ kk = 1) ∨ (1 ≤ k ∧ k ≤ 4 ∧ kk = k)) :
    Calls Tryz.prog 21 #[.pointer (some ⟨rb, 0, none⟩), .int .i64 k, .int .i64 N] w (RWrote rb ⟨H.room, H.used + 1, H.things ++ [⟨kk, pp, [], []⟩]⟩ own w (.tuple #[.int .i64 H.things.length, .int .i64 0])) := by
  obtain ⟨i0, hi0, y0, y1, y2⟩ := info_parts rthing_info
  have HR := Lib.hid h
  have HW := Lib.hid hw
  have HT := Lib.hid ht
  have HPP := Lib.hid hpp
  obtain ⟨tg, cap, r, h1, _, _, c0, _⟩ := h.at hti
  rw [hu] at c0
  have hNl : (N : Int) < H.things.length := by have := (List.getElem?_eq_some_iff.1 hti).1; omega
  obtain ⟨sa', cap', g1, hrow⟩ := h.row
  rw [h1] at g1
  simp only [Option.some.injEq, Obj.cells.injEq, Array.mk.injEq, List.cons.injEq, Value.slice.injEq, and_true, true_and] at g1
  obtain ⟨rfl, rfl⟩ := g1
  have ltg := lt_of_heap h1
  have HP := Lib.hid (And.intro h1 hrow)
  have s0 := h1
  have a0 := cell_of s0 0; have a1 := cell_of s0 1; have a2 := cell_of s0 2; have f0 := ice_of s0 0; have f1 := ice_of s0 1; have f2 := ice_of s0 2; have a4 := lt_of_heap s0; (try simp only [World.size_alloc, List.getElem?_toArray, List.getElem?_cons_zero, List.getElem?_cons_succ] at a0 a1 a2 f0 f1 f2 a4); clear s0
  have hd : decide (H.room ≤ H.used) = false := by simp; omega
  have hur : H.used < 1048576 := by have := hw.roomM; omega
  have hu0 := hw.room0
  have hll := wf_len hw
  clear h hw h1 ht hrow hti hu hpp
  rcases hkk with ⟨q1, q2⟩ | ⟨q1, q2⟩ | ⟨q1, q3, q2⟩
  all_goals
    have HK := Lib.hid q2
    clear q2
    go_enter Tryz.func21, Tryz.ntmps21
    go_wp2_with fail
    go_quiet (fail)
    obtain ⟨hR, hM⟩ := RRep.bump (HR.out.up (show Up w (w.drewN nq) from uq))
    have hhd := setCell_block (i := 1) (Up.get (show Up w (w.drewN nq) from uq) HP.out.1) (.int .i64 (H.used + 1))
    have hrow := (HP.out.2.up (show Up w (w.drewN nq) from uq)).keep (w' := (w.drewN nq).setCell ⟨rb, 1, none⟩ (.int .i64 (H.used + 1))) (own' := own) fun b hb => ⟨setCell_other (fun e => by subst e; rw [HR.out.mine] at hb; cases hb) _, rfl⟩
    have HX := Lib.hid (And.intro hR (And.intro hM (And.intro hhd hrow)))
    clear hR hM hhd hrow
    go_wp2_with (first | (go_at_call 41; refine (s_there rb H rs own _ _ (HR.out.up uq) HW.out).mono ?_; rintro e w2 ⟨rfl, rfl⟩; rw [HT.out]) | (at_builtin; refine wpList_append_row rfl _ _ 38 rfl 85 i0 (.agg #[.int .i64 0, .int .i64 0, .slice none 0 0, .slice none 0 0]) 4 64 Tryz.underlying38 hi0 y0 y1 y2 rfl (by decide) _ _ _ rfl (HX.out.2.2.2.up uq).1 ⟨w.heap.size, 0, none⟩ 1 1 _ rfl rfl (cells_new _ _ _ _ (by simp [setCell_size])) ?c2 ?c3 ?c4 ?_))
    case c2 => simp [Value.oneCell']
    case c3 => unfold maxLen; omega
    case c4 => omega
    intro sa' cap' w2 hown' hgrow hblk
    have hhd2 : w2.heap[rb]? = some (.cells #[.int .i64 H.room, .int .i64 (H.used + 1), .slice (some ⟨tg, 0, none⟩) H.things.length cap] 40 (0, 0)) :=
      grown_get hgrow (Up.get uq HX.out.2.2.1) (fun e => by
        have h1 := HX.out.2.2.2.2 rb e
        rw [HR.out.mine] at h1
        simp at h1)
    have hd2 := cell_of hhd2 2
    have hic2 := ice_of hhd2 2
    have hb2 := lt_of_heap hhd2
    simp only [List.getElem?_toArray, List.getElem?_cons_zero, List.getElem?_cons_succ] at hd2
    have HY := Lib.hid (And.intro hown' (And.intro hgrow hblk))
    clear hown' hgrow hblk hhd2
    go_wp2
    refine bodyPost_ret (v := .tuple #[.int .i64 H.things.length, .int .i64 0]) (by simp [results, Tryz.results21, go_sem, *] <;> omega) rfl ?_
    obtain ⟨hown', hgrow, hblk⟩ := HY.out
    obtain ⟨hR, hM, hhd, hrow⟩ := HX.out
    obtain ⟨own', h1, h2⟩ := RRep.made (t := ⟨kk, pp, [], []⟩) (r := ⟨kk, N, .slice none 0 0, .slice none 0 0⟩) (hR.up uq) (Up.get uq hhd) (hrow.up uq) rfl (fun e => (HPP.out e).symm) rfl rfl rfl rfl (by rw [HK.out]; exact hown') hgrow (by simpa only [World.size_alloc, setCell_size, World.heap_drewN] using hblk)
    exact ⟨rfl, _, own', h1, ((show Up w (w.drewN nq) from uq).mut own |>.trans hM |>.trans ((show Up ((w.drewN nq).setCell ⟨rb, 1, none⟩ (.int .i64 (H.used + 1))) (((w.drewN nq).setCell ⟨rb, 1, none⟩ (.int .i64 (H.used + 1))).alloc _) from uq).mut own)).trans h2⟩

set_option maxRecDepth 100000 in
set_option maxHeartbeats 8000000 in
theorem s_make_at2 (rb : Nat) (H : HM) (rs : List RT) (own : Own) (k kk pp : Int) (N : Nat) (u : Thing) (w : World) (h : RRep w rb H rs own) (hw : H.Wf) (hf : H.used < H.room) (hti : H.things[N]? = some u) (ht : H.there N = true) (hu : u.kind = 2) (hpp : kk ≠ 2 → pp = -1) (hkk : (k < 1 ∧ kk = 1) ∨ (4 < k ∧ kk = 1) ∨ (1 ≤ k ∧ k ≤ 4 ∧ kk = k)) :
    Calls Tryz.prog 21 #[.pointer (some ⟨rb, 0, none⟩), .int .i64 k, .int .i64 N] w (RWrote rb ⟨H.room, H.used + 1, H.things ++ [⟨kk, pp, [], []⟩]⟩ own w (.tuple #[.int .i64 H.things.length, .int .i64 0])) := by
  obtain ⟨i0, hi0, y0, y1, y2⟩ := info_parts rthing_info
  have HR := Lib.hid h
  have HW := Lib.hid hw
  have HT := Lib.hid ht
  have HPP := Lib.hid hpp
  obtain ⟨tg, cap, r, h1, _, _, c0, _⟩ := h.at hti
  rw [hu] at c0
  have hNl : (N : Int) < H.things.length := by have := (List.getElem?_eq_some_iff.1 hti).1; omega
  obtain ⟨sa', cap', g1, hrow⟩ := h.row
  rw [h1] at g1
  simp only [Option.some.injEq, Obj.cells.injEq, Array.mk.injEq, List.cons.injEq, Value.slice.injEq, and_true, true_and] at g1
  obtain ⟨rfl, rfl⟩ := g1
  have ltg := lt_of_heap h1
  have HP := Lib.hid (And.intro h1 hrow)
  have s0 := h1
  have a0 := cell_of s0 0; have a1 := cell_of s0 1; have a2 := cell_of s0 2; have f0 := ice_of s0 0; have f1 := ice_of s0 1; have f2 := ice_of s0 2; have a4 := lt_of_heap s0; (try simp only [World.size_alloc, List.getElem?_toArray, List.getElem?_cons_zero, List.getElem?_cons_succ] at a0 a1 a2 f0 f1 f2 a4); clear s0
  have hd : decide (H.room ≤ H.used) = false := by simp; omega
  have hur : H.used < 1048576 := by have := hw.roomM; omega
  have hu0 := hw.room0
  have hll := wf_len hw
  clear h hw h1 ht hrow hti hu hpp
  rcases hkk with ⟨q1, q2⟩ | ⟨q1, q2⟩ | ⟨q1, q3, q2⟩
  all_goals
    have HK := Lib.hid q2
    clear q2
    go_enter Tryz.func21, Tryz.ntmps21
    go_wp2_with fail
    go_quiet (fail)
    obtain ⟨hR, hM⟩ := RRep.bump (HR.out.up (show Up w (w.drewN nq) from uq))
    have hhd := setCell_block (i := 1) (Up.get (show Up w (w.drewN nq) from uq) HP.out.1) (.int .i64 (H.used + 1))
    have hrow := (HP.out.2.up (show Up w (w.drewN nq) from uq)).keep (w' := (w.drewN nq).setCell ⟨rb, 1, none⟩ (.int .i64 (H.used + 1))) (own' := own) fun b hb => ⟨setCell_other (fun e => by subst e; rw [HR.out.mine] at hb; cases hb) _, rfl⟩
    have HX := Lib.hid (And.intro hR (And.intro hM (And.intro hhd hrow)))
    clear hR hM hhd hrow
    go_wp2_with (first | (go_at_call 41; refine (s_there rb H rs own _ _ (HR.out.up uq) HW.out).mono ?_; rintro e w2 ⟨rfl, rfl⟩; rw [HT.out]) | (at_builtin; refine wpList_append_row rfl _ _ 38 rfl 85 i0 (.agg #[.int .i64 0, .int .i64 0, .slice none 0 0, .slice none 0 0]) 4 64 Tryz.underlying38 hi0 y0 y1 y2 rfl (by decide) _ _ _ rfl (HX.out.2.2.2.up uq).1 ⟨w.heap.size, 0, none⟩ 1 1 _ rfl rfl (cells_new _ _ _ _ (by simp [setCell_size])) ?c2 ?c3 ?c4 ?_))
    case c2 => simp [Value.oneCell']
    case c3 => unfold maxLen; omega
    case c4 => omega
    intro sa' cap' w2 hown' hgrow hblk
    have hhd2 : w2.heap[rb]? = some (.cells #[.int .i64 H.room, .int .i64 (H.used + 1), .slice (some ⟨tg, 0, none⟩) H.things.length cap] 40 (0, 0)) :=
      grown_get hgrow (Up.get uq HX.out.2.2.1) (fun e => by
        have h1 := HX.out.2.2.2.2 rb e
        rw [HR.out.mine] at h1
        simp at h1)
    have hd2 := cell_of hhd2 2
    have hic2 := ice_of hhd2 2
    have hb2 := lt_of_heap hhd2
    simp only [List.getElem?_toArray, List.getElem?_cons_zero, List.getElem?_cons_succ] at hd2
    have HY := Lib.hid (And.intro hown' (And.intro hgrow hblk))
    clear hown' hgrow hblk hhd2
    go_wp2
    refine bodyPost_ret (v := .tuple #[.int .i64 H.things.length, .int .i64 0]) (by simp [results, Tryz.results21, go_sem, *] <;> omega) rfl ?_
    obtain ⟨hown', hgrow, hblk⟩ := HY.out
    obtain ⟨hR, hM, hhd, hrow⟩ := HX.out
    obtain ⟨own', h1, h2⟩ := RRep.made (t := ⟨kk, pp, [], []⟩) (r := ⟨kk, -1, .slice none 0 0, .slice none 0 0⟩) (hR.up uq) (Up.get uq hhd) (hrow.up uq) rfl (fun e => (HPP.out e).symm) rfl rfl rfl rfl (by rw [HK.out]; exact hown') hgrow (by simpa only [World.size_alloc, setCell_size, World.heap_drewN] using hblk)
    exact ⟨rfl, _, own', h1, ((show Up w (w.drewN nq) from uq).mut own |>.trans hM |>.trans ((show Up ((w.drewN nq).setCell ⟨rb, 1, none⟩ (.int .i64 (H.used + 1))) (((w.drewN nq).setCell ⟨rb, 1, none⟩ (.int .i64 (H.used + 1))).alloc _) from uq).mut own)).trans h2⟩

set_option maxRecDepth 100000 in
set_option maxHeartbeats 8000000 in
theorem s_make_at3 (rb : Nat) (H : HM) (rs : List RT) (own : Own) (k kk pp : Int) (N : Nat) (u : Thing) (w : World) (h : RRep w rb H rs own) (hw : H.Wf) (hf : H.used < H.room) (hti : H.things[N]? = some u) (ht : H.there N = true) (hu : u.kind = 3) (hpp : kk ≠ 2 → pp = -1) (hkk : (k < 1 ∧ kk = 1) ∨ (4 < k ∧ kk = 1) ∨ (1 ≤ k ∧ k ≤ 4 ∧ kk = k)) :
    Calls Tryz.prog 21 #[.pointer (some ⟨rb, 0, none⟩), .int .i64 k, .int .i64 N] w (RWrote rb ⟨H.room, H.used + 1, H.things ++ [⟨kk, pp, [], []⟩]⟩ own w (.tuple #[.int .i64 H.things.length, .int .i64 0])) := by
  obtain ⟨i0, hi0, y0, y1, y2⟩ := info_parts rthing_info
  have HR := Lib.hid h
  have HW := Lib.hid hw
  have HT := Lib.hid ht
  have HPP := Lib.hid hpp
  obtain ⟨tg, cap, r, h1, _, _, c0, _⟩ := h.at hti
  rw [hu] at c0
  have hNl : (N : Int) < H.things.length := by have := (List.getElem?_eq_some_iff.1 hti).1; omega
  obtain ⟨sa', cap', g1, hrow⟩ := h.row
  rw [h1] at g1
  simp only [Option.some.injEq, Obj.cells.injEq, Array.mk.injEq, List.cons.injEq, Value.slice.injEq, and_true, true_and] at g1
  obtain ⟨rfl, rfl⟩ := g1
  have ltg := lt_of_heap h1
  have HP := Lib.hid (And.intro h1 hrow)
  have s0 := h1
  have a0 := cell_of s0 0; have a1 := cell_of s0 1; have a2 := cell_of s0 2; have f0 := ice_of s0 0; have f1 := ice_of s0 1; have f2 := ice_of s0 2; have a4 := lt_of_heap s0; (try simp only [World.size_alloc, List.getElem?_toArray, List.getElem?_cons_zero, List.getElem?_cons_succ] at a0 a1 a2 f0 f1 f2 a4); clear s0
  have hd : decide (H.room ≤ H.used) = false := by simp; omega
  have hur : H.used < 1048576 := by have := hw.roomM; omega
  have hu0 := hw.room0
  have hll := wf_len hw
  clear h hw h1 ht hrow hti hu hpp
  rcases hkk with ⟨q1, q2⟩ | ⟨q1, q2⟩ | ⟨q1, q3, q2⟩
  all_goals
    have HK := Lib.hid q2
    clear q2
    go_enter Tryz.func21, Tryz.ntmps21
    go_wp2_with fail
    go_quiet (fail)
    obtain ⟨hR, hM⟩ := RRep.bump (HR.out.up (show Up w (w.drewN nq) from uq))
    have hhd := setCell_block (i := 1) (Up.get (show Up w (w.drewN nq) from uq) HP.out.1) (.int .i64 (H.used + 1))
    have hrow := (HP.out.2.up (show Up w (w.drewN nq) from uq)).keep (w' := (w.drewN nq).setCell ⟨rb, 1, none⟩ (.int .i64 (H.used + 1))) (own' := own) fun b hb => ⟨setCell_other (fun e => by subst e; rw [HR.out.mine] at hb; cases hb) _, rfl⟩
    have HX := Lib.hid (And.intro hR (And.intro hM (And.intro hhd hrow)))
    clear hR hM hhd hrow
    go_wp2_with (first | (go_at_call 41; refine (s_there rb H rs own _ _ (HR.out.up uq) HW.out).mono ?_; rintro e w2 ⟨rfl, rfl⟩; rw [HT.out]) | (at_builtin; refine wpList_append_row rfl _ _ 38 rfl 85 i0 (.agg #[.int .i64 0, .int .i64 0, .slice none 0 0, .slice none 0 0]) 4 64 Tryz.underlying38 hi0 y0 y1 y2 rfl (by decide) _ _ _ rfl (HX.out.2.2.2.up uq).1 ⟨w.heap.size, 0, none⟩ 1 1 _ rfl rfl (cells_new _ _ _ _ (by simp [setCell_size])) ?c2 ?c3 ?c4 ?_))
    case c2 => simp [Value.oneCell']
    case c3 => unfold maxLen; omega
    case c4 => omega
    intro sa' cap' w2 hown' hgrow hblk
    have hhd2 : w2.heap[rb]? = some (.cells #[.int .i64 H.room, .int .i64 (H.used + 1), .slice (some ⟨tg, 0, none⟩) H.things.length cap] 40 (0, 0)) :=
      grown_get hgrow (Up.get uq HX.out.2.2.1) (fun e => by
        have h1 := HX.out.2.2.2.2 rb e
        rw [HR.out.mine] at h1
        simp at h1)
    have hd2 := cell_of hhd2 2
    have hic2 := ice_of hhd2 2
    have hb2 := lt_of_heap hhd2
    simp only [List.getElem?_toArray, List.getElem?_cons_zero, List.getElem?_cons_succ] at hd2
    have HY := Lib.hid (And.intro hown' (And.intro hgrow hblk))
    clear hown' hgrow hblk hhd2
    go_wp2
    refine bodyPost_ret (v := .tuple #[.int .i64 H.things.length, .int .i64 0]) (by simp [results, Tryz.results21, go_sem, *] <;> omega) rfl ?_
    obtain ⟨hown', hgrow, hblk⟩ := HY.out
    obtain ⟨hR, hM, hhd, hrow⟩ := HX.out
    obtain ⟨own', h1, h2⟩ := RRep.made (t := ⟨kk, pp, [], []⟩) (r := ⟨kk, -1, .slice none 0 0, .slice none 0 0⟩) (hR.up uq) (Up.get uq hhd) (hrow.up uq) rfl (fun e => (HPP.out e).symm) rfl rfl rfl rfl (by rw [HK.out]; exact hown') hgrow (by simpa only [World.size_alloc, setCell_size, World.heap_drewN] using hblk)
    exact ⟨rfl, _, own', h1, ((show Up w (w.drewN nq) from uq).mut own |>.trans hM |>.trans ((show Up ((w.drewN nq).setCell ⟨rb, 1, none⟩ (.int .i64 (H.used + 1))) (((w.drewN nq).setCell ⟨rb, 1, none⟩ (.int .i64 (H.used + 1))).alloc _) from uq).mut own)).trans h2⟩

set_option maxRecDepth 100000 in
set_option maxHeartbeats 8000000 in
theorem s_make_at4 (rb : Nat) (H : HM) (rs : List RT) (own : Own) (k kk pp : Int) (N : Nat) (u : Thing) (w : World) (h : RRep w rb H rs own) (hw : H.Wf) (hf : H.used < H.room) (hti : H.things[N]? = some u) (ht : H.there N = true) (hu : u.kind = 4) (hpp : kk ≠ 2 → pp = N) (hkk : (k < 1 ∧ kk = 1) ∨ (4 < k ∧ kk = 1) ∨ (1 ≤ k ∧ k ≤ 4 ∧ kk = k)) :
    Calls Tryz.prog 21 #[.pointer (some ⟨rb, 0, none⟩), .int .i64 k, .int .i64 N] w (RWrote rb ⟨H.room, H.used + 1, H.things ++ [⟨kk, pp, [], []⟩]⟩ own w (.tuple #[.int .i64 H.things.length, .int .i64 0])) := by
  obtain ⟨i0, hi0, y0, y1, y2⟩ := info_parts rthing_info
  have HR := Lib.hid h
  have HW := Lib.hid hw
  have HT := Lib.hid ht
  have HPP := Lib.hid hpp
  obtain ⟨tg, cap, r, h1, _, _, c0, _⟩ := h.at hti
  rw [hu] at c0
  have hNl : (N : Int) < H.things.length := by have := (List.getElem?_eq_some_iff.1 hti).1; omega
  obtain ⟨sa', cap', g1, hrow⟩ := h.row
  rw [h1] at g1
  simp only [Option.some.injEq, Obj.cells.injEq, Array.mk.injEq, List.cons.injEq, Value.slice.injEq, and_true, true_and] at g1
  obtain ⟨rfl, rfl⟩ := g1
  have ltg := lt_of_heap h1
  have HP := Lib.hid (And.intro h1 hrow)
  have s0 := h1
  have a0 := cell_of s0 0; have a1 := cell_of s0 1; have a2 := cell_of s0 2; have f0 := ice_of s0 0; have f1 := ice_of s0 1; have f2 := ice_of s0 2; have a4 := lt_of_heap s0; (try simp only [World.size_alloc, List.getElem?_toArray, List.getElem?_cons_zero, List.getElem?_cons_succ] at a0 a1 a2 f0 f1 f2 a4); clear s0
  have hd : decide (H.room ≤ H.used) = false := by simp; omega
  have hur : H.used < 1048576 := by have := hw.roomM; omega
  have hu0 := hw.room0
  have hll := wf_len hw
  clear h hw h1 ht hrow hti hu hpp
  rcases hkk with ⟨q1, q2⟩ | ⟨q1, q2⟩ | ⟨q1, q3, q2⟩
  all_goals
    have HK := Lib.hid q2
    clear q2
    go_enter Tryz.func21, Tryz.ntmps21
    go_wp2_with fail
    go_quiet (fail)
    obtain ⟨hR, hM⟩ := RRep.bump (HR.out.up (show Up w (w.drewN nq) from uq))
    have hhd := setCell_block (i := 1) (Up.get (show Up w (w.drewN nq) from uq) HP.out.1) (.int .i64 (H.used + 1))
    have hrow := (HP.out.2.up (show Up w (w.drewN nq) from uq)).keep (w' := (w.drewN nq).setCell ⟨rb, 1, none⟩ (.int .i64 (H.used + 1))) (own' := own) fun b hb => ⟨setCell_other (fun e => by subst e; rw [HR.out.mine] at hb; cases hb) _, rfl⟩
    have HX := Lib.hid (And.intro hR (And.intro hM (And.intro hhd hrow)))
    clear hR hM hhd hrow
    go_wp2_with (first | (go_at_call 41; refine (s_there rb H rs own _ _ (HR.out.up uq) HW.out).mono ?_; rintro e w2 ⟨rfl, rfl⟩; rw [HT.out]) | (at_builtin; refine wpList_append_row rfl _ _ 38 rfl 85 i0 (.agg #[.int .i64 0, .int .i64 0, .slice none 0 0, .slice none 0 0]) 4 64 Tryz.underlying38 hi0 y0 y1 y2 rfl (by decide) _ _ _ rfl (HX.out.2.2.2.up uq).1 ⟨w.heap.size, 0, none⟩ 1 1 _ rfl rfl (cells_new _ _ _ _ (by simp [setCell_size])) ?c2 ?c3 ?c4 ?_))
    case c2 => simp [Value.oneCell']
    case c3 => unfold maxLen; omega
    case c4 => omega
    intro sa' cap' w2 hown' hgrow hblk
    have hhd2 : w2.heap[rb]? = some (.cells #[.int .i64 H.room, .int .i64 (H.used + 1), .slice (some ⟨tg, 0, none⟩) H.things.length cap] 40 (0, 0)) :=
      grown_get hgrow (Up.get uq HX.out.2.2.1) (fun e => by
        have h1 := HX.out.2.2.2.2 rb e
        rw [HR.out.mine] at h1
        simp at h1)
    have hd2 := cell_of hhd2 2
    have hic2 := ice_of hhd2 2
    have hb2 := lt_of_heap hhd2
    simp only [List.getElem?_toArray, List.getElem?_cons_zero, List.getElem?_cons_succ] at hd2
    have HY := Lib.hid (And.intro hown' (And.intro hgrow hblk))
    clear hown' hgrow hblk hhd2
    go_wp2
    refine bodyPost_ret (v := .tuple #[.int .i64 H.things.length, .int .i64 0]) (by simp [results, Tryz.results21, go_sem, *] <;> omega) rfl ?_
    obtain ⟨hown', hgrow, hblk⟩ := HY.out
    obtain ⟨hR, hM, hhd, hrow⟩ := HX.out
    obtain ⟨own', h1, h2⟩ := RRep.made (t := ⟨kk, pp, [], []⟩) (r := ⟨kk, N, .slice none 0 0, .slice none 0 0⟩) (hR.up uq) (Up.get uq hhd) (hrow.up uq) rfl (fun e => (HPP.out e).symm) rfl rfl rfl rfl (by rw [HK.out]; exact hown') hgrow (by simpa only [World.size_alloc, setCell_size, World.heap_drewN] using hblk)
    exact ⟨rfl, _, own', h1, ((show Up w (w.drewN nq) from uq).mut own |>.trans hM |>.trans ((show Up ((w.drewN nq).setCell ⟨rb, 1, none⟩ (.int .i64 (H.used + 1))) (((w.drewN nq).setCell ⟨rb, 1, none⟩ (.int .i64 (H.used + 1))).alloc _) from uq).mut own)).trans h2⟩


/-- Make, as a whole -/
theorem s_make (rb : Nat) (H : HM) (rs : List RT) (own : Own) (k p : Int) (w : World) (h : RRep w rb H rs own) (hw : H.Wf) :
    Calls Tryz.prog 21 #[.pointer (some ⟨rb, 0, none⟩), .int .i64 k, .int .i64 p] w (RWrote rb (H.make k p) own w (.tuple #[.int .i64 (if H.used < H.room then H.things.length else -1), .int .i64 (if H.used < H.room then 0 else 3)])) := by
  by_cases hf : H.used < H.room
  · rw [if_pos hf, if_pos hf, HM.make, if_pos hf]
    have hkk : (k < 1 ∧ mkKind k = 1) ∨ (4 < k ∧ mkKind k = 1) ∨ (1 ≤ k ∧ k ≤ 4 ∧ mkKind k = k) := by
      unfold mkKind
      by_cases h2 : k = 2
      · exact .inr (.inr ⟨by omega, by omega, by rw [if_pos h2, h2]⟩)
      · rw [if_neg h2]
        by_cases h3 : k < 1 ∨ 4 < k
        · rw [if_pos h3]; rcases h3 with h3 | h3
          · exact .inl ⟨h3, rfl⟩
          · exact .inr (.inl ⟨h3, rfl⟩)
        · rw [if_neg h3]; exact .inr (.inr ⟨by omega, by omega, rfl⟩)
    have hk2 : mkKind k ≠ 2 → k ≠ 2 := fun e e2 => e (by rw [e2]; rfl)
    cases ht : H.there p
    · exact s_make_no rb H rs own k p _ _ w h hw hf ht (fun e => by unfold HM.mkProto; rw [if_neg (hk2 e), if_neg (by rw [ht]; simp)]) hkk
    · obtain ⟨h0, u, hti⟩ := there_things ht
      obtain ⟨N, rfl⟩ := Int.eq_ofNat_of_zero_le h0
      rw [Int.toNat_natCast] at hti
      have hkd : H.kindOf (N : Int) = u.kind := by simp [HM.kindOf, ht, hti]
      have hp1 : (u.kind = 1 ∨ u.kind = 4) → (mkKind k ≠ 2 → H.mkProto k N = N) := fun q e => by unfold HM.mkProto; rw [if_neg (hk2 e), if_pos ⟨ht, by rw [hkd]; exact q⟩]
      have hp2 : ¬ (u.kind = 1 ∨ u.kind = 4) → (mkKind k ≠ 2 → H.mkProto k N = -1) := fun q e => by unfold HM.mkProto; rw [if_neg (hk2 e), if_neg (fun q2 => q (by rw [hkd] at q2; exact q2.2))]
      rcases hw.things N u hti with ⟨hu, _⟩ | ⟨hu | hu | hu, _⟩
      · exact s_make_at2 rb H rs own k _ _ N u w h hw hf hti ht hu (hp2 (by omega)) hkk
      · exact s_make_at1 rb H rs own k _ _ N u w h hw hf hti ht hu (hp1 (by omega)) hkk
      · exact s_make_at3 rb H rs own k _ _ N u w h hw hf hti ht hu (hp2 (by omega)) hkk
      · exact s_make_at4 rb H rs own k _ _ N u w h hw hf hti ht hu (hp1 (by omega)) hkk
  · rw [if_neg hf, if_neg hf, HM.make, if_neg hf]
    exact (s_make_full rb H rs own k p w h (by omega)).mono fun e w' ⟨h1, h2⟩ => RWrote.same h h1 h2

end Go.Proofs.YtmbipadiaggolaaGreatDoor
