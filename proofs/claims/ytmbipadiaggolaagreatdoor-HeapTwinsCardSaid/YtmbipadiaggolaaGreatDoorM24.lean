import Derived.Test.YtmbipadiaggolaaGreatDoorM22
/- YtmbipadiaggolaaGreatDoorM24: lemmas of the proof, in order: RefQ. -/
/- Walks: the document's heap: Make. -/
namespace Go.Proofs.YtmbipadiaggolaaGreatDoor
open Go.RowKit
set_option linter.unusedSimpArgs false

/-- one thing more -/
theorem RRep.made {W w4 : World} {rb : Nat} {H : HM} {rs : List RT} {own : Own} {vv nv : Value} {t : Thing} {r : RT} (h : RRep W rb H rs own)
    (hhd : W.heap[rb]? = some (.cells #[.int .i64 H.room, .int .i64 H.used, vv] 40 (0, 0)))
    (htg : Row W own (0, 1) 85 4 vv H.things.length (rs.flatMap RT.cells)) (hrk : r.kind = t.kind) (hrp : t.kind ≠ 2 → r.proto = t.proto) (hs : t.slots = []) (hv : t.vals = []) (hsv : r.sv = .slice none 0 0) (hvv : r.vv = .slice none 0 0)
    (hown : w4.ownsRow 0 85 4 nv (H.things.length + 1) (rs.flatMap RT.cells ++ r.cells)) (hgrow : W.grownBy w4 vv.ownBlock)
    (hblk : nv.ownBlock = vv.ownBlock ∨ ∃ g, nv.ownBlock = some g ∧ W.heap.size ≤ g) :
    ∃ own', RRep (w4.setCell ⟨rb, 2, none⟩ nv) rb ⟨H.room, H.used, H.things ++ [t]⟩ (rs ++ [r]) own' ∧ Mut own own' W (w4.setCell ⟨rb, 2, none⟩ nv) := by
  have hrl := h.lt _ _ h.mine
  have hin : ∀ g, nv.ownBlock = some g → own g = some (0, 1) ∨ W.heap.size ≤ g := fun g hg => by
    rcases hblk with hk | ⟨g', hk, hk'⟩
    · exact .inl (htg.2 g (by rw [← hk]; exact hg))
    · rw [hk] at hg; cases hg; exact .inr hk'
  have hne : nv.ownBlock ≠ some rb := fun e => by
    rcases hin rb e with h' | h'
    · rw [h.mine] at h'; cases h'
    · omega
  have hold : vv.ownBlock ≠ some rb := fun e => by have := htg.2 rb e; rw [h.mine] at this; cases this
  have hw4 := hgrow.size
  have hk : Kept (fun b => own b = some (0, 1) ∨ b = rb) W (w4.setCell ⟨rb, 2, none⟩ nv) := ((Kept.refl _ W).grow hgrow fun k hk => .inl (.inl (htg.2 k hk))).setCell (.inl (.inr rfl)) _
  have hext : ∀ c, c < W.heap.size → (if nv.ownBlock = some c then some (0, 1) else own c) = own c := fun c hc => by
    by_cases hg : nv.ownBlock = some c
    · rw [if_pos hg]
      rcases hin c hg with h' | h'
      · exact h'.symm
      · omega
    · rw [if_neg hg]
  refine ⟨fun c => if nv.ownBlock = some c then some (0, 1) else own c, ?_, ?_⟩
  · exact {
      lt := fun c m hm => by
        have hm : (if nv.ownBlock = some c then some (0, 1) else own c) = some m := hm
        rw [setCell_size]
        by_cases hg : nv.ownBlock = some c
        · exact ownBlock_lt hown hg
        · rw [if_neg hg] at hm
          exact Nat.lt_of_lt_of_le (h.lt c m hm) hw4
      mine := by
        show (if _ then _ else _) = _
        rw [if_neg hne]; exact h.mine
      head := by
        refine ⟨nv, ?_, ?_, fun g hg => ?_⟩
        · have h3 := setCell_block (i := 2) (grown_get hgrow hhd hold) nv
          simpa using h3
        · rw [List.length_append, List.length_singleton, h.len, List.flatMap_append, List.flatMap_singleton]
          exact ownsRow_keep hown fun g hg => setCell_other (fun e => by subst e; exact hne hg) _
        · show (if _ then _ else _) = _
          rw [if_pos hg]
      len := by simp [h.len]
      things := fun j u hu => by
        by_cases hj : j < H.things.length
        · rw [List.getElem?_append_left hj] at hu
          obtain ⟨x, h1, h2⟩ := h.things j u hu
          refine ⟨x, by rw [List.getElem?_append_left (by rw [h.len]; exact hj)]; exact h1, h2.keep fun b m hm hmj => ⟨hk.block b (h.lt b m hm) (fun e => ?_), hext b (h.lt b m hm)⟩⟩
          rcases e with e | e
          · rw [hm] at e; cases e; simp at hmj
          · rw [e, h.mine] at hm; cases hm; simp at hmj
        · have hu := hu
          rw [List.getElem?_append_right (by omega)] at hu
          have hj2 : j = H.things.length := by
            rcases Nat.lt_or_ge (j - H.things.length) 1 with q | q
            · omega
            · rw [List.getElem?_eq_none (by simpa using q)] at hu; cases hu
          subst hj2
          rw [Nat.sub_self] at hu
          simp only [List.getElem?_cons_zero, Option.some.injEq] at hu
          subst hu
          refine ⟨r, by rw [List.getElem?_append_right (by rw [h.len]; exact Nat.le_refl _), h.len, Nat.sub_self]; rfl, hrk, hrp, ?_, ?_⟩
          · rw [hs, hsv]; exact ⟨⟨rfl, .inl ⟨rfl, rfl⟩⟩, fun g hg => by simp [Value.ownBlock] at hg⟩
          · rw [hv, hvv]; exact ⟨⟨rfl, .inl ⟨rfl, rfl⟩⟩, fun g hg => by simp [Value.ownBlock] at hg⟩ }
  · exact ⟨hk.os, hk.tape, hk.output, hk.size, fun b hb' hn => hk.block b hb' (fun e => by
      rcases e with e | e
      · rw [hn] at e; cases e
      · rw [e, h.mine] at hn; cases hn), hext⟩

theorem rthing_info : (Tryz.prog.info? 85).map (fun i => (i.zero, i.size, i.bytes)) = some (some (.agg #[.int .i64 0, .int .i64 0, .slice none 0 0, .slice none 0 0]), 4, 64) := by kernel_rfl

theorem s_make_full (rb : Nat) (H : HM) (rs : List RT) (own : Own) (k p : Int) (w : World) (h : RRep w rb H rs own) (hf : H.room ≤ H.used) :
    Calls Tryz.prog 21 #[.pointer (some ⟨rb, 0, none⟩), .int .i64 k, .int .i64 p] w fun e w' => e = .returned (.tuple #[.int .i64 (-1), .int .i64 3]) ∧ Up w w' := by
  have HR := Lib.hid h
  obtain ⟨tv, h1, _⟩ := h.head
  have s0 := h1
  have a0 := cell_of s0 0; have a1 := cell_of s0 1; have a2 := cell_of s0 2; have f0 := ice_of s0 0; have f1 := ice_of s0 1; have f2 := ice_of s0 2; have a4 := lt_of_heap s0; (try simp only [World.size_alloc, List.getElem?_toArray, List.getElem?_cons_zero, List.getElem?_cons_succ] at a0 a1 a2 f0 f1 f2 a4); clear s0
  have hd : decide (H.room ≤ H.used) = true := by simpa using hf
  clear h h1
  go_enter Tryz.func21, Tryz.ntmps21
  go_wp2_with fail
  go_quiet (fail)
  go_wp2_with fail
  exact bodyPost_ret (v := .tuple #[.int .i64 (-1), .int .i64 3]) (by simp [results, Tryz.results21, go_sem, *]) rfl ⟨rfl, uq⟩

set_option maxRecDepth 100000 in
set_option maxHeartbeats 8000000 in
theorem s_make_no (rb : Nat) (H : HM) (rs : List RT) (own : Own) (k p kk pp : Int) (w : World) (h : RRep w rb H rs own) (hw : H.Wf) (hf : H.used < H.room) (ht : H.there p = false) (hpp : kk ≠ 2 → pp = -1) (hkk : (k < 1 ∧ kk = 1) ∨ (4 < k ∧ kk = 1) ∨ (1 ≤ k ∧ k ≤ 4 ∧ kk = k)) :
    Calls Tryz.prog 21 #[.pointer (some ⟨rb, 0, none⟩), .int .i64 k, .int .i64 p] w (RWrote rb ⟨H.room, H.used + 1, H.things ++ [⟨kk, pp, [], []⟩]⟩ own w (.tuple #[.int .i64 H.things.length, .int .i64 0])) := by
  obtain ⟨i0, hi0, y0, y1, y2⟩ := info_parts rthing_info
  have HR := Lib.hid h
  have HW := Lib.hid hw
  have HT := Lib.hid ht
  have HPP := Lib.hid hpp
  obtain ⟨sa, cap, h1, hrow⟩ := h.row
  have HP := Lib.hid (And.intro h1 hrow)
  have s0 := h1
  have a0 := cell_of s0 0; have a1 := cell_of s0 1; have a2 := cell_of s0 2; have f0 := ice_of s0 0; have f1 := ice_of s0 1; have f2 := ice_of s0 2; have a4 := lt_of_heap s0; (try simp only [World.size_alloc, List.getElem?_toArray, List.getElem?_cons_zero, List.getElem?_cons_succ] at a0 a1 a2 f0 f1 f2 a4); clear s0
  have hd : decide (H.room ≤ H.used) = false := by simp; omega
  have hur : H.used < 1048576 := by have := hw.roomM; omega
  have hu0 := hw.room0
  have hll := wf_len hw
  clear h hw h1 ht hrow hpp
  rcases hkk with ⟨q1, q2⟩ | ⟨q1, q2⟩ | ⟨q1, q3, q2⟩
  all_goals
    have HK := Lib.hid q2
    clear q2
    go_enter Tryz.func21, Tryz.ntmps21
    go_wp2_with fail
    go_quiet (fail)
    obtain ⟨hR, hM⟩ := RRep.bump (HR.out.up (show Up w (w.drewN nq) from uq))
    have hhd := setCell_block (i := 1) (Up.get (show Up w (w.drewN nq) from uq) HP.out.1) (.int .i64 (H.used + 1))
    have hrow := (HP.out.2.up (show Up w (w.drewN nq) from uq)).keep (w' := (w.drewN nq).setCell ⟨rb, 1, none⟩ (.int .i64 (H.used + 1))) (own' := own) fun b hb => ⟨setCell_other (fun e => by subst e; rw [HR.out.mine] at hb; cases hb) _, rfl⟩
    have HX := Lib.hid (And.intro hR (And.intro hM (And.intro hhd hrow)))
    clear hR hM hhd hrow
    go_wp2_with (first | (go_at_call 41; refine (s_there rb H rs own _ _ (HR.out.up uq) HW.out).mono ?_; rintro e w2 ⟨rfl, rfl⟩; rw [HT.out]) | (at_builtin; refine wpList_append_row rfl _ _ 38 rfl 85 i0 (.agg #[.int .i64 0, .int .i64 0, .slice none 0 0, .slice none 0 0]) 4 64 Tryz.underlying38 hi0 y0 y1 y2 rfl (by decide) _ _ _ rfl (HX.out.2.2.2.up uq).1 ⟨w.heap.size, 0, none⟩ 1 1 _ rfl rfl (cells_new _ _ _ _ (by simp [setCell_size])) ?c2 ?c3 ?c4 ?_))
    case c2 => simp [Value.oneCell']
    case c3 => unfold maxLen; omega
    case c4 => omega
    intro sa' cap' w2 hown' hgrow hblk
    have hhd2 : w2.heap[rb]? = some (.cells #[.int .i64 H.room, .int .i64 (H.used + 1), .slice sa H.things.length cap] 40 (0, 0)) :=
      grown_get hgrow (Up.get uq HX.out.2.2.1) (fun e => by
        have h1 := HX.out.2.2.2.2 rb e
        rw [HR.out.mine] at h1
        simp at h1)
    have hd2 := cell_of hhd2 2
    have hic2 := ice_of hhd2 2
    have hb2 := lt_of_heap hhd2
    simp only [List.getElem?_toArray, List.getElem?_cons_zero, List.getElem?_cons_succ] at hd2
    have HY := Lib.hid (And.intro hown' (And.intro hgrow hblk))
    clear hown' hgrow hblk hhd2
    go_wp2
    refine bodyPost_ret (v := .tuple #[.int .i64 H.things.length, .int .i64 0]) (by simp [results, Tryz.results21, go_sem, *] <;> omega) rfl ?_
    obtain ⟨hown', hgrow, hblk⟩ := HY.out
    obtain ⟨hR, hM, hhd, hrow⟩ := HX.out
    obtain ⟨own', h1, h2⟩ := RRep.made (t := ⟨kk, pp, [], []⟩) (r := ⟨kk, -1, .slice none 0 0, .slice none 0 0⟩) (hR.up uq) (Up.get uq hhd) (hrow.up uq) rfl (fun e => (HPP.out e).symm) rfl rfl rfl rfl (by rw [HK.out]; exact hown') hgrow (by simpa only [World.size_alloc, setCell_size, World.heap_drewN] using hblk)
    exact ⟨rfl, _, own', h1, ((show Up w (w.drewN nq) from uq).mut own |>.trans hM |>.trans ((show Up ((w.drewN nq).setCell ⟨rb, 1, none⟩ (.int .i64 (H.used + 1))) (((w.drewN nq).setCell ⟨rb, 1, none⟩ (.int .i64 (H.used + 1))).alloc _) from uq).mut own)).trans h2⟩

end Go.Proofs.YtmbipadiaggolaaGreatDoor
