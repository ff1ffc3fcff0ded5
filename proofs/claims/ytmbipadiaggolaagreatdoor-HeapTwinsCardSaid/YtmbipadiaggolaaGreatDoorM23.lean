import Derived.Test.YtmbipadiaggolaaGreatDoorM22
/- YtmbipadiaggolaaGreatDoorM23: lemmas of the proof, in order: RefP. -/
/- Walks: the document's heap: Push. -/
namespace Go.Proofs.YtmbipadiaggolaaGreatDoor
open Go.RowKit
set_option linter.unusedSimpArgs false

set_option maxRecDepth 100000 in
set_option maxHeartbeats 16000000 in
theorem s_push_ok (rb : Nat) (H : HM) (rs : List RT) (own : Own) (N : Nat) (x : Val) (w : World) (h : RRep w rb H rs own) (hw : H.Wf) (t : Thing) (hti : H.things[N]? = some t) (hk : H.kindOf N = 2) (hk2 : t.kind = 2) (hf : H.used < H.room) :
    Calls Tryz.prog 33 #[.pointer (some ⟨rb, 0, none⟩), .int .i64 N, .agg #[.int .i64 (x).k, .int .i64 (x).n, .string (x).s]] w (RWrote rb ⟨H.room, H.used + 1, H.things.set N ⟨t.kind, t.proto, t.slots, t.vals ++ [plainS H x]⟩⟩ own w (.tuple #[.int .i64 ((t.vals.length : Int) + 1), .int .i64 0])) := by
  obtain ⟨i0, hi0, y0, y1, y2⟩ := info_parts val_info
  have HR := Lib.hid h
  have HW := Lib.hid hw
  have HK := Lib.hid hk
  have HT := Lib.hid (And.intro hti hk2)
  obtain ⟨tv, h1, _⟩ := h.head
  have s0 := alloc_keep (o := .cells #[.int .i64 x.k, .int .i64 x.n, .string x.s] 34) h1
  have a0 := cell_of s0 0; have a1 := cell_of s0 1; have a2 := cell_of s0 2; have f0 := ice_of s0 0; have f1 := ice_of s0 1; have f2 := ice_of s0 2; have a4 := lt_of_heap s0; (try simp only [World.size_alloc, List.getElem?_toArray, List.getElem?_cons_zero, List.getElem?_cons_succ] at a0 a1 a2 f0 f1 f2 a4); clear s0
  have hrl := lt_of_heap h1
  have hd : decide (H.room ≤ H.used) = false := by simp; omega
  have hur : H.used < 1048576 := by have := hw.roomM; omega
  have hu0 := hw.room0
  have hvl : t.vals.length ≤ 1048576 := by have := sizes_at _ _ _ hti; have q1 := hw.few; have q2 := hw.roomU; have q3 := hw.roomM; simp only [Thing.size] at this; omega
  have hNl : (N : Int) < H.things.length := by have := (List.getElem?_eq_some_iff.1 hti).1; omega
  have hll := wf_len hw
  clear h hw hk h1 hti hk2
  go_enter Tryz.func33, Tryz.ntmps33
  go_wp2_with (first | (go_at_call 15; refine (s_kind rb H rs own _ _ (HR.out.up uq) HW.out).mono ?_; rintro e w2 ⟨rfl, rfl⟩; rw [HK.out]))
  go_quiet (fail)
  go_wp2_with fail
  refine range_named fun A W1 hA hW => ?_
  have hR1 : RRep W1 rb ⟨H.room, H.used + 1, H.things⟩ rs own ∧ Mut own own w W1 := by
    subst hW
    have h5 := RRep.bump (HR.out.up (show Up w ((w.alloc (.cells #[.int .i64 x.k, .int .i64 x.n, .string x.s] 34)).drewN nq) from uq))
    exact ⟨h5.1, (show Up w ((w.alloc (.cells #[.int .i64 x.k, .int .i64 x.n, .string x.s] 34)).drewN nq) from uq).mut own |>.trans h5.2⟩
  have hbox : W1.heap[w.heap.size]? = some (.cells #[.int .i64 x.k, .int .i64 x.n, .string x.s] 34 (0, 0)) := by
    subst hW
    rw [setCell_other (by omega)]
    exact alloc_get w _
  clear hW a0 a1 a2 f0 f1 f2 a4
  obtain ⟨tg, cap, r, h1, hr, _, c3, hi, ⟨cur, hcur⟩, hrow⟩ := hR1.1.at2 HT.out.1
  obtain ⟨va, vc, hv⟩ := ownsRow_form hi.vals.1
  rw [hv] at c3
  have HC := Lib.hid (And.intro h1 (And.intro hcur (And.intro hbox c3)))
  have HI := Lib.hid (And.intro hi (And.intro hrow (And.intro hv hr)))
  have hvals := Lib.hid (show W1.ownsRow 0 34 3 (.slice va t.vals.length vc) t.vals.length (t.vals.flatMap Val.cells) by rw [← hv]; exact hi.vals.1)
  have hvn : ∀ b, (Value.slice va t.vals.length vc).ownBlock = some b → own b = some (N + 1, 1) := fun b e => hi.vals.2 b (by rw [hv]; exact e)
  have HV := Lib.hid hvn
  have i3 := ice_of hcur (N * 4 + 3)
  have ltg := lt_of_heap hcur
  have s0 := h1
  have a0 := cell_of s0 0; have a1 := cell_of s0 1; have a2 := cell_of s0 2; have f0 := ice_of s0 0; have f1 := ice_of s0 1; have f2 := ice_of s0 2; have a4 := lt_of_heap s0; (try simp only [World.size_alloc, List.getElem?_toArray, List.getElem?_cons_zero, List.getElem?_cons_succ] at a0 a1 a2 f0 f1 f2 a4); clear s0
  have s0 := hbox
  have a0 := cell_of s0 0; have a1 := cell_of s0 1; have a2 := cell_of s0 2; have f0 := ice_of s0 0; have f1 := ice_of s0 1; have f2 := ice_of s0 2; have a4 := lt_of_heap s0; (try simp only [World.size_alloc, List.getElem?_toArray, List.getElem?_cons_zero, List.getElem?_cons_succ] at a0 a1 a2 f0 f1 f2 a4); clear s0
  dsimp only at *
  clear h1 hcur hbox hi hrow hv hr hvn
  subst hA
  have hne1 : rb ≠ tg := fun e => by subst e; have := HI.out.2.1.2 rb rfl; rw [hR1.1.mine] at this; cases this
  have hne2 : w.heap.size ≠ tg := fun e => by have := HR.out.lt _ _ (HI.out.2.1.2 tg rfl); omega
  go_region_law (first | (go_simp; go_at_call 38; refine (s_sane rb ⟨H.room, H.used + 1, H.things⟩ rs own _ _ _ _ (hR1.1.up uq)  (Wf.more HW.out hf)).mono ?_; rintro e w3 ⟨rfl, hu3⟩; have hw3 : Up W1 w3 := uq; have s0 := hw3.get HC.out.1; have a0 := cell_of s0 0; have a1 := cell_of s0 1; have a2 := cell_of s0 2; have f0 := ice_of s0 0; have f1 := ice_of s0 1; have f2 := ice_of s0 2; have a4 := lt_of_heap s0; (try simp only [World.size_alloc, List.getElem?_toArray, List.getElem?_cons_zero, List.getElem?_cons_succ] at a0 a1 a2 f0 f1 f2 a4); clear s0; have s0 := hw3.get HC.out.2.2.1; have a0 := cell_of s0 0; have a1 := cell_of s0 1; have a2 := cell_of s0 2; have f0 := ice_of s0 0; have f1 := ice_of s0 1; have f2 := ice_of s0 2; have a4 := lt_of_heap s0; (try simp only [World.size_alloc, List.getElem?_toArray, List.getElem?_cons_zero, List.getElem?_cons_succ] at a0 a1 a2 f0 f1 f2 a4); clear s0; have c3 := (hw3.cells tg _ ltg).trans HC.out.2.2.2; have i3 := ice_of (hw3.get HC.out.2.1) (N * 4 + 3); have ltg2 := Nat.lt_of_lt_of_le ltg hw3.size) | (refine step_append_new rfl _ _ 83 rfl 34 i0 (.agg #[.int .i64 0, .int .i64 0, .string ⟨#[]⟩]) 3 32 Tryz.underlying83 hi0 y0 y1 y2 rfl (by decide) (.slice va t.vals.length vc) t.vals.length (t.vals.flatMap Val.cells) rfl (ownsRow_up hvals.out uq) _ 1 1 rfl ?_ rfl ?_ ?_ ?_ ?_; rfl; (simp [Value.oneCell']); (unfold maxLen; omega); omega; intro sa' cap' w4 hown' hgrow hblk; have s0 := grown_get hgrow (Up.get (w := W1) uq HC.out.1) (fun e => by have h9 := HV.out rb e; rw [hR1.1.mine] at h9; cases h9); have a0 := cell_of s0 0; have a1 := cell_of s0 1; have a2 := cell_of s0 2; have f0 := ice_of s0 0; have f1 := ice_of s0 1; have f2 := ice_of s0 2; have a4 := lt_of_heap s0; (try simp only [World.size_alloc, List.getElem?_toArray, List.getElem?_cons_zero, List.getElem?_cons_succ] at a0 a1 a2 f0 f1 f2 a4); clear s0; have s0 := grown_get hgrow (Up.get (w := W1) uq HC.out.2.2.1) (fun e => by have h9 := HV.out _ e; have := HR.out.lt _ _ h9; omega); have a0 := cell_of s0 0; have a1 := cell_of s0 1; have a2 := cell_of s0 2; have f0 := ice_of s0 0; have f1 := ice_of s0 1; have f2 := ice_of s0 2; have a4 := lt_of_heap s0; (try simp only [World.size_alloc, List.getElem?_toArray, List.getElem?_cons_zero, List.getElem?_cons_succ] at a0 a1 a2 f0 f1 f2 a4); clear s0; have t0 := grown_get hgrow (Up.get (w := W1) uq HC.out.2.1) (fun e => by have h9 := HV.out tg e; rw [HI.out.2.1.2 tg rfl] at h9; cases h9); have i3 := ice_of t0 (N * 4 + 3); have c3 := (cell_of t0 (N * 4 + 3)).trans ((cell_of (Up.get (w := W1) uq HC.out.2.1) (N * 4 + 3)).symm.trans ((Up.cells (show Up W1 _ from uq) tg _ ltg).trans HC.out.2.2.2)); have ltg3 := lt_of_heap t0; clear t0))
  all_goals
    have HG := Lib.hid (And.intro hown' (And.intro hgrow hblk))
    clear hown' hgrow hblk
    go_wp2_with fail
    refine bodyPost_ret (v := .tuple #[.int .i64 ((t.vals.length : Int) + 1), .int .i64 0]) (by simp [results, Tryz.results33, go_sem, *]) rfl ?_
    obtain ⟨hown', hgrow, hblk⟩ := HG.out
    obtain ⟨own', h1, h2⟩ := RRep.valued (x := plainS H x) (hR1.1.up uq) HT.out.1 HI.out.2.2.2 (Up.get (w := W1) uq HC.out.1) (HI.out.2.1.up uq) (HI.out.1.up uq) HI.out.2.2.1 hown' hgrow (by simpa only [World.size_alloc] using hblk)
    exact ⟨rfl, _, own', h1, (hR1.2.up uq).trans h2⟩

end Go.Proofs.YtmbipadiaggolaaGreatDoor
