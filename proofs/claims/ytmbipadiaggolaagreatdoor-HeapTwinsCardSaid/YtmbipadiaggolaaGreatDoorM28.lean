import Derived.Test.YtmbipadiaggolaaGreatDoorM27
/- YtmbipadiaggolaaGreatDoorM28: lemmas of the proof, in order: RefW, RefX. -/
/- Walks: the document's heap: Put of an array. -/
namespace Go.Proofs.YtmbipadiaggolaaGreatDoor
open Go.RowKit
set_option linter.unusedSimpArgs false

set_option maxHeartbeats 1600000 in
theorem s_put_lo (rb : Nat) (k n k2 n2 : Int) (s s2 : ByteArray) (x : Val) (H : HM) (rs : List RT) (own : Own) (w : World) (h : RRep w rb H rs own) (hw : H.Wf) (N : Nat) (ps : ByteArray) (qn : Int) (qs : ByteArray) (t : Thing) (hpv : plainS H ⟨k, n, s⟩ = ⟨5, N, ps⟩) (hpi : plainS H ⟨k2, n2, s2⟩ = ⟨3, qn, qs⟩) (hti : H.things[N]? = some t) (htk : t.kind = 2) (hq : qn < 0) :
    Calls Tryz.prog 31 #[.pointer (some ⟨rb, 0, none⟩), .agg #[.int .i64 k, .int .i64 n, .string s], .agg #[.int .i64 k2, .int .i64 n2, .string s2], .agg #[.int .i64 (x).k, .int .i64 (x).n, .string (x).s]] w fun e w' => e = .returned (outV ⟨0, 0, ⟨#[]⟩⟩ noIndexS 1) ∧ Up w w' := by
  have HR := Lib.hid h
  have HW := Lib.hid hw
  have HP := Lib.hid (And.intro hpv hpi)
  have HT := Lib.hid (And.intro hti htk)
  have HA : Hid (H.isArr 5 N = true) := by unfold Hid HM.isArr; rw [(kindOf_at hti).2, htk]; rfl
  have hvl : t.vals.length ≤ 1048576 := by have := sizes_at _ _ _ hti; have q1 := hw.few; have q2 := hw.roomU; have q3 := hw.roomM; simp only [Thing.size] at this; omega
  have hNl : (N : Int) < H.things.length := by have := (List.getElem?_eq_some_iff.1 hti).1; omega
  have hll := wf_len hw
  obtain ⟨tg, cap, r, h1, hr, _, c3, hi, ⟨cur, hcur⟩, hrow⟩ := h.at2 hti
  obtain ⟨sa, sc, hsv⟩ := ownsRow_form hi.vals.1
  rw [hsv] at c3
  have HX := Lib.hid (And.intro h1 (And.intro c3 (And.intro hi (And.intro hcur (And.intro hrow (And.intro hsv hr))))))
  have ltg := lt_of_heap hcur
  have lrb := lt_of_heap h1
  clear h hw hpv hpi hti htk h1 c3 hi hcur hrow hsv hr
  have HNO : Hid (own (w.heap.size + 1 + 1 + 1) = none) := by
    unfold Hid
    cases ho : own (w.heap.size + 1 + 1 + 1) with
    | none => rfl
    | some m => have := HR.out.lt _ _ ho; omega
  have I2 : ((((w.alloc (.cells #[.int .i64 k, .int .i64 n, .string s] 34)).alloc (.cells #[.int .i64 k2, .int .i64 n2, .string s2] 34)).alloc (.cells #[.int .i64 x.k, .int .i64 x.n, .string x.s] 34)).alloc (.cells #[.int .i64 0, .int .i64 0, .string ⟨#[]⟩, .string ⟨#[]⟩, .int .i64 0] 56)).heap[w.heap.size + 1]? = some (.cells #[.int .i64 k2, .int .i64 n2, .string s2] 34 (0, 0)) := alloc_keep (alloc_keep (alloc_at _ _ _ (by simp)))
  have I3 : ((((w.alloc (.cells #[.int .i64 k, .int .i64 n, .string s] 34)).alloc (.cells #[.int .i64 k2, .int .i64 n2, .string s2] 34)).alloc (.cells #[.int .i64 x.k, .int .i64 x.n, .string x.s] 34)).alloc (.cells #[.int .i64 0, .int .i64 0, .string ⟨#[]⟩, .string ⟨#[]⟩, .int .i64 0] 56)).heap[w.heap.size + 1 + 1]? = some (.cells #[.int .i64 x.k, .int .i64 x.n, .string x.s] 34 (0, 0)) := alloc_keep (alloc_at _ _ _ (by simp))
  have hb1 : decide (qn ≥ 0) = false := by simp; omega
  have hb2 : (qn == (t.vals.length : Int)) = false := by simp; omega
  go_enter Tryz.func31, Tryz.ntmps31
  go_wp2_with (first | (go_at_call 38; refine (s_sane rb H rs own _ _ _ _ (HR.out.up uq) HW.out).mono ?_; rintro e w' ⟨rfl, hu⟩; simp only [HP.out.1]; have s0 : w'.heap[w.heap.size + 1 + 1 + 1]? = some (.cells #[.int .i64 0, .int .i64 0, .string ⟨#[]⟩, .string ⟨#[]⟩, .int .i64 0] 56 (0, 0)) := hu.get (alloc_at _ _ _ (by simp)); have B1 := Lib.hid s0; have B4 := Lib.hid (hu.get I3); have s0 : w'.heap[w.heap.size + 1]? = some (.cells #[.int .i64 k2, .int .i64 n2, .string s2] 34 (0, 0)) := hu.get I2; have a0 := cell_of s0 0; have a1 := cell_of s0 1; have a2 := cell_of s0 2; have f0 := ice_of s0 0; have f1 := ice_of s0 1; have f2 := ice_of s0 2; have a4 := lt_of_heap s0; (try simp only [World.size_alloc, List.getElem?_toArray, List.getElem?_cons_zero, List.getElem?_cons_succ] at a0 a1 a2 f0 f1 f2 a4); clear s0) | (go_at_call 38; refine (s_sane rb H rs own _ _ _ _ (HR.out.up uq) HW.out).mono ?_; rintro e w2 ⟨rfl, hu2⟩; simp only [HP.out.2]; have s0 := hu2.get (alloc_get w' _); have B7 := Lib.hid s0; have a0 := cell_of s0 0; have a1 := cell_of s0 1; have a2 := cell_of s0 2; have f0 := ice_of s0 0; have f1 := ice_of s0 1; have f2 := ice_of s0 2; have a4 := lt_of_heap s0; (try simp only [World.size_alloc, List.getElem?_toArray, List.getElem?_cons_zero, List.getElem?_cons_succ] at a0 a1 a2 f0 f1 f2 a4); clear s0) | (go_at_call 52; refine (s_array rb H rs own _ _ _ _ (HR.out.up uq) HW.out).mono ?_; rintro e w3 ⟨rfl, hu3⟩; rw [HA.out]; have hw3 : Up w w3 := uq; have B8 := Lib.hid (hu3.get (alloc_get w2 _)); have B9 := Lib.hid (hu3.get (Up.get (w := w2) uq B7.out)); have B5 := Lib.hid (hu3.get (Up.get (w := w') uq B4.out)); have B6 := Lib.hid (hu3.get (Up.get (w := w') uq B1.out)); have s0 := B8.out; have a0 := cell_of s0 0; have a1 := cell_of s0 1; have a2 := cell_of s0 2; have f0 := ice_of s0 0; have f1 := ice_of s0 1; have f2 := ice_of s0 2; have a4 := lt_of_heap s0; (try simp only [World.size_alloc, List.getElem?_toArray, List.getElem?_cons_zero, List.getElem?_cons_succ] at a0 a1 a2 f0 f1 f2 a4); clear s0; have s0 := B9.out; have a0 := cell_of s0 0; have a1 := cell_of s0 1; have a2 := cell_of s0 2; have f0 := ice_of s0 0; have f1 := ice_of s0 1; have f2 := ice_of s0 2; have a4 := lt_of_heap s0; (try simp only [World.size_alloc, List.getElem?_toArray, List.getElem?_cons_zero, List.getElem?_cons_succ] at a0 a1 a2 f0 f1 f2 a4); clear s0; have s0 := B5.out; have a0 := cell_of s0 0; have a1 := cell_of s0 1; have a2 := cell_of s0 2; have f0 := ice_of s0 0; have f1 := ice_of s0 1; have f2 := ice_of s0 2; have a4 := lt_of_heap s0; (try simp only [World.size_alloc, List.getElem?_toArray, List.getElem?_cons_zero, List.getElem?_cons_succ] at a0 a1 a2 f0 f1 f2 a4); clear s0; have s0 := B6.out; have b0 := cell_of s0 0; have g0 := ice_of s0 0; have b1 := cell_of s0 1; have g1 := ice_of s0 1; have b2 := cell_of s0 2; have g2 := ice_of s0 2; have b3 := cell_of s0 3; have g3 := ice_of s0 3; have b4 := cell_of s0 4; have g4 := ice_of s0 4; have b9 := lt_of_heap s0; (try simp only [World.size_alloc, List.getElem?_toArray, List.getElem?_cons_zero, List.getElem?_cons_succ] at b0 b1 b2 b3 b4 g0 g1 g2 g3 g4 b9); clear s0; have s0 := hw3.get HX.out.1; have a0 := cell_of s0 0; have a1 := cell_of s0 1; have a2 := cell_of s0 2; have f0 := ice_of s0 0; have f1 := ice_of s0 1; have f2 := ice_of s0 2; have a4 := lt_of_heap s0; (try simp only [World.size_alloc, List.getElem?_toArray, List.getElem?_cons_zero, List.getElem?_cons_succ] at a0 a1 a2 f0 f1 f2 a4); clear s0; have c3 := (hw3.cells tg (N * 4 + 3) ltg).trans HX.out.2.1))
  go_quiet (fail)
  go_wp2_with (go_at_call 49; refine (rThrow_any _ _).mono ?_; rintro e w4 ⟨rfl, hu4⟩; have s0 := hu4.get B6.out; have b0 := cell_of s0 0; have g0 := ice_of s0 0; have b1 := cell_of s0 1; have g1 := ice_of s0 1; have b2 := cell_of s0 2; have g2 := ice_of s0 2; have b3 := cell_of s0 3; have g3 := ice_of s0 3; have b4 := cell_of s0 4; have g4 := ice_of s0 4; have b9 := lt_of_heap s0; (try simp only [World.size_alloc, List.getElem?_toArray, List.getElem?_cons_zero, List.getElem?_cons_succ] at b0 b1 b2 b3 b4 g0 g1 g2 g3 g4 b9); clear s0)
  all_goals (refine bodyPost_eq (by (simp [results, Tryz.results31, go_sem, *]) <;> rfl) rfl rfl ⟨rfl, uq⟩)

set_option maxHeartbeats 1600000 in
theorem s_put_hi (rb : Nat) (k n k2 n2 : Int) (s s2 : ByteArray) (x : Val) (H : HM) (rs : List RT) (own : Own) (w : World) (h : RRep w rb H rs own) (hw : H.Wf) (N : Nat) (ps : ByteArray) (qn : Int) (qs : ByteArray) (t : Thing) (hpv : plainS H ⟨k, n, s⟩ = ⟨5, N, ps⟩) (hpi : plainS H ⟨k2, n2, s2⟩ = ⟨3, qn, qs⟩) (hti : H.things[N]? = some t) (htk : t.kind = 2) (hq : (t.vals.length : Int) < qn) :
    Calls Tryz.prog 31 #[.pointer (some ⟨rb, 0, none⟩), .agg #[.int .i64 k, .int .i64 n, .string s], .agg #[.int .i64 k2, .int .i64 n2, .string s2], .agg #[.int .i64 (x).k, .int .i64 (x).n, .string (x).s]] w fun e w' => e = .returned (outV ⟨0, 0, ⟨#[]⟩⟩ noIndexS 1) ∧ Up w w' := by
  have HR := Lib.hid h
  have HW := Lib.hid hw
  have HP := Lib.hid (And.intro hpv hpi)
  have HT := Lib.hid (And.intro hti htk)
  have HA : Hid (H.isArr 5 N = true) := by unfold Hid HM.isArr; rw [(kindOf_at hti).2, htk]; rfl
  have hvl : t.vals.length ≤ 1048576 := by have := sizes_at _ _ _ hti; have q1 := hw.few; have q2 := hw.roomU; have q3 := hw.roomM; simp only [Thing.size] at this; omega
  have hNl : (N : Int) < H.things.length := by have := (List.getElem?_eq_some_iff.1 hti).1; omega
  have hll := wf_len hw
  obtain ⟨tg, cap, r, h1, hr, _, c3, hi, ⟨cur, hcur⟩, hrow⟩ := h.at2 hti
  obtain ⟨sa, sc, hsv⟩ := ownsRow_form hi.vals.1
  rw [hsv] at c3
  have HX := Lib.hid (And.intro h1 (And.intro c3 (And.intro hi (And.intro hcur (And.intro hrow (And.intro hsv hr))))))
  have ltg := lt_of_heap hcur
  have lrb := lt_of_heap h1
  clear h hw hpv hpi hti htk h1 c3 hi hcur hrow hsv hr
  have HNO : Hid (own (w.heap.size + 1 + 1 + 1) = none) := by
    unfold Hid
    cases ho : own (w.heap.size + 1 + 1 + 1) with
    | none => rfl
    | some m => have := HR.out.lt _ _ ho; omega
  have I2 : ((((w.alloc (.cells #[.int .i64 k, .int .i64 n, .string s] 34)).alloc (.cells #[.int .i64 k2, .int .i64 n2, .string s2] 34)).alloc (.cells #[.int .i64 x.k, .int .i64 x.n, .string x.s] 34)).alloc (.cells #[.int .i64 0, .int .i64 0, .string ⟨#[]⟩, .string ⟨#[]⟩, .int .i64 0] 56)).heap[w.heap.size + 1]? = some (.cells #[.int .i64 k2, .int .i64 n2, .string s2] 34 (0, 0)) := alloc_keep (alloc_keep (alloc_at _ _ _ (by simp)))
  have I3 : ((((w.alloc (.cells #[.int .i64 k, .int .i64 n, .string s] 34)).alloc (.cells #[.int .i64 k2, .int .i64 n2, .string s2] 34)).alloc (.cells #[.int .i64 x.k, .int .i64 x.n, .string x.s] 34)).alloc (.cells #[.int .i64 0, .int .i64 0, .string ⟨#[]⟩, .string ⟨#[]⟩, .int .i64 0] 56)).heap[w.heap.size + 1 + 1]? = some (.cells #[.int .i64 x.k, .int .i64 x.n, .string x.s] 34 (0, 0)) := alloc_keep (alloc_at _ _ _ (by simp))
  have hb1 : decide (qn ≥ 0) = true := by simp; omega
  have hb2 : (qn == (t.vals.length : Int)) = false := by simp; omega
  go_enter Tryz.func31, Tryz.ntmps31
  go_wp2_with (first | (go_at_call 38; refine (s_sane rb H rs own _ _ _ _ (HR.out.up uq) HW.out).mono ?_; rintro e w' ⟨rfl, hu⟩; simp only [HP.out.1]; have s0 : w'.heap[w.heap.size + 1 + 1 + 1]? = some (.cells #[.int .i64 0, .int .i64 0, .string ⟨#[]⟩, .string ⟨#[]⟩, .int .i64 0] 56 (0, 0)) := hu.get (alloc_at _ _ _ (by simp)); have B1 := Lib.hid s0; have B4 := Lib.hid (hu.get I3); have s0 : w'.heap[w.heap.size + 1]? = some (.cells #[.int .i64 k2, .int .i64 n2, .string s2] 34 (0, 0)) := hu.get I2; have a0 := cell_of s0 0; have a1 := cell_of s0 1; have a2 := cell_of s0 2; have f0 := ice_of s0 0; have f1 := ice_of s0 1; have f2 := ice_of s0 2; have a4 := lt_of_heap s0; (try simp only [World.size_alloc, List.getElem?_toArray, List.getElem?_cons_zero, List.getElem?_cons_succ] at a0 a1 a2 f0 f1 f2 a4); clear s0) | (go_at_call 38; refine (s_sane rb H rs own _ _ _ _ (HR.out.up uq) HW.out).mono ?_; rintro e w2 ⟨rfl, hu2⟩; simp only [HP.out.2]; have s0 := hu2.get (alloc_get w' _); have B7 := Lib.hid s0; have a0 := cell_of s0 0; have a1 := cell_of s0 1; have a2 := cell_of s0 2; have f0 := ice_of s0 0; have f1 := ice_of s0 1; have f2 := ice_of s0 2; have a4 := lt_of_heap s0; (try simp only [World.size_alloc, List.getElem?_toArray, List.getElem?_cons_zero, List.getElem?_cons_succ] at a0 a1 a2 f0 f1 f2 a4); clear s0) | (go_at_call 52; refine (s_array rb H rs own _ _ _ _ (HR.out.up uq) HW.out).mono ?_; rintro e w3 ⟨rfl, hu3⟩; rw [HA.out]; have hw3 : Up w w3 := uq; have B8 := Lib.hid (hu3.get (alloc_get w2 _)); have B9 := Lib.hid (hu3.get (Up.get (w := w2) uq B7.out)); have B5 := Lib.hid (hu3.get (Up.get (w := w') uq B4.out)); have B6 := Lib.hid (hu3.get (Up.get (w := w') uq B1.out)); have s0 := B8.out; have a0 := cell_of s0 0; have a1 := cell_of s0 1; have a2 := cell_of s0 2; have f0 := ice_of s0 0; have f1 := ice_of s0 1; have f2 := ice_of s0 2; have a4 := lt_of_heap s0; (try simp only [World.size_alloc, List.getElem?_toArray, List.getElem?_cons_zero, List.getElem?_cons_succ] at a0 a1 a2 f0 f1 f2 a4); clear s0; have s0 := B9.out; have a0 := cell_of s0 0; have a1 := cell_of s0 1; have a2 := cell_of s0 2; have f0 := ice_of s0 0; have f1 := ice_of s0 1; have f2 := ice_of s0 2; have a4 := lt_of_heap s0; (try simp only [World.size_alloc, List.getElem?_toArray, List.getElem?_cons_zero, List.getElem?_cons_succ] at a0 a1 a2 f0 f1 f2 a4); clear s0; have s0 := B5.out; have a0 := cell_of s0 0; have a1 := cell_of s0 1; have a2 := cell_of s0 2; have f0 := ice_of s0 0; have f1 := ice_of s0 1; have f2 := ice_of s0 2; have a4 := lt_of_heap s0; (try simp only [World.size_alloc, List.getElem?_toArray, List.getElem?_cons_zero, List.getElem?_cons_succ] at a0 a1 a2 f0 f1 f2 a4); clear s0; have s0 := B6.out; have b0 := cell_of s0 0; have g0 := ice_of s0 0; have b1 := cell_of s0 1; have g1 := ice_of s0 1; have b2 := cell_of s0 2; have g2 := ice_of s0 2; have b3 := cell_of s0 3; have g3 := ice_of s0 3; have b4 := cell_of s0 4; have g4 := ice_of s0 4; have b9 := lt_of_heap s0; (try simp only [World.size_alloc, List.getElem?_toArray, List.getElem?_cons_zero, List.getElem?_cons_succ] at b0 b1 b2 b3 b4 g0 g1 g2 g3 g4 b9); clear s0; have s0 := hw3.get HX.out.1; have a0 := cell_of s0 0; have a1 := cell_of s0 1; have a2 := cell_of s0 2; have f0 := ice_of s0 0; have f1 := ice_of s0 1; have f2 := ice_of s0 2; have a4 := lt_of_heap s0; (try simp only [World.size_alloc, List.getElem?_toArray, List.getElem?_cons_zero, List.getElem?_cons_succ] at a0 a1 a2 f0 f1 f2 a4); clear s0; have c3 := (hw3.cells tg (N * 4 + 3) ltg).trans HX.out.2.1))
  go_quiet (fail)
  go_wp2_with (go_at_call 49; refine (rThrow_any _ _).mono ?_; rintro e w4 ⟨rfl, hu4⟩; have s0 := hu4.get B6.out; have b0 := cell_of s0 0; have g0 := ice_of s0 0; have b1 := cell_of s0 1; have g1 := ice_of s0 1; have b2 := cell_of s0 2; have g2 := ice_of s0 2; have b3 := cell_of s0 3; have g3 := ice_of s0 3; have b4 := cell_of s0 4; have g4 := ice_of s0 4; have b9 := lt_of_heap s0; (try simp only [World.size_alloc, List.getElem?_toArray, List.getElem?_cons_zero, List.getElem?_cons_succ] at b0 b1 b2 b3 b4 g0 g1 g2 g3 g4 b9); clear s0)
  all_goals (refine bodyPost_eq (by (simp [results, Tryz.results31, go_sem, *]) <;> rfl) rfl rfl ⟨rfl, uq⟩)

set_option maxHeartbeats 1600000 in
theorem s_put_push (rb : Nat) (k n k2 n2 : Int) (s s2 : ByteArray) (x : Val) (H : HM) (rs : List RT) (own : Own) (w : World) (h : RRep w rb H rs own) (hw : H.Wf) (N : Nat) (ps : ByteArray) (qs : ByteArray) (t : Thing) (hpv : plainS H ⟨k, n, s⟩ = ⟨5, N, ps⟩) (hpi : plainS H ⟨k2, n2, s2⟩ = ⟨3, (t.vals.length : Int), qs⟩) (hti : H.things[N]? = some t) (htk : t.kind = 2) :
    Calls Tryz.prog 31 #[.pointer (some ⟨rb, 0, none⟩), .agg #[.int .i64 k, .int .i64 n, .string s], .agg #[.int .i64 k2, .int .i64 n2, .string s2], .agg #[.int .i64 (x).k, .int .i64 (x).n, .string (x).s]] w (RWrote rb (H.push N x).1 own w (outV ⟨0, 0, ⟨#[]⟩⟩ ⟨#[]⟩ (H.push N x).2.2)) := by
  obtain ⟨R, hS⟩ : ∃ R, Hid (H.push N x = R) := ⟨_, rfl⟩
  rw [hS.out]
  have HR := Lib.hid h
  have HW := Lib.hid hw
  have HP := Lib.hid (And.intro hpv hpi)
  have HT := Lib.hid (And.intro hti htk)
  have HA : Hid (H.isArr 5 N = true) := by unfold Hid HM.isArr; rw [(kindOf_at hti).2, htk]; rfl
  have hvl : t.vals.length ≤ 1048576 := by have := sizes_at _ _ _ hti; have q1 := hw.few; have q2 := hw.roomU; have q3 := hw.roomM; simp only [Thing.size] at this; omega
  have hNl : (N : Int) < H.things.length := by have := (List.getElem?_eq_some_iff.1 hti).1; omega
  have hll := wf_len hw
  obtain ⟨tg, cap, r, h1, hr, _, c3, hi, ⟨cur, hcur⟩, hrow⟩ := h.at2 hti
  obtain ⟨sa, sc, hsv⟩ := ownsRow_form hi.vals.1
  rw [hsv] at c3
  have HX := Lib.hid (And.intro h1 (And.intro c3 (And.intro hi (And.intro hcur (And.intro hrow (And.intro hsv hr))))))
  have ltg := lt_of_heap hcur
  have lrb := lt_of_heap h1
  clear h hw hpv hpi hti htk h1 c3 hi hcur hrow hsv hr
  have HNO : Hid (own (w.heap.size + 1 + 1 + 1) = none) := by
    unfold Hid
    cases ho : own (w.heap.size + 1 + 1 + 1) with
    | none => rfl
    | some m => have := HR.out.lt _ _ ho; omega
  have I2 : ((((w.alloc (.cells #[.int .i64 k, .int .i64 n, .string s] 34)).alloc (.cells #[.int .i64 k2, .int .i64 n2, .string s2] 34)).alloc (.cells #[.int .i64 x.k, .int .i64 x.n, .string x.s] 34)).alloc (.cells #[.int .i64 0, .int .i64 0, .string ⟨#[]⟩, .string ⟨#[]⟩, .int .i64 0] 56)).heap[w.heap.size + 1]? = some (.cells #[.int .i64 k2, .int .i64 n2, .string s2] 34 (0, 0)) := alloc_keep (alloc_keep (alloc_at _ _ _ (by simp)))
  have I3 : ((((w.alloc (.cells #[.int .i64 k, .int .i64 n, .string s] 34)).alloc (.cells #[.int .i64 k2, .int .i64 n2, .string s2] 34)).alloc (.cells #[.int .i64 x.k, .int .i64 x.n, .string x.s] 34)).alloc (.cells #[.int .i64 0, .int .i64 0, .string ⟨#[]⟩, .string ⟨#[]⟩, .int .i64 0] 56)).heap[w.heap.size + 1 + 1]? = some (.cells #[.int .i64 x.k, .int .i64 x.n, .string x.s] 34 (0, 0)) := alloc_keep (alloc_at _ _ _ (by simp))
  go_enter Tryz.func31, Tryz.ntmps31
  go_wp2_with (first | (go_at_call 38; refine (s_sane rb H rs own _ _ _ _ (HR.out.up uq) HW.out).mono ?_; rintro e w' ⟨rfl, hu⟩; simp only [HP.out.1]; have s0 : w'.heap[w.heap.size + 1 + 1 + 1]? = some (.cells #[.int .i64 0, .int .i64 0, .string ⟨#[]⟩, .string ⟨#[]⟩, .int .i64 0] 56 (0, 0)) := hu.get (alloc_at _ _ _ (by simp)); have B1 := Lib.hid s0; have B4 := Lib.hid (hu.get I3); have s0 : w'.heap[w.heap.size + 1]? = some (.cells #[.int .i64 k2, .int .i64 n2, .string s2] 34 (0, 0)) := hu.get I2; have a0 := cell_of s0 0; have a1 := cell_of s0 1; have a2 := cell_of s0 2; have f0 := ice_of s0 0; have f1 := ice_of s0 1; have f2 := ice_of s0 2; have a4 := lt_of_heap s0; (try simp only [World.size_alloc, List.getElem?_toArray, List.getElem?_cons_zero, List.getElem?_cons_succ] at a0 a1 a2 f0 f1 f2 a4); clear s0) | (go_at_call 38; refine (s_sane rb H rs own _ _ _ _ (HR.out.up uq) HW.out).mono ?_; rintro e w2 ⟨rfl, hu2⟩; simp only [HP.out.2]; have s0 := hu2.get (alloc_get w' _); have B7 := Lib.hid s0; have a0 := cell_of s0 0; have a1 := cell_of s0 1; have a2 := cell_of s0 2; have f0 := ice_of s0 0; have f1 := ice_of s0 1; have f2 := ice_of s0 2; have a4 := lt_of_heap s0; (try simp only [World.size_alloc, List.getElem?_toArray, List.getElem?_cons_zero, List.getElem?_cons_succ] at a0 a1 a2 f0 f1 f2 a4); clear s0) | (go_at_call 52; refine (s_array rb H rs own _ _ _ _ (HR.out.up uq) HW.out).mono ?_; rintro e w3 ⟨rfl, hu3⟩; rw [HA.out]; have hw3 : Up w w3 := uq; have B8 := Lib.hid (hu3.get (alloc_get w2 _)); have B9 := Lib.hid (hu3.get (Up.get (w := w2) uq B7.out)); have B5 := Lib.hid (hu3.get (Up.get (w := w') uq B4.out)); have B6 := Lib.hid (hu3.get (Up.get (w := w') uq B1.out)); have s0 := B8.out; have a0 := cell_of s0 0; have a1 := cell_of s0 1; have a2 := cell_of s0 2; have f0 := ice_of s0 0; have f1 := ice_of s0 1; have f2 := ice_of s0 2; have a4 := lt_of_heap s0; (try simp only [World.size_alloc, List.getElem?_toArray, List.getElem?_cons_zero, List.getElem?_cons_succ] at a0 a1 a2 f0 f1 f2 a4); clear s0; have s0 := B9.out; have a0 := cell_of s0 0; have a1 := cell_of s0 1; have a2 := cell_of s0 2; have f0 := ice_of s0 0; have f1 := ice_of s0 1; have f2 := ice_of s0 2; have a4 := lt_of_heap s0; (try simp only [World.size_alloc, List.getElem?_toArray, List.getElem?_cons_zero, List.getElem?_cons_succ] at a0 a1 a2 f0 f1 f2 a4); clear s0; have s0 := B5.out; have a0 := cell_of s0 0; have a1 := cell_of s0 1; have a2 := cell_of s0 2; have f0 := ice_of s0 0; have f1 := ice_of s0 1; have f2 := ice_of s0 2; have a4 := lt_of_heap s0; (try simp only [World.size_alloc, List.getElem?_toArray, List.getElem?_cons_zero, List.getElem?_cons_succ] at a0 a1 a2 f0 f1 f2 a4); clear s0; have s0 := B6.out; have b0 := cell_of s0 0; have g0 := ice_of s0 0; have b1 := cell_of s0 1; have g1 := ice_of s0 1; have b2 := cell_of s0 2; have g2 := ice_of s0 2; have b3 := cell_of s0 3; have g3 := ice_of s0 3; have b4 := cell_of s0 4; have g4 := ice_of s0 4; have b9 := lt_of_heap s0; (try simp only [World.size_alloc, List.getElem?_toArray, List.getElem?_cons_zero, List.getElem?_cons_succ] at b0 b1 b2 b3 b4 g0 g1 g2 g3 g4 b9); clear s0; have s0 := hw3.get HX.out.1; have a0 := cell_of s0 0; have a1 := cell_of s0 1; have a2 := cell_of s0 2; have f0 := ice_of s0 0; have f1 := ice_of s0 1; have f2 := ice_of s0 2; have a4 := lt_of_heap s0; (try simp only [World.size_alloc, List.getElem?_toArray, List.getElem?_cons_zero, List.getElem?_cons_succ] at a0 a1 a2 f0 f1 f2 a4); clear s0; have c3 := (hw3.cells tg (N * 4 + 3) ltg).trans HX.out.2.1))
  go_quiet (fail)
  go_wp2_with (go_at_call 33; refine (s_push rb H rs own _ x _ (HR.out.up uq) HW.out).mono ?_; rintro e w4 ⟨rfl, rs', own', hR4, hM4⟩; rw [hS.out]; have s0 := hM4.get B6.out HNO.out; have b0 := cell_of s0 0; have g0 := ice_of s0 0; have b1 := cell_of s0 1; have g1 := ice_of s0 1; have b2 := cell_of s0 2; have g2 := ice_of s0 2; have b3 := cell_of s0 3; have g3 := ice_of s0 3; have b4 := cell_of s0 4; have g4 := ice_of s0 4; have b9 := lt_of_heap s0; (try simp only [World.size_alloc, List.getElem?_toArray, List.getElem?_cons_zero, List.getElem?_cons_succ] at b0 b1 b2 b3 b4 g0 g1 g2 g3 g4 b9); clear s0)
  refine bodyPost_eq (by (simp [results, Tryz.results31, go_sem, *]) <;> rfl) rfl rfl ?_
  have hz3 := lt_of_heap B6.out
  rw [hS.out] at hR4
  exact RWrote.off hR4 (((show Up w (w3.drewN nq) from uq).mut own).trans hM4) (w.heap.size + 1 + 1 + 1) (by omega) (by rw [hM4.ext _ hz3]; exact HNO.out) (by repeat (first | with_reducible exact Kept.refl _ _ | with_reducible refine Kept.alloc ?_ _ | with_reducible refine Kept.drew ?_ | with_reducible refine Kept.drewN ?_ _ | with_reducible refine Kept.setCell ?_ (by first | exact .inl rfl | exact .inr (by first | omega | (simp; omega))) _)) rfl

end Go.Proofs.YtmbipadiaggolaaGreatDoor

/- Walks: the document's heap: Put in place, and as a whole. -/
namespace Go.Proofs.YtmbipadiaggolaaGreatDoor
open Go.RowKit
set_option linter.unusedSimpArgs false

set_option maxRecDepth 100000 in
set_option maxHeartbeats 4000000 in
theorem s_put_in (rb : Nat) (k n k2 n2 : Int) (s s2 : ByteArray) (x : Val) (H : HM) (rs : List RT) (own : Own) (w : World) (h : RRep w rb H rs own) (hw : H.Wf) (N : Nat) (ps : ByteArray) (qs : ByteArray) (t : Thing) (J : Nat) (y : Val) (hpv : plainS H ⟨k, n, s⟩ = ⟨5, N, ps⟩) (hpi : plainS H ⟨k2, n2, s2⟩ = ⟨3, (J : Int), qs⟩) (hti : H.things[N]? = some t) (htk : t.kind = 2) (hy : t.vals[J]? = some y) :
    Calls Tryz.prog 31 #[.pointer (some ⟨rb, 0, none⟩), .agg #[.int .i64 k, .int .i64 n, .string s], .agg #[.int .i64 k2, .int .i64 n2, .string s2], .agg #[.int .i64 (x).k, .int .i64 (x).n, .string (x).s]] w (RWrote rb ⟨H.room, H.used, H.things.set N ⟨t.kind, t.proto, t.slots, t.vals.set J (plainS H x)⟩⟩ own w (outV ⟨0, 0, ⟨#[]⟩⟩ ⟨#[]⟩ 0)) := by
  have HJ := Lib.hid hy
  have HR := Lib.hid h
  have HW := Lib.hid hw
  have HP := Lib.hid (And.intro hpv hpi)
  have HT := Lib.hid (And.intro hti htk)
  have HA : Hid (H.isArr 5 N = true) := by unfold Hid HM.isArr; rw [(kindOf_at hti).2, htk]; rfl
  have hvl : t.vals.length ≤ 1048576 := by have := sizes_at _ _ _ hti; have q1 := hw.few; have q2 := hw.roomU; have q3 := hw.roomM; simp only [Thing.size] at this; omega
  have hNl : (N : Int) < H.things.length := by have := (List.getElem?_eq_some_iff.1 hti).1; omega
  have hll := wf_len hw
  obtain ⟨tg, cap, r, h1, hr, _, c3, hi, ⟨cur, hcur⟩, hrow⟩ := h.at2 hti
  obtain ⟨sa, sc, hsv⟩ := ownsRow_form hi.vals.1
  rw [hsv] at c3
  have HX := Lib.hid (And.intro h1 (And.intro c3 (And.intro hi (And.intro hcur (And.intro hrow (And.intro hsv hr))))))
  have ltg := lt_of_heap hcur
  have lrb := lt_of_heap h1
  clear h hw hpv hpi hti htk hy h1 c3 hi hcur hrow hsv hr
  have HNO : Hid (own (w.heap.size + 1 + 1 + 1) = none) := by
    unfold Hid
    cases ho : own (w.heap.size + 1 + 1 + 1) with
    | none => rfl
    | some m => have := HR.out.lt _ _ ho; omega
  have I2 : ((((w.alloc (.cells #[.int .i64 k, .int .i64 n, .string s] 34)).alloc (.cells #[.int .i64 k2, .int .i64 n2, .string s2] 34)).alloc (.cells #[.int .i64 x.k, .int .i64 x.n, .string x.s] 34)).alloc (.cells #[.int .i64 0, .int .i64 0, .string ⟨#[]⟩, .string ⟨#[]⟩, .int .i64 0] 56)).heap[w.heap.size + 1]? = some (.cells #[.int .i64 k2, .int .i64 n2, .string s2] 34 (0, 0)) := alloc_keep (alloc_keep (alloc_at _ _ _ (by simp)))
  have I3 : ((((w.alloc (.cells #[.int .i64 k, .int .i64 n, .string s] 34)).alloc (.cells #[.int .i64 k2, .int .i64 n2, .string s2] 34)).alloc (.cells #[.int .i64 x.k, .int .i64 x.n, .string x.s] 34)).alloc (.cells #[.int .i64 0, .int .i64 0, .string ⟨#[]⟩, .string ⟨#[]⟩, .int .i64 0] 56)).heap[w.heap.size + 1 + 1]? = some (.cells #[.int .i64 x.k, .int .i64 x.n, .string x.s] 34 (0, 0)) := alloc_keep (alloc_at _ _ _ (by simp))
  have hJ : (J : Int) < t.vals.length := by have := (List.getElem?_eq_some_iff.1 HJ.out).1; omega
  go_enter Tryz.func31, Tryz.ntmps31
  go_wp2_with (first | (go_at_call 38; refine (s_sane rb H rs own _ _ _ _ (HR.out.up uq) HW.out).mono ?_; rintro e w' ⟨rfl, hu⟩; simp only [HP.out.1]; have s0 : w'.heap[w.heap.size + 1 + 1 + 1]? = some (.cells #[.int .i64 0, .int .i64 0, .string ⟨#[]⟩, .string ⟨#[]⟩, .int .i64 0] 56 (0, 0)) := hu.get (alloc_at _ _ _ (by simp)); have B1 := Lib.hid s0; have B4 := Lib.hid (hu.get I3); have s0 : w'.heap[w.heap.size + 1]? = some (.cells #[.int .i64 k2, .int .i64 n2, .string s2] 34 (0, 0)) := hu.get I2; have a0 := cell_of s0 0; have a1 := cell_of s0 1; have a2 := cell_of s0 2; have f0 := ice_of s0 0; have f1 := ice_of s0 1; have f2 := ice_of s0 2; have a4 := lt_of_heap s0; (try simp only [World.size_alloc, List.getElem?_toArray, List.getElem?_cons_zero, List.getElem?_cons_succ] at a0 a1 a2 f0 f1 f2 a4); clear s0) | (go_at_call 38; refine (s_sane rb H rs own _ _ _ _ (HR.out.up uq) HW.out).mono ?_; rintro e w2 ⟨rfl, hu2⟩; simp only [HP.out.2]; have s0 := hu2.get (alloc_get w' _); have B7 := Lib.hid s0; have a0 := cell_of s0 0; have a1 := cell_of s0 1; have a2 := cell_of s0 2; have f0 := ice_of s0 0; have f1 := ice_of s0 1; have f2 := ice_of s0 2; have a4 := lt_of_heap s0; (try simp only [World.size_alloc, List.getElem?_toArray, List.getElem?_cons_zero, List.getElem?_cons_succ] at a0 a1 a2 f0 f1 f2 a4); clear s0) | (go_at_call 52; refine (s_array rb H rs own _ _ _ _ (HR.out.up uq) HW.out).mono ?_; rintro e w3 ⟨rfl, hu3⟩; rw [HA.out]; have hw3 : Up w w3 := uq; have B8 := Lib.hid (hu3.get (alloc_get w2 _)); have B9 := Lib.hid (hu3.get (Up.get (w := w2) uq B7.out)); have B5 := Lib.hid (hu3.get (Up.get (w := w') uq B4.out)); have B6 := Lib.hid (hu3.get (Up.get (w := w') uq B1.out)); have s0 := B8.out; have a0 := cell_of s0 0; have a1 := cell_of s0 1; have a2 := cell_of s0 2; have f0 := ice_of s0 0; have f1 := ice_of s0 1; have f2 := ice_of s0 2; have a4 := lt_of_heap s0; (try simp only [World.size_alloc, List.getElem?_toArray, List.getElem?_cons_zero, List.getElem?_cons_succ] at a0 a1 a2 f0 f1 f2 a4); clear s0; have s0 := B9.out; have a0 := cell_of s0 0; have a1 := cell_of s0 1; have a2 := cell_of s0 2; have f0 := ice_of s0 0; have f1 := ice_of s0 1; have f2 := ice_of s0 2; have a4 := lt_of_heap s0; (try simp only [World.size_alloc, List.getElem?_toArray, List.getElem?_cons_zero, List.getElem?_cons_succ] at a0 a1 a2 f0 f1 f2 a4); clear s0; have s0 := B5.out; have a0 := cell_of s0 0; have a1 := cell_of s0 1; have a2 := cell_of s0 2; have f0 := ice_of s0 0; have f1 := ice_of s0 1; have f2 := ice_of s0 2; have a4 := lt_of_heap s0; (try simp only [World.size_alloc, List.getElem?_toArray, List.getElem?_cons_zero, List.getElem?_cons_succ] at a0 a1 a2 f0 f1 f2 a4); clear s0; have s0 := B6.out; have b0 := cell_of s0 0; have g0 := ice_of s0 0; have b1 := cell_of s0 1; have g1 := ice_of s0 1; have b2 := cell_of s0 2; have g2 := ice_of s0 2; have b3 := cell_of s0 3; have g3 := ice_of s0 3; have b4 := cell_of s0 4; have g4 := ice_of s0 4; have b9 := lt_of_heap s0; (try simp only [World.size_alloc, List.getElem?_toArray, List.getElem?_cons_zero, List.getElem?_cons_succ] at b0 b1 b2 b3 b4 g0 g1 g2 g3 g4 b9); clear s0; have s0 := hw3.get HX.out.1; have a0 := cell_of s0 0; have a1 := cell_of s0 1; have a2 := cell_of s0 2; have f0 := ice_of s0 0; have f1 := ice_of s0 1; have f2 := ice_of s0 2; have a4 := lt_of_heap s0; (try simp only [World.size_alloc, List.getElem?_toArray, List.getElem?_cons_zero, List.getElem?_cons_succ] at a0 a1 a2 f0 f1 f2 a4); clear s0; have c3 := (hw3.cells tg (N * 4 + 3) ltg).trans HX.out.2.1))
  go_quiet (fail)
  have hW1 : Hid (RRep w3 rb H rs own) := HR.out.up hw3
  have e := fun q hq => flat_get Val.cells 3 (fun _ => rfl) t.vals J _ q HJ.out hq
  have hrow := HX.out.2.2.1.vals.up hw3
  rw [HX.out.2.2.2.2.2.1] at hrow
  obtain ⟨sg, rfl, d1⟩ := row_at hrow (J * 3 + 0) _ (e 0 (by omega))
  obtain ⟨_, hg, d2⟩ := row_at hrow (J * 3 + 1) _ (e 1 (by omega)); cases hg
  obtain ⟨_, hg, d3⟩ := row_at hrow (J * 3 + 2) _ (e 2 (by omega)); cases hg
  rw [Nat.add_zero] at d1
  obtain ⟨scur, hscur⟩ := hrow.block
  have hsgo : own sg = some (N + 1, 1) := hrow.2 sg rfl
  have lsg := lt_of_heap hscur
  have lsg0 := HR.out.lt _ _ hsgo
  have HD := Lib.hid (And.intro d1 (And.intro d2 (And.intro d3 (And.intro hscur hrow))))
  clear e hrow hscur d1 d2 d3
  have hz : w.heap.size + 4 ≤ w'.heap.size := by have := hu.size; simpa only [World.size_alloc] using this
  have hz2 : w'.heap.size + 1 ≤ w2.heap.size := by have := hu2.size; simpa only [World.size_alloc] using this
  go_wp2_with fail
  go_region_held3 (fun W => W.cell? ⟨w2.heap.size, 1, none⟩ = some (.int .i64 J) ∧ W.cell? ⟨w.heap.size + 1 + 1, 0, none⟩ = some (.int .i64 x.k) ∧ W.cell? ⟨w.heap.size + 1 + 1, 1, none⟩ = some (.int .i64 x.n) ∧ W.cell? ⟨w.heap.size + 1 + 1, 2, none⟩ = some (.string x.s)) (((try dsimp only); (repeat' apply And.intro); all_goals (first | go_keep | ((simp (disch := omega) only [cell_set_ne']); assumption)))) (first | (go_at_call 38; refine (s_sane rb H rs own _ _ _ _ (hW1.out.up uq) HW.out).mono ?_; rintro e w4 ⟨rfl, hu4⟩; have hw4 : Up w3 w4 := uq; have s0 := hw4.get B9.out; have a0 := cell_of s0 0; have a1 := cell_of s0 1; have a2 := cell_of s0 2; have f0 := ice_of s0 0; have f1 := ice_of s0 1; have f2 := ice_of s0 2; have a4 := lt_of_heap s0; (try simp only [World.size_alloc, List.getElem?_toArray, List.getElem?_cons_zero, List.getElem?_cons_succ] at a0 a1 a2 f0 f1 f2 a4); clear s0; have s0 := hw4.get B5.out; have a0 := cell_of s0 0; have a1 := cell_of s0 1; have a2 := cell_of s0 2; have f0 := ice_of s0 0; have f1 := ice_of s0 1; have f2 := ice_of s0 2; have a4 := lt_of_heap s0; (try simp only [World.size_alloc, List.getElem?_toArray, List.getElem?_cons_zero, List.getElem?_cons_succ] at a0 a1 a2 f0 f1 f2 a4); clear s0; have s0 := hw4.get B8.out; have a0 := cell_of s0 0; have a1 := cell_of s0 1; have a2 := cell_of s0 2; have f0 := ice_of s0 0; have f1 := ice_of s0 1; have f2 := ice_of s0 2; have a4 := lt_of_heap s0; (try simp only [World.size_alloc, List.getElem?_toArray, List.getElem?_cons_zero, List.getElem?_cons_succ] at a0 a1 a2 f0 f1 f2 a4); clear s0; have s0 := hw4.get B6.out; have b0 := cell_of s0 0; have g0 := ice_of s0 0; have b1 := cell_of s0 1; have g1 := ice_of s0 1; have b2 := cell_of s0 2; have g2 := ice_of s0 2; have b3 := cell_of s0 3; have g3 := ice_of s0 3; have b4 := cell_of s0 4; have g4 := ice_of s0 4; have b9 := lt_of_heap s0; (try simp only [World.size_alloc, List.getElem?_toArray, List.getElem?_cons_zero, List.getElem?_cons_succ] at b0 b1 b2 b3 b4 g0 g1 g2 g3 g4 b9); clear s0; have d1 := (hw4.cells sg (J * 3) lsg).trans HD.out.1; have d2 := (hw4.cells sg (J * 3 + 1) lsg).trans HD.out.2.1; have d3 := (hw4.cells sg (J * 3 + 2) lsg).trans HD.out.2.2.1; have i1 := ice_of (hw4.get HD.out.2.2.2.1) (J * 3); have i2 := ice_of (hw4.get HD.out.2.2.2.1) (J * 3 + 1); have i3 := ice_of (hw4.get HD.out.2.2.2.1) (J * 3 + 2)))
  all_goals
    go_wp2_with fail
    refine bodyPost_eq (by (simp [results, Tryz.results31, go_sem, *]) <;> rfl) rfl rfl ?_
    obtain ⟨q1, q2⟩ := RRep.valPut (hW1.out.up hw4) HT.out.1 HX.out.2.2.2.2.2.2 (HX.out.2.2.1.up (hw3.trans hw4)) HX.out.2.2.2.2.2.1 (j := J) (y := y) HJ.out (plainS H x)
    exact RWrote.off q1 (((hw3.trans hw4).mut own).trans q2) (w.heap.size + 1 + 1 + 1) (by omega) HNO.out (by repeat (first | with_reducible exact Kept.refl _ _ | with_reducible refine Kept.alloc ?_ _ | with_reducible refine Kept.drew ?_ | with_reducible refine Kept.drewN ?_ _ | with_reducible refine Kept.setCell ?_ (by first | exact .inl rfl | exact .inr (by first | omega | (simp; omega))) _)) rfl

/-- Put, as a whole -/
theorem s_put (rb : Nat) (H : HM) (rs : List RT) (own : Own) (v i x : Val) (w : World) (h : RRep w rb H rs own) (hw : H.Wf) :
    Calls Tryz.prog 31 #[.pointer (some ⟨rb, 0, none⟩), .agg #[.int .i64 (v).k, .int .i64 (v).n, .string (v).s], .agg #[.int .i64 (i).k, .int .i64 (i).n, .string (i).s], .agg #[.int .i64 (x).k, .int .i64 (x).n, .string (x).s]] w (RWrote rb (H.put v i x).1 own w (outV ⟨0, 0, ⟨#[]⟩⟩ (H.put v i x).2.1 (H.put v i x).2.2)) := by
  obtain ⟨k, n, s⟩ := v
  obtain ⟨k2, n2, s2⟩ := i
  unfold HM.put
  rcases e1 : plainS H ⟨k, n, s⟩ with ⟨pk, pn, ps⟩
  rcases e2 : plainS H ⟨k2, n2, s2⟩ with ⟨qk, qn, qs⟩
  dsimp only
  cases ha : H.isArr pk pn
  · rw [if_neg (by simp)]
    by_cases h4 : qk = 4
    · rw [if_pos h4]
      exact s_put_set_n rb k n k2 n2 s s2 x H rs own w h hw pk pn ps qk qn qs e1 e2 (by simpa using h4) ha
    · rw [if_neg h4]
      exact (s_put_throw_n rb k n k2 n2 s s2 x H rs own w h hw pk pn ps qk qn qs e1 e2 (by simpa using h4) ha).mono fun e w' ⟨h1, h2⟩ => RWrote.same h h1 h2
  · by_cases h3 : qk = 3
    · rw [if_pos ⟨rfl, h3⟩]
      subst h3
      obtain ⟨hk5, hk2⟩ : pk = 5 ∧ H.kindOf pn = 2 := by simpa [HM.isArr] using ha
      subst hk5
      have ht := (there_of_plain e1).1
      obtain ⟨h0, t, hti⟩ := there_things ht
      obtain ⟨N, rfl⟩ := Int.eq_ofNat_of_zero_le h0
      rw [Int.toNat_natCast] at hti ⊢
      have htk : t.kind = 2 := by rw [← (kindOf_at hti).2]; exact hk2
      rw [hti]
      dsimp only
      by_cases hin : 0 ≤ qn ∧ qn < t.vals.length
      · rw [if_pos hin]
        obtain ⟨J, rfl⟩ := Int.eq_ofNat_of_zero_le hin.1
        rw [Int.toNat_natCast]
        exact s_put_in rb k n k2 n2 s s2 x H rs own w h hw N ps qs t J _ e1 e2 hti htk (List.getElem?_eq_getElem (by omega))
      · rw [if_neg hin]
        by_cases hl : qn = t.vals.length
        · rw [if_pos hl]
          subst hl
          exact s_put_push rb k n k2 n2 s s2 x H rs own w h hw N ps qs t e1 e2 hti htk
        · rw [if_neg hl]
          by_cases hq : qn < 0
          · exact (s_put_lo rb k n k2 n2 s s2 x H rs own w h hw N ps qn qs t e1 e2 hti htk hq).mono fun e w' ⟨h1, h2⟩ => RWrote.same h h1 h2
          · exact (s_put_hi rb k n k2 n2 s s2 x H rs own w h hw N ps qn qs t e1 e2 hti htk (by omega)).mono fun e w' ⟨h1, h2⟩ => RWrote.same h h1 h2
    · rw [if_neg (fun q => h3 q.2)]
      have hq : (qk == 3) = false := by simpa using h3
      by_cases h4 : qk = 4
      · rw [if_pos h4]
        exact s_put_set_a rb k n k2 n2 s s2 x H rs own w h hw pk pn ps qk qn qs e1 e2 hq (by simpa using h4) ha
      · rw [if_neg h4]
        exact (s_put_throw_a rb k n k2 n2 s s2 x H rs own w h hw pk pn ps qk qn qs e1 e2 hq (by simpa using h4) ha).mono fun e w' ⟨h1, h2⟩ => RWrote.same h h1 h2

end Go.Proofs.YtmbipadiaggolaaGreatDoor
