import Derived.Test.YtmbipadiaggolaaGreatDoorM12
/- YtmbipadiaggolaaGreatDoorM13: lemmas of the proof, in order: TextH. -/
/- Walks: Get whole; At whole. -/
namespace Go.Proofs.YtmbipadiaggolaaGreatDoor
open Go.RowKit
set_option linter.unusedSimpArgs false
attribute [local go_sem] Oper.semAt_some ta_aa ta_ao ta_an ta_oa ta_oo ta_on m_kind_a m_kind_o m_behind_a m_behind_o m_own_a m_own_o valV conv_sb

def runesN (s : ByteArray) : Nat := (runesOf s.data.toList).length
/-- Get, whole -/
theorem Get_full (hv : Value) (H : HM) (tvs : List Value) (own : Own) (k n : Int) (s key : ByteArray) (w : World) (h : HRep w hv H tvs own) (hs : (plainS H ⟨k, n, s⟩).s.size ≤ 1000000000) :
    Calls Tryz.prog 22 #[hv, .agg #[.int .i64 k, .int .i64 n, .string s], .string key] w fun e w' => e = .returned (.tuple #[.agg #[.int .i64 ((H.get ⟨k, n, s⟩ key (runesN (plainS H ⟨k, n, s⟩).s)).1).k, .int .i64 ((H.get ⟨k, n, s⟩ key (runesN (plainS H ⟨k, n, s⟩).s)).1).n, .string ((H.get ⟨k, n, s⟩ key (runesN (plainS H ⟨k, n, s⟩).s)).1).s], .string (H.get ⟨k, n, s⟩ key (runesN (plainS H ⟨k, n, s⟩).s)).2.1, .int .i64 (H.get ⟨k, n, s⟩ key (runesN (plainS H ⟨k, n, s⟩).s)).2.2]) ∧ Up w w' := by
  by_cases hl : (plainS H ⟨k, n, s⟩).k = 4 ∧ (key.toList == lengthS) = true
  · rcases e : plainS H ⟨k, n, s⟩ with ⟨pk, pn, ps⟩
    rw [e] at hl hs
    obtain ⟨h4, hk⟩ := hl
    dsimp only at h4 hs
    subst h4
    refine (Get_len hv H tvs own k n s key w h pn ps e hk hs).mono ?_
    intro e' w' hh
    unfold HM.get
    rw [e]
    simpa [hk, runesN] using hh
  · have := Get_any hv H tvs own k n s key w h (fun h4 => by
      cases hk : (key.toList == lengthS) with
      | false => rfl
      | true => exact absurd ⟨h4, hk⟩ hl)
    refine this.mono ?_
    intro e w' hh
    have he : ∀ r, H.get ⟨k, n, s⟩ key r = H.get ⟨k, n, s⟩ key 0 := fun r => by
      unfold HM.get
      dsimp only
      by_cases h4 : (plainS H ⟨k, n, s⟩).k = 4
      · have hk : (key.toList == lengthS) = false := by
          cases hk : (key.toList == lengthS) with
          | false => rfl
          | true => exact absurd ⟨h4, hk⟩ hl
        simp [hk]
      · simp [h4]
    rw [he]
    exact hh

def noIndexS : ByteArray := ⟨#[84, 121, 112, 101, 69, 114, 114, 111, 114, 58, 32, 105, 110, 100, 101, 120]⟩

set_option maxRecDepth 100000 in
set_option maxHeartbeats 1600000 in
theorem At_throw0 (hv : Value) (H : HM) (tvs : List Value) (own : Own) (k n k2 n2 : Int) (s s2 : ByteArray) (w : World) (h : HRep w hv H tvs own) (pn : Int) (ps : ByteArray) (qk qn : Int) (qs : ByteArray) (hpv : plainS H ⟨k, n, s⟩ = ⟨0, pn, ps⟩) (hpi : plainS H ⟨k2, n2, s2⟩ = ⟨qk, qn, qs⟩) :
    Calls Tryz.prog 28 #[hv, .agg #[.int .i64 k, .int .i64 n, .string s], .agg #[.int .i64 k2, .int .i64 n2, .string s2]] w fun e w' => e = .returned (.tuple #[.agg #[.int .i64 ((⟨0, 0, ⟨#[]⟩⟩ : Val)).k, .int .i64 ((⟨0, 0, ⟨#[]⟩⟩ : Val)).n, .string ((⟨0, 0, ⟨#[]⟩⟩ : Val)).s], .string noMembers, .int .i64 1]) ∧ Up w w' := by
  have hh := Lib.hid h
  have HP := Lib.hid (And.intro hpv hpi)
  clear h hpv hpi
  refine callsIn_wide.1 (callsIn_of_wp_marks (n := 2) Tryz.func28 rfl trivial ?_)
  refine wpIn_wide.2 ?_
  simp only [Tryz.ntmps28, List.size_toArray, List.length_cons, List.length_nil, Nat.reduceAdd, Nat.reduceSub, Array.replicate_succ, Array.replicate_zero, List.push_toArray, List.append_toArray, List.nil_append, List.cons_append]
  go_wp2_with fail
  have hx : AtBoxes w ⟨k, n, s⟩ ⟨k2, n2, s2⟩ (((((w.alloc (.cells #[.int .i64 k, .int .i64 n, .string s] 34)).alloc (.cells #[.int .i64 k2, .int .i64 n2, .string s2] 34)).alloc (.cells #[.int .i64 0, .int .i64 0, .string ⟨#[]⟩] 34)).alloc (.cells #[.string ⟨#[]⟩] 9)).alloc (.cells #[.int .i64 0] 3)) :=
    at_start w _ _
  go_cut [4] from 13 to 18 (fun v4 wx => v4 = .pointer (some ⟨w.heap.size, 0, none⟩) ∧ AtBoxes w ⟨0, pn, ps⟩ ⟨qk, qn, qs⟩ wx)
  case first =>
    refine wp_region_noPanic ?_
    go_region_law (first | (go_simp; go_at_call 35; refine (plain_any hv H tvs own _ _ _ _ (hh.out.up (hx.up.trans uq))).mono ?_; rintro e w' ⟨rfl, hu⟩; simp only [HP.out.1, HP.out.2]; have hx := hx.to (show Up _ w' from Up.trans uq hu); have s0 := hx.v; have a0 := cell_of s0 0; have a1 := cell_of s0 1; have a2 := cell_of s0 2; have f0 := ice_of s0 0; have f1 := ice_of s0 1; have f2 := ice_of s0 2; have a4 := lt_of_heap s0; (try simp only [World.size_alloc, List.getElem?_toArray, List.getElem?_cons_zero, List.getElem?_cons_succ] at a0 a1 a2 f0 f1 f2 a4); clear s0; have s0 := hx.i; have a0 := cell_of s0 0; have a1 := cell_of s0 1; have a2 := cell_of s0 2; have f0 := ice_of s0 0; have f1 := ice_of s0 1; have f2 := ice_of s0 2; have a4 := lt_of_heap s0; (try simp only [World.size_alloc, List.getElem?_toArray, List.getElem?_cons_zero, List.getElem?_cons_succ] at a0 a1 a2 f0 f1 f2 a4); clear s0; have s0 := hx.r0; have a0 := cell_of s0 0; have a1 := cell_of s0 1; have a2 := cell_of s0 2; have f0 := ice_of s0 0; have f1 := ice_of s0 1; have f2 := ice_of s0 2; have a4 := lt_of_heap s0; (try simp only [World.size_alloc, List.getElem?_toArray, List.getElem?_cons_zero, List.getElem?_cons_succ] at a0 a1 a2 f0 f1 f2 a4); clear s0; have s0 := hx.r1; have a0 := cell_of s0 0; have a1 := cell_of s0 1; have a2 := cell_of s0 2; have f0 := ice_of s0 0; have f1 := ice_of s0 1; have f2 := ice_of s0 2; have a4 := lt_of_heap s0; (try simp only [World.size_alloc, List.getElem?_toArray, List.getElem?_cons_zero, List.getElem?_cons_succ] at a0 a1 a2 f0 f1 f2 a4); clear s0; have s0 := hx.r2; have a0 := cell_of s0 0; have a1 := cell_of s0 1; have a2 := cell_of s0 2; have f0 := ice_of s0 0; have f1 := ice_of s0 1; have f2 := ice_of s0 2; have a4 := lt_of_heap s0; (try simp only [World.size_alloc, List.getElem?_toArray, List.getElem?_cons_zero, List.getElem?_cons_succ] at a0 a1 a2 f0 f1 f2 a4); clear s0))
    all_goals refine NoPanic.normal ?_
    all_goals (go_wp2_with fail; go_meet)
    all_goals exact ⟨rfl, hx.stored _ _⟩
  case rest =>
    obtain ⟨rfl, hx⟩ := hcut
    have s0 := hx.v; have a0 := cell_of s0 0; have a1 := cell_of s0 1; have a2 := cell_of s0 2; have f0 := ice_of s0 0; have f1 := ice_of s0 1; have f2 := ice_of s0 2; have a4 := lt_of_heap s0; (try simp only [World.size_alloc, List.getElem?_toArray, List.getElem?_cons_zero, List.getElem?_cons_succ] at a0 a1 a2 f0 f1 f2 a4); clear s0; have s0 := hx.i; have a0 := cell_of s0 0; have a1 := cell_of s0 1; have a2 := cell_of s0 2; have f0 := ice_of s0 0; have f1 := ice_of s0 1; have f2 := ice_of s0 2; have a4 := lt_of_heap s0; (try simp only [World.size_alloc, List.getElem?_toArray, List.getElem?_cons_zero, List.getElem?_cons_succ] at a0 a1 a2 f0 f1 f2 a4); clear s0; have s0 := hx.r0; have a0 := cell_of s0 0; have a1 := cell_of s0 1; have a2 := cell_of s0 2; have f0 := ice_of s0 0; have f1 := ice_of s0 1; have f2 := ice_of s0 2; have a4 := lt_of_heap s0; (try simp only [World.size_alloc, List.getElem?_toArray, List.getElem?_cons_zero, List.getElem?_cons_succ] at a0 a1 a2 f0 f1 f2 a4); clear s0; have s0 := hx.r1; have a0 := cell_of s0 0; have a1 := cell_of s0 1; have a2 := cell_of s0 2; have f0 := ice_of s0 0; have f1 := ice_of s0 1; have f2 := ice_of s0 2; have a4 := lt_of_heap s0; (try simp only [World.size_alloc, List.getElem?_toArray, List.getElem?_cons_zero, List.getElem?_cons_succ] at a0 a1 a2 f0 f1 f2 a4); clear s0; have s0 := hx.r2; have a0 := cell_of s0 0; have a1 := cell_of s0 1; have a2 := cell_of s0 2; have f0 := ice_of s0 0; have f1 := ice_of s0 1; have f2 := ice_of s0 2; have a4 := lt_of_heap s0; (try simp only [World.size_alloc, List.getElem?_toArray, List.getElem?_cons_zero, List.getElem?_cons_succ] at a0 a1 a2 f0 f1 f2 a4); clear s0
    have hup := hx.up
    go_wp2_with fail
    refine ⟨.tuple #[.agg #[.int .i64 ((⟨0, 0, ⟨#[]⟩⟩ : Val)).k, .int .i64 ((⟨0, 0, ⟨#[]⟩⟩ : Val)).n, .string ((⟨0, 0, ⟨#[]⟩⟩ : Val)).s], .string noMembers, .int .i64 1], ?_, rfl, ?_⟩
    · simp [results, Tryz.results28, go_sem, noMembers, noIndexS, *]
    · exact uq

set_option maxRecDepth 100000 in
set_option maxHeartbeats 1600000 in
theorem At_throw1 (hv : Value) (H : HM) (tvs : List Value) (own : Own) (k n k2 n2 : Int) (s s2 : ByteArray) (w : World) (h : HRep w hv H tvs own) (pn : Int) (ps : ByteArray) (qk qn : Int) (qs : ByteArray) (hpv : plainS H ⟨k, n, s⟩ = ⟨1, pn, ps⟩) (hpi : plainS H ⟨k2, n2, s2⟩ = ⟨qk, qn, qs⟩) :
    Calls Tryz.prog 28 #[hv, .agg #[.int .i64 k, .int .i64 n, .string s], .agg #[.int .i64 k2, .int .i64 n2, .string s2]] w fun e w' => e = .returned (.tuple #[.agg #[.int .i64 ((⟨0, 0, ⟨#[]⟩⟩ : Val)).k, .int .i64 ((⟨0, 0, ⟨#[]⟩⟩ : Val)).n, .string ((⟨0, 0, ⟨#[]⟩⟩ : Val)).s], .string noMembers, .int .i64 1]) ∧ Up w w' := by
  have hh := Lib.hid h
  have HP := Lib.hid (And.intro hpv hpi)
  clear h hpv hpi
  refine callsIn_wide.1 (callsIn_of_wp_marks (n := 2) Tryz.func28 rfl trivial ?_)
  refine wpIn_wide.2 ?_
  simp only [Tryz.ntmps28, List.size_toArray, List.length_cons, List.length_nil, Nat.reduceAdd, Nat.reduceSub, Array.replicate_succ, Array.replicate_zero, List.push_toArray, List.append_toArray, List.nil_append, List.cons_append]
  go_wp2_with fail
  have hx : AtBoxes w ⟨k, n, s⟩ ⟨k2, n2, s2⟩ (((((w.alloc (.cells #[.int .i64 k, .int .i64 n, .string s] 34)).alloc (.cells #[.int .i64 k2, .int .i64 n2, .string s2] 34)).alloc (.cells #[.int .i64 0, .int .i64 0, .string ⟨#[]⟩] 34)).alloc (.cells #[.string ⟨#[]⟩] 9)).alloc (.cells #[.int .i64 0] 3)) :=
    at_start w _ _
  go_cut [4] from 13 to 18 (fun v4 wx => v4 = .pointer (some ⟨w.heap.size, 0, none⟩) ∧ AtBoxes w ⟨1, pn, ps⟩ ⟨qk, qn, qs⟩ wx)
  case first =>
    refine wp_region_noPanic ?_
    go_region_law (first | (go_simp; go_at_call 35; refine (plain_any hv H tvs own _ _ _ _ (hh.out.up (hx.up.trans uq))).mono ?_; rintro e w' ⟨rfl, hu⟩; simp only [HP.out.1, HP.out.2]; have hx := hx.to (show Up _ w' from Up.trans uq hu); have s0 := hx.v; have a0 := cell_of s0 0; have a1 := cell_of s0 1; have a2 := cell_of s0 2; have f0 := ice_of s0 0; have f1 := ice_of s0 1; have f2 := ice_of s0 2; have a4 := lt_of_heap s0; (try simp only [World.size_alloc, List.getElem?_toArray, List.getElem?_cons_zero, List.getElem?_cons_succ] at a0 a1 a2 f0 f1 f2 a4); clear s0; have s0 := hx.i; have a0 := cell_of s0 0; have a1 := cell_of s0 1; have a2 := cell_of s0 2; have f0 := ice_of s0 0; have f1 := ice_of s0 1; have f2 := ice_of s0 2; have a4 := lt_of_heap s0; (try simp only [World.size_alloc, List.getElem?_toArray, List.getElem?_cons_zero, List.getElem?_cons_succ] at a0 a1 a2 f0 f1 f2 a4); clear s0; have s0 := hx.r0; have a0 := cell_of s0 0; have a1 := cell_of s0 1; have a2 := cell_of s0 2; have f0 := ice_of s0 0; have f1 := ice_of s0 1; have f2 := ice_of s0 2; have a4 := lt_of_heap s0; (try simp only [World.size_alloc, List.getElem?_toArray, List.getElem?_cons_zero, List.getElem?_cons_succ] at a0 a1 a2 f0 f1 f2 a4); clear s0; have s0 := hx.r1; have a0 := cell_of s0 0; have a1 := cell_of s0 1; have a2 := cell_of s0 2; have f0 := ice_of s0 0; have f1 := ice_of s0 1; have f2 := ice_of s0 2; have a4 := lt_of_heap s0; (try simp only [World.size_alloc, List.getElem?_toArray, List.getElem?_cons_zero, List.getElem?_cons_succ] at a0 a1 a2 f0 f1 f2 a4); clear s0; have s0 := hx.r2; have a0 := cell_of s0 0; have a1 := cell_of s0 1; have a2 := cell_of s0 2; have f0 := ice_of s0 0; have f1 := ice_of s0 1; have f2 := ice_of s0 2; have a4 := lt_of_heap s0; (try simp only [World.size_alloc, List.getElem?_toArray, List.getElem?_cons_zero, List.getElem?_cons_succ] at a0 a1 a2 f0 f1 f2 a4); clear s0))
    all_goals refine NoPanic.normal ?_
    all_goals (go_wp2_with fail; go_meet)
    all_goals exact ⟨rfl, hx.stored _ _⟩
  case rest =>
    obtain ⟨rfl, hx⟩ := hcut
    have s0 := hx.v; have a0 := cell_of s0 0; have a1 := cell_of s0 1; have a2 := cell_of s0 2; have f0 := ice_of s0 0; have f1 := ice_of s0 1; have f2 := ice_of s0 2; have a4 := lt_of_heap s0; (try simp only [World.size_alloc, List.getElem?_toArray, List.getElem?_cons_zero, List.getElem?_cons_succ] at a0 a1 a2 f0 f1 f2 a4); clear s0; have s0 := hx.i; have a0 := cell_of s0 0; have a1 := cell_of s0 1; have a2 := cell_of s0 2; have f0 := ice_of s0 0; have f1 := ice_of s0 1; have f2 := ice_of s0 2; have a4 := lt_of_heap s0; (try simp only [World.size_alloc, List.getElem?_toArray, List.getElem?_cons_zero, List.getElem?_cons_succ] at a0 a1 a2 f0 f1 f2 a4); clear s0; have s0 := hx.r0; have a0 := cell_of s0 0; have a1 := cell_of s0 1; have a2 := cell_of s0 2; have f0 := ice_of s0 0; have f1 := ice_of s0 1; have f2 := ice_of s0 2; have a4 := lt_of_heap s0; (try simp only [World.size_alloc, List.getElem?_toArray, List.getElem?_cons_zero, List.getElem?_cons_succ] at a0 a1 a2 f0 f1 f2 a4); clear s0; have s0 := hx.r1; have a0 := cell_of s0 0; have a1 := cell_of s0 1; have a2 := cell_of s0 2; have f0 := ice_of s0 0; have f1 := ice_of s0 1; have f2 := ice_of s0 2; have a4 := lt_of_heap s0; (try simp only [World.size_alloc, List.getElem?_toArray, List.getElem?_cons_zero, List.getElem?_cons_succ] at a0 a1 a2 f0 f1 f2 a4); clear s0; have s0 := hx.r2; have a0 := cell_of s0 0; have a1 := cell_of s0 1; have a2 := cell_of s0 2; have f0 := ice_of s0 0; have f1 := ice_of s0 1; have f2 := ice_of s0 2; have a4 := lt_of_heap s0; (try simp only [World.size_alloc, List.getElem?_toArray, List.getElem?_cons_zero, List.getElem?_cons_succ] at a0 a1 a2 f0 f1 f2 a4); clear s0
    have hup := hx.up
    go_wp2_with fail
    refine ⟨.tuple #[.agg #[.int .i64 ((⟨0, 0, ⟨#[]⟩⟩ : Val)).k, .int .i64 ((⟨0, 0, ⟨#[]⟩⟩ : Val)).n, .string ((⟨0, 0, ⟨#[]⟩⟩ : Val)).s], .string noMembers, .int .i64 1], ?_, rfl, ?_⟩
    · simp [results, Tryz.results28, go_sem, noMembers, noIndexS, *]
    · exact uq

set_option maxRecDepth 100000 in
set_option maxHeartbeats 1600000 in
theorem At_key (hv : Value) (H : HM) (tvs : List Value) (own : Own) (k n k2 n2 : Int) (s s2 : ByteArray) (w : World) (h : HRep w hv H tvs own) (pk pn : Int) (ps : ByteArray) (qn : Int) (qs : ByteArray) (hk : (pk == 0) = false) (hk1 : (pk == 1) = false) (hsz : (plainS H ⟨pk, pn, ps⟩).s.size ≤ 1000000000) (hpv : plainS H ⟨k, n, s⟩ = ⟨pk, pn, ps⟩) (hpi : plainS H ⟨k2, n2, s2⟩ = ⟨4, qn, qs⟩) :
    Calls Tryz.prog 28 #[hv, .agg #[.int .i64 k, .int .i64 n, .string s], .agg #[.int .i64 k2, .int .i64 n2, .string s2]] w fun e w' => e = .returned (.tuple #[.agg #[.int .i64 ((H.get ⟨pk, pn, ps⟩ qs (runesN (plainS H ⟨pk, pn, ps⟩).s)).1).k, .int .i64 ((H.get ⟨pk, pn, ps⟩ qs (runesN (plainS H ⟨pk, pn, ps⟩).s)).1).n, .string ((H.get ⟨pk, pn, ps⟩ qs (runesN (plainS H ⟨pk, pn, ps⟩).s)).1).s], .string (H.get ⟨pk, pn, ps⟩ qs (runesN (plainS H ⟨pk, pn, ps⟩).s)).2.1, .int .i64 (H.get ⟨pk, pn, ps⟩ qs (runesN (plainS H ⟨pk, pn, ps⟩).s)).2.2]) ∧ Up w w' := by
  obtain ⟨g, hg⟩ : ∃ g, Hid (H.get ⟨pk, pn, ps⟩ qs (runesN (plainS H ⟨pk, pn, ps⟩).s) = g) := ⟨_, rfl⟩
  rw [hg.out]
  have HZ := Lib.hid hsz
  clear hsz
  have hh := Lib.hid h
  have HP := Lib.hid (And.intro hpv hpi)
  clear h hpv hpi
  refine callsIn_wide.1 (callsIn_of_wp_marks (n := 2) Tryz.func28 rfl trivial ?_)
  refine wpIn_wide.2 ?_
  simp only [Tryz.ntmps28, List.size_toArray, List.length_cons, List.length_nil, Nat.reduceAdd, Nat.reduceSub, Array.replicate_succ, Array.replicate_zero, List.push_toArray, List.append_toArray, List.nil_append, List.cons_append]
  go_wp2_with fail
  have hx : AtBoxes w ⟨k, n, s⟩ ⟨k2, n2, s2⟩ (((((w.alloc (.cells #[.int .i64 k, .int .i64 n, .string s] 34)).alloc (.cells #[.int .i64 k2, .int .i64 n2, .string s2] 34)).alloc (.cells #[.int .i64 0, .int .i64 0, .string ⟨#[]⟩] 34)).alloc (.cells #[.string ⟨#[]⟩] 9)).alloc (.cells #[.int .i64 0] 3)) :=
    at_start w _ _
  go_cut [4] from 13 to 18 (fun v4 wx => v4 = .pointer (some ⟨w.heap.size, 0, none⟩) ∧ AtBoxes w ⟨pk, pn, ps⟩ ⟨4, qn, qs⟩ wx)
  case first =>
    refine wp_region_noPanic ?_
    go_region_law (first | (go_simp; go_at_call 35; refine (plain_any hv H tvs own _ _ _ _ (hh.out.up (hx.up.trans uq))).mono ?_; rintro e w' ⟨rfl, hu⟩; simp only [HP.out.1, HP.out.2]; have hx := hx.to (show Up _ w' from Up.trans uq hu); have s0 := hx.v; have a0 := cell_of s0 0; have a1 := cell_of s0 1; have a2 := cell_of s0 2; have f0 := ice_of s0 0; have f1 := ice_of s0 1; have f2 := ice_of s0 2; have a4 := lt_of_heap s0; (try simp only [World.size_alloc, List.getElem?_toArray, List.getElem?_cons_zero, List.getElem?_cons_succ] at a0 a1 a2 f0 f1 f2 a4); clear s0; have s0 := hx.i; have a0 := cell_of s0 0; have a1 := cell_of s0 1; have a2 := cell_of s0 2; have f0 := ice_of s0 0; have f1 := ice_of s0 1; have f2 := ice_of s0 2; have a4 := lt_of_heap s0; (try simp only [World.size_alloc, List.getElem?_toArray, List.getElem?_cons_zero, List.getElem?_cons_succ] at a0 a1 a2 f0 f1 f2 a4); clear s0; have s0 := hx.r0; have a0 := cell_of s0 0; have a1 := cell_of s0 1; have a2 := cell_of s0 2; have f0 := ice_of s0 0; have f1 := ice_of s0 1; have f2 := ice_of s0 2; have a4 := lt_of_heap s0; (try simp only [World.size_alloc, List.getElem?_toArray, List.getElem?_cons_zero, List.getElem?_cons_succ] at a0 a1 a2 f0 f1 f2 a4); clear s0; have s0 := hx.r1; have a0 := cell_of s0 0; have a1 := cell_of s0 1; have a2 := cell_of s0 2; have f0 := ice_of s0 0; have f1 := ice_of s0 1; have f2 := ice_of s0 2; have a4 := lt_of_heap s0; (try simp only [World.size_alloc, List.getElem?_toArray, List.getElem?_cons_zero, List.getElem?_cons_succ] at a0 a1 a2 f0 f1 f2 a4); clear s0; have s0 := hx.r2; have a0 := cell_of s0 0; have a1 := cell_of s0 1; have a2 := cell_of s0 2; have f0 := ice_of s0 0; have f1 := ice_of s0 1; have f2 := ice_of s0 2; have a4 := lt_of_heap s0; (try simp only [World.size_alloc, List.getElem?_toArray, List.getElem?_cons_zero, List.getElem?_cons_succ] at a0 a1 a2 f0 f1 f2 a4); clear s0))
    all_goals refine NoPanic.normal ?_
    all_goals (go_wp2_with fail; go_meet)
    all_goals exact ⟨rfl, hx.stored _ _⟩
  case rest =>
    obtain ⟨rfl, hx⟩ := hcut
    have s0 := hx.v; have a0 := cell_of s0 0; have a1 := cell_of s0 1; have a2 := cell_of s0 2; have f0 := ice_of s0 0; have f1 := ice_of s0 1; have f2 := ice_of s0 2; have a4 := lt_of_heap s0; (try simp only [World.size_alloc, List.getElem?_toArray, List.getElem?_cons_zero, List.getElem?_cons_succ] at a0 a1 a2 f0 f1 f2 a4); clear s0; have s0 := hx.i; have a0 := cell_of s0 0; have a1 := cell_of s0 1; have a2 := cell_of s0 2; have f0 := ice_of s0 0; have f1 := ice_of s0 1; have f2 := ice_of s0 2; have a4 := lt_of_heap s0; (try simp only [World.size_alloc, List.getElem?_toArray, List.getElem?_cons_zero, List.getElem?_cons_succ] at a0 a1 a2 f0 f1 f2 a4); clear s0; have s0 := hx.r0; have a0 := cell_of s0 0; have a1 := cell_of s0 1; have a2 := cell_of s0 2; have f0 := ice_of s0 0; have f1 := ice_of s0 1; have f2 := ice_of s0 2; have a4 := lt_of_heap s0; (try simp only [World.size_alloc, List.getElem?_toArray, List.getElem?_cons_zero, List.getElem?_cons_succ] at a0 a1 a2 f0 f1 f2 a4); clear s0; have s0 := hx.r1; have a0 := cell_of s0 0; have a1 := cell_of s0 1; have a2 := cell_of s0 2; have f0 := ice_of s0 0; have f1 := ice_of s0 1; have f2 := ice_of s0 2; have a4 := lt_of_heap s0; (try simp only [World.size_alloc, List.getElem?_toArray, List.getElem?_cons_zero, List.getElem?_cons_succ] at a0 a1 a2 f0 f1 f2 a4); clear s0; have s0 := hx.r2; have a0 := cell_of s0 0; have a1 := cell_of s0 1; have a2 := cell_of s0 2; have f0 := ice_of s0 0; have f1 := ice_of s0 1; have f2 := ice_of s0 2; have a4 := lt_of_heap s0; (try simp only [World.size_alloc, List.getElem?_toArray, List.getElem?_cons_zero, List.getElem?_cons_succ] at a0 a1 a2 f0 f1 f2 a4); clear s0
    have hup := hx.up
    go_wp2_with (first | (go_at_call 22; refine (Get_full hv H tvs own _ _ _ _ _ (hh.out.up (hx.up.trans uq)) HZ.out).mono ?_; rintro e w2 ⟨rfl, hu⟩; rw [hg.out]; have hx := hx.to (show Up _ w2 from Up.trans uq hu); have hup := hx.up; have s0 := hx.v; have a0 := cell_of s0 0; have a1 := cell_of s0 1; have a2 := cell_of s0 2; have f0 := ice_of s0 0; have f1 := ice_of s0 1; have f2 := ice_of s0 2; have a4 := lt_of_heap s0; (try simp only [World.size_alloc, List.getElem?_toArray, List.getElem?_cons_zero, List.getElem?_cons_succ] at a0 a1 a2 f0 f1 f2 a4); clear s0; have s0 := hx.i; have a0 := cell_of s0 0; have a1 := cell_of s0 1; have a2 := cell_of s0 2; have f0 := ice_of s0 0; have f1 := ice_of s0 1; have f2 := ice_of s0 2; have a4 := lt_of_heap s0; (try simp only [World.size_alloc, List.getElem?_toArray, List.getElem?_cons_zero, List.getElem?_cons_succ] at a0 a1 a2 f0 f1 f2 a4); clear s0; have s0 := hx.r0; have a0 := cell_of s0 0; have a1 := cell_of s0 1; have a2 := cell_of s0 2; have f0 := ice_of s0 0; have f1 := ice_of s0 1; have f2 := ice_of s0 2; have a4 := lt_of_heap s0; (try simp only [World.size_alloc, List.getElem?_toArray, List.getElem?_cons_zero, List.getElem?_cons_succ] at a0 a1 a2 f0 f1 f2 a4); clear s0; have s0 := hx.r1; have a0 := cell_of s0 0; have a1 := cell_of s0 1; have a2 := cell_of s0 2; have f0 := ice_of s0 0; have f1 := ice_of s0 1; have f2 := ice_of s0 2; have a4 := lt_of_heap s0; (try simp only [World.size_alloc, List.getElem?_toArray, List.getElem?_cons_zero, List.getElem?_cons_succ] at a0 a1 a2 f0 f1 f2 a4); clear s0; have s0 := hx.r2; have a0 := cell_of s0 0; have a1 := cell_of s0 1; have a2 := cell_of s0 2; have f0 := ice_of s0 0; have f1 := ice_of s0 1; have f2 := ice_of s0 2; have a4 := lt_of_heap s0; (try simp only [World.size_alloc, List.getElem?_toArray, List.getElem?_cons_zero, List.getElem?_cons_succ] at a0 a1 a2 f0 f1 f2 a4); clear s0))
    refine ⟨.tuple #[.agg #[.int .i64 (g.1).k, .int .i64 (g.1).n, .string (g.1).s], .string g.2.1, .int .i64 g.2.2], ?_, rfl, ?_⟩
    · simp [results, Tryz.results28, go_sem, noMembers, noIndexS, *]
    · exact uq

set_option maxRecDepth 100000 in
set_option maxHeartbeats 1600000 in
theorem At_index (hv : Value) (H : HM) (tvs : List Value) (own : Own) (k n k2 n2 : Int) (s s2 : ByteArray) (w : World) (h : HRep w hv H tvs own) (pk pn : Int) (ps : ByteArray) (qk qn : Int) (qs : ByteArray) (hk : (pk == 0) = false) (hk1 : (pk == 1) = false) (h4 : (qk == 4) = false) (h3 : (qk != 3) = true) (hpv : plainS H ⟨k, n, s⟩ = ⟨pk, pn, ps⟩) (hpi : plainS H ⟨k2, n2, s2⟩ = ⟨qk, qn, qs⟩) :
    Calls Tryz.prog 28 #[hv, .agg #[.int .i64 k, .int .i64 n, .string s], .agg #[.int .i64 k2, .int .i64 n2, .string s2]] w fun e w' => e = .returned (.tuple #[.agg #[.int .i64 ((⟨0, 0, ⟨#[]⟩⟩ : Val)).k, .int .i64 ((⟨0, 0, ⟨#[]⟩⟩ : Val)).n, .string ((⟨0, 0, ⟨#[]⟩⟩ : Val)).s], .string noIndexS, .int .i64 1]) ∧ Up w w' := by
  have hh := Lib.hid h
  have HP := Lib.hid (And.intro hpv hpi)
  clear h hpv hpi
  refine callsIn_wide.1 (callsIn_of_wp_marks (n := 2) Tryz.func28 rfl trivial ?_)
  refine wpIn_wide.2 ?_
  simp only [Tryz.ntmps28, List.size_toArray, List.length_cons, List.length_nil, Nat.reduceAdd, Nat.reduceSub, Array.replicate_succ, Array.replicate_zero, List.push_toArray, List.append_toArray, List.nil_append, List.cons_append]
  go_wp2_with fail
  have hx : AtBoxes w ⟨k, n, s⟩ ⟨k2, n2, s2⟩ (((((w.alloc (.cells #[.int .i64 k, .int .i64 n, .string s] 34)).alloc (.cells #[.int .i64 k2, .int .i64 n2, .string s2] 34)).alloc (.cells #[.int .i64 0, .int .i64 0, .string ⟨#[]⟩] 34)).alloc (.cells #[.string ⟨#[]⟩] 9)).alloc (.cells #[.int .i64 0] 3)) :=
    at_start w _ _
  go_cut [4] from 13 to 18 (fun v4 wx => v4 = .pointer (some ⟨w.heap.size, 0, none⟩) ∧ AtBoxes w ⟨pk, pn, ps⟩ ⟨qk, qn, qs⟩ wx)
  case first =>
    refine wp_region_noPanic ?_
    go_region_law (first | (go_simp; go_at_call 35; refine (plain_any hv H tvs own _ _ _ _ (hh.out.up (hx.up.trans uq))).mono ?_; rintro e w' ⟨rfl, hu⟩; simp only [HP.out.1, HP.out.2]; have hx := hx.to (show Up _ w' from Up.trans uq hu); have s0 := hx.v; have a0 := cell_of s0 0; have a1 := cell_of s0 1; have a2 := cell_of s0 2; have f0 := ice_of s0 0; have f1 := ice_of s0 1; have f2 := ice_of s0 2; have a4 := lt_of_heap s0; (try simp only [World.size_alloc, List.getElem?_toArray, List.getElem?_cons_zero, List.getElem?_cons_succ] at a0 a1 a2 f0 f1 f2 a4); clear s0; have s0 := hx.i; have a0 := cell_of s0 0; have a1 := cell_of s0 1; have a2 := cell_of s0 2; have f0 := ice_of s0 0; have f1 := ice_of s0 1; have f2 := ice_of s0 2; have a4 := lt_of_heap s0; (try simp only [World.size_alloc, List.getElem?_toArray, List.getElem?_cons_zero, List.getElem?_cons_succ] at a0 a1 a2 f0 f1 f2 a4); clear s0; have s0 := hx.r0; have a0 := cell_of s0 0; have a1 := cell_of s0 1; have a2 := cell_of s0 2; have f0 := ice_of s0 0; have f1 := ice_of s0 1; have f2 := ice_of s0 2; have a4 := lt_of_heap s0; (try simp only [World.size_alloc, List.getElem?_toArray, List.getElem?_cons_zero, List.getElem?_cons_succ] at a0 a1 a2 f0 f1 f2 a4); clear s0; have s0 := hx.r1; have a0 := cell_of s0 0; have a1 := cell_of s0 1; have a2 := cell_of s0 2; have f0 := ice_of s0 0; have f1 := ice_of s0 1; have f2 := ice_of s0 2; have a4 := lt_of_heap s0; (try simp only [World.size_alloc, List.getElem?_toArray, List.getElem?_cons_zero, List.getElem?_cons_succ] at a0 a1 a2 f0 f1 f2 a4); clear s0; have s0 := hx.r2; have a0 := cell_of s0 0; have a1 := cell_of s0 1; have a2 := cell_of s0 2; have f0 := ice_of s0 0; have f1 := ice_of s0 1; have f2 := ice_of s0 2; have a4 := lt_of_heap s0; (try simp only [World.size_alloc, List.getElem?_toArray, List.getElem?_cons_zero, List.getElem?_cons_succ] at a0 a1 a2 f0 f1 f2 a4); clear s0))
    all_goals refine NoPanic.normal ?_
    all_goals (go_wp2_with fail; go_meet)
    all_goals exact ⟨rfl, hx.stored _ _⟩
  case rest =>
    obtain ⟨rfl, hx⟩ := hcut
    have s0 := hx.v; have a0 := cell_of s0 0; have a1 := cell_of s0 1; have a2 := cell_of s0 2; have f0 := ice_of s0 0; have f1 := ice_of s0 1; have f2 := ice_of s0 2; have a4 := lt_of_heap s0; (try simp only [World.size_alloc, List.getElem?_toArray, List.getElem?_cons_zero, List.getElem?_cons_succ] at a0 a1 a2 f0 f1 f2 a4); clear s0; have s0 := hx.i; have a0 := cell_of s0 0; have a1 := cell_of s0 1; have a2 := cell_of s0 2; have f0 := ice_of s0 0; have f1 := ice_of s0 1; have f2 := ice_of s0 2; have a4 := lt_of_heap s0; (try simp only [World.size_alloc, List.getElem?_toArray, List.getElem?_cons_zero, List.getElem?_cons_succ] at a0 a1 a2 f0 f1 f2 a4); clear s0; have s0 := hx.r0; have a0 := cell_of s0 0; have a1 := cell_of s0 1; have a2 := cell_of s0 2; have f0 := ice_of s0 0; have f1 := ice_of s0 1; have f2 := ice_of s0 2; have a4 := lt_of_heap s0; (try simp only [World.size_alloc, List.getElem?_toArray, List.getElem?_cons_zero, List.getElem?_cons_succ] at a0 a1 a2 f0 f1 f2 a4); clear s0; have s0 := hx.r1; have a0 := cell_of s0 0; have a1 := cell_of s0 1; have a2 := cell_of s0 2; have f0 := ice_of s0 0; have f1 := ice_of s0 1; have f2 := ice_of s0 2; have a4 := lt_of_heap s0; (try simp only [World.size_alloc, List.getElem?_toArray, List.getElem?_cons_zero, List.getElem?_cons_succ] at a0 a1 a2 f0 f1 f2 a4); clear s0; have s0 := hx.r2; have a0 := cell_of s0 0; have a1 := cell_of s0 1; have a2 := cell_of s0 2; have f0 := ice_of s0 0; have f1 := ice_of s0 1; have f2 := ice_of s0 2; have a4 := lt_of_heap s0; (try simp only [World.size_alloc, List.getElem?_toArray, List.getElem?_cons_zero, List.getElem?_cons_succ] at a0 a1 a2 f0 f1 f2 a4); clear s0
    have hup := hx.up
    go_wp2_with fail
    refine ⟨.tuple #[.agg #[.int .i64 ((⟨0, 0, ⟨#[]⟩⟩ : Val)).k, .int .i64 ((⟨0, 0, ⟨#[]⟩⟩ : Val)).n, .string ((⟨0, 0, ⟨#[]⟩⟩ : Val)).s], .string noIndexS, .int .i64 1], ?_, rfl, ?_⟩
    · simp [results, Tryz.results28, go_sem, noMembers, noIndexS, *]
    · exact uq

set_option maxRecDepth 100000 in
set_option maxHeartbeats 1600000 in
theorem At_none (hv : Value) (H : HM) (tvs : List Value) (own : Own) (k n k2 n2 : Int) (s s2 : ByteArray) (w : World) (h : HRep w hv H tvs own) (pk pn : Int) (ps : ByteArray) (qn : Int) (qs : ByteArray) (hk : (pk == 0) = false) (hk1 : (pk == 1) = false) (hk4 : (pk == 4) = false) (ha : arrOf H tvs pk pn = .pointer none) (hpv : plainS H ⟨k, n, s⟩ = ⟨pk, pn, ps⟩) (hpi : plainS H ⟨k2, n2, s2⟩ = ⟨3, qn, qs⟩) :
    Calls Tryz.prog 28 #[hv, .agg #[.int .i64 k, .int .i64 n, .string s], .agg #[.int .i64 k2, .int .i64 n2, .string s2]] w fun e w' => e = .returned (.tuple #[.agg #[.int .i64 ((⟨0, 0, ⟨#[]⟩⟩ : Val)).k, .int .i64 ((⟨0, 0, ⟨#[]⟩⟩ : Val)).n, .string ((⟨0, 0, ⟨#[]⟩⟩ : Val)).s], .string ⟨#[]⟩, .int .i64 0]) ∧ Up w w' := by
  have HA := Lib.hid ha
  clear ha
  have hh := Lib.hid h
  have HP := Lib.hid (And.intro hpv hpi)
  clear h hpv hpi
  refine callsIn_wide.1 (callsIn_of_wp_marks (n := 2) Tryz.func28 rfl trivial ?_)
  refine wpIn_wide.2 ?_
  simp only [Tryz.ntmps28, List.size_toArray, List.length_cons, List.length_nil, Nat.reduceAdd, Nat.reduceSub, Array.replicate_succ, Array.replicate_zero, List.push_toArray, List.append_toArray, List.nil_append, List.cons_append]
  go_wp2_with fail
  have hx : AtBoxes w ⟨k, n, s⟩ ⟨k2, n2, s2⟩ (((((w.alloc (.cells #[.int .i64 k, .int .i64 n, .string s] 34)).alloc (.cells #[.int .i64 k2, .int .i64 n2, .string s2] 34)).alloc (.cells #[.int .i64 0, .int .i64 0, .string ⟨#[]⟩] 34)).alloc (.cells #[.string ⟨#[]⟩] 9)).alloc (.cells #[.int .i64 0] 3)) :=
    at_start w _ _
  go_cut [4] from 13 to 18 (fun v4 wx => v4 = .pointer (some ⟨w.heap.size, 0, none⟩) ∧ AtBoxes w ⟨pk, pn, ps⟩ ⟨3, qn, qs⟩ wx)
  case first =>
    refine wp_region_noPanic ?_
    go_region_law (first | (go_simp; go_at_call 35; refine (plain_any hv H tvs own _ _ _ _ (hh.out.up (hx.up.trans uq))).mono ?_; rintro e w' ⟨rfl, hu⟩; simp only [HP.out.1, HP.out.2]; have hx := hx.to (show Up _ w' from Up.trans uq hu); have s0 := hx.v; have a0 := cell_of s0 0; have a1 := cell_of s0 1; have a2 := cell_of s0 2; have f0 := ice_of s0 0; have f1 := ice_of s0 1; have f2 := ice_of s0 2; have a4 := lt_of_heap s0; (try simp only [World.size_alloc, List.getElem?_toArray, List.getElem?_cons_zero, List.getElem?_cons_succ] at a0 a1 a2 f0 f1 f2 a4); clear s0; have s0 := hx.i; have a0 := cell_of s0 0; have a1 := cell_of s0 1; have a2 := cell_of s0 2; have f0 := ice_of s0 0; have f1 := ice_of s0 1; have f2 := ice_of s0 2; have a4 := lt_of_heap s0; (try simp only [World.size_alloc, List.getElem?_toArray, List.getElem?_cons_zero, List.getElem?_cons_succ] at a0 a1 a2 f0 f1 f2 a4); clear s0; have s0 := hx.r0; have a0 := cell_of s0 0; have a1 := cell_of s0 1; have a2 := cell_of s0 2; have f0 := ice_of s0 0; have f1 := ice_of s0 1; have f2 := ice_of s0 2; have a4 := lt_of_heap s0; (try simp only [World.size_alloc, List.getElem?_toArray, List.getElem?_cons_zero, List.getElem?_cons_succ] at a0 a1 a2 f0 f1 f2 a4); clear s0; have s0 := hx.r1; have a0 := cell_of s0 0; have a1 := cell_of s0 1; have a2 := cell_of s0 2; have f0 := ice_of s0 0; have f1 := ice_of s0 1; have f2 := ice_of s0 2; have a4 := lt_of_heap s0; (try simp only [World.size_alloc, List.getElem?_toArray, List.getElem?_cons_zero, List.getElem?_cons_succ] at a0 a1 a2 f0 f1 f2 a4); clear s0; have s0 := hx.r2; have a0 := cell_of s0 0; have a1 := cell_of s0 1; have a2 := cell_of s0 2; have f0 := ice_of s0 0; have f1 := ice_of s0 1; have f2 := ice_of s0 2; have a4 := lt_of_heap s0; (try simp only [World.size_alloc, List.getElem?_toArray, List.getElem?_cons_zero, List.getElem?_cons_succ] at a0 a1 a2 f0 f1 f2 a4); clear s0))
    all_goals refine NoPanic.normal ?_
    all_goals (go_wp2_with fail; go_meet)
    all_goals exact ⟨rfl, hx.stored _ _⟩
  case rest =>
    obtain ⟨rfl, hx⟩ := hcut
    have s0 := hx.v; have a0 := cell_of s0 0; have a1 := cell_of s0 1; have a2 := cell_of s0 2; have f0 := ice_of s0 0; have f1 := ice_of s0 1; have f2 := ice_of s0 2; have a4 := lt_of_heap s0; (try simp only [World.size_alloc, List.getElem?_toArray, List.getElem?_cons_zero, List.getElem?_cons_succ] at a0 a1 a2 f0 f1 f2 a4); clear s0; have s0 := hx.i; have a0 := cell_of s0 0; have a1 := cell_of s0 1; have a2 := cell_of s0 2; have f0 := ice_of s0 0; have f1 := ice_of s0 1; have f2 := ice_of s0 2; have a4 := lt_of_heap s0; (try simp only [World.size_alloc, List.getElem?_toArray, List.getElem?_cons_zero, List.getElem?_cons_succ] at a0 a1 a2 f0 f1 f2 a4); clear s0; have s0 := hx.r0; have a0 := cell_of s0 0; have a1 := cell_of s0 1; have a2 := cell_of s0 2; have f0 := ice_of s0 0; have f1 := ice_of s0 1; have f2 := ice_of s0 2; have a4 := lt_of_heap s0; (try simp only [World.size_alloc, List.getElem?_toArray, List.getElem?_cons_zero, List.getElem?_cons_succ] at a0 a1 a2 f0 f1 f2 a4); clear s0; have s0 := hx.r1; have a0 := cell_of s0 0; have a1 := cell_of s0 1; have a2 := cell_of s0 2; have f0 := ice_of s0 0; have f1 := ice_of s0 1; have f2 := ice_of s0 2; have a4 := lt_of_heap s0; (try simp only [World.size_alloc, List.getElem?_toArray, List.getElem?_cons_zero, List.getElem?_cons_succ] at a0 a1 a2 f0 f1 f2 a4); clear s0; have s0 := hx.r2; have a0 := cell_of s0 0; have a1 := cell_of s0 1; have a2 := cell_of s0 2; have f0 := ice_of s0 0; have f1 := ice_of s0 1; have f2 := ice_of s0 2; have a4 := lt_of_heap s0; (try simp only [World.size_alloc, List.getElem?_toArray, List.getElem?_cons_zero, List.getElem?_cons_succ] at a0 a1 a2 f0 f1 f2 a4); clear s0
    have hup := hx.up
    go_wp2_with (first | (go_at_call 42; refine (array_any hv H tvs own _ _ _ _ (hh.out.up (hx.up.trans uq))).mono ?_; rintro e w2 ⟨rfl, hu⟩; rw [HA.out]; have hx := hx.to (show Up _ w2 from Up.trans uq hu); have hup := hx.up; have s0 := hx.v; have a0 := cell_of s0 0; have a1 := cell_of s0 1; have a2 := cell_of s0 2; have f0 := ice_of s0 0; have f1 := ice_of s0 1; have f2 := ice_of s0 2; have a4 := lt_of_heap s0; (try simp only [World.size_alloc, List.getElem?_toArray, List.getElem?_cons_zero, List.getElem?_cons_succ] at a0 a1 a2 f0 f1 f2 a4); clear s0; have s0 := hx.i; have a0 := cell_of s0 0; have a1 := cell_of s0 1; have a2 := cell_of s0 2; have f0 := ice_of s0 0; have f1 := ice_of s0 1; have f2 := ice_of s0 2; have a4 := lt_of_heap s0; (try simp only [World.size_alloc, List.getElem?_toArray, List.getElem?_cons_zero, List.getElem?_cons_succ] at a0 a1 a2 f0 f1 f2 a4); clear s0; have s0 := hx.r0; have a0 := cell_of s0 0; have a1 := cell_of s0 1; have a2 := cell_of s0 2; have f0 := ice_of s0 0; have f1 := ice_of s0 1; have f2 := ice_of s0 2; have a4 := lt_of_heap s0; (try simp only [World.size_alloc, List.getElem?_toArray, List.getElem?_cons_zero, List.getElem?_cons_succ] at a0 a1 a2 f0 f1 f2 a4); clear s0; have s0 := hx.r1; have a0 := cell_of s0 0; have a1 := cell_of s0 1; have a2 := cell_of s0 2; have f0 := ice_of s0 0; have f1 := ice_of s0 1; have f2 := ice_of s0 2; have a4 := lt_of_heap s0; (try simp only [World.size_alloc, List.getElem?_toArray, List.getElem?_cons_zero, List.getElem?_cons_succ] at a0 a1 a2 f0 f1 f2 a4); clear s0; have s0 := hx.r2; have a0 := cell_of s0 0; have a1 := cell_of s0 1; have a2 := cell_of s0 2; have f0 := ice_of s0 0; have f1 := ice_of s0 1; have f2 := ice_of s0 2; have a4 := lt_of_heap s0; (try simp only [World.size_alloc, List.getElem?_toArray, List.getElem?_cons_zero, List.getElem?_cons_succ] at a0 a1 a2 f0 f1 f2 a4); clear s0))
    go_quiet (fail)
    go_wp2_with fail
    refine ⟨.tuple #[.agg #[.int .i64 ((⟨0, 0, ⟨#[]⟩⟩ : Val)).k, .int .i64 ((⟨0, 0, ⟨#[]⟩⟩ : Val)).n, .string ((⟨0, 0, ⟨#[]⟩⟩ : Val)).s], .string ⟨#[]⟩, .int .i64 0], ?_, rfl, ?_⟩
    · simp [results, Tryz.results28, go_sem, noMembers, noIndexS, *]
    · exact uq

end Go.Proofs.YtmbipadiaggolaaGreatDoor
