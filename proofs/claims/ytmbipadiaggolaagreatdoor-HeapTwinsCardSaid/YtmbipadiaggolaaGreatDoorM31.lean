import Derived.Test.YtmbipadiaggolaaGreatDoorM30
import Derived.Test.YtmbipadiaggolaaGreatDoorM14
import Derived.Test.YtmbipadiaggolaaGreatDoorM19
/- YtmbipadiaggolaaGreatDoorM31: lemmas of the proof, in order: FullD, ShowF. -/
/- The program's At and Put as a whole. -/
namespace Go.Proofs.YtmbipadiaggolaaGreatDoor
open Go.RowKit
set_option linter.unusedSimpArgs false

section
attribute [local go_sem] Oper.semAt_some ta_aa ta_ao ta_an ta_oa ta_oo ta_on m_kind_a m_kind_o m_behind_a m_behind_o m_own_a m_own_o valV
set_option maxRecDepth 100000 in
set_option maxHeartbeats 4000000 in
theorem At_arr (hv : Value) (H : HM) (tvs : List Value) (own : Own) (k n k2 n2 m : Int) (s s2 ps qs : ByteArray) (N : Nat) (w : World) (h : HRep w hv H tvs own) (b : Nat) (vals : List Val) (htv : tvs[N]? = some (.iface 86 (.pointer (some ⟨b, 0, none⟩)))) (ht : H.things[N]? = some ⟨2, -1, [], vals⟩) (hpn : plainS H ⟨k, n, s⟩ = ⟨5, N, ps⟩) (hpm : plainS H ⟨k2, n2, s2⟩ = ⟨3, m, qs⟩) (ha : arrOf H tvs 5 N = .pointer (some ⟨b, 0, none⟩)) :
    Calls Tryz.prog 28 #[hv, .agg #[.int .i64 k, .int .i64 n, .string s], .agg #[.int .i64 k2, .int .i64 n2, .string s2]] w fun e w' => e = .returned (.tuple #[.agg #[.int .i64 (atVal vals m).k, .int .i64 (atVal vals m).n, .string (atVal vals m).s], .string ⟨#[]⟩, .int .i64 0]) ∧ Up w w' := by
  obtain ⟨sa, cap, hbc, hrow⟩ : ∃ sa cap, w.heap[b]? = some (.cells #[.slice sa vals.length cap] 89 (0, 0)) ∧ Row w own (N + 1, 1) 34 3 (.slice sa vals.length cap) vals.length (vals.flatMap Val.cells) := by
    have hti := things_at h ht htv
    cases hti with
    | arr _ _ av hb' hc' hr' =>
      obtain ⟨sa, cap, rfl, _⟩ := ThingIs.arrow hr'
      exact ⟨sa, cap, hc', hr'⟩
  have hlen : vals.length ≤ 1048576 := by
    cases h with
    | nil => simp at ht
    | some hb _ _ _ h => have q1 := sizes_at _ _ _ ht; have q2 := h.few; have q3 := h.roomU; have q4 := h.roomM; simp only [Thing.size] at q1; omega
  have HB := Lib.hid (And.intro hbc hrow)
  have hbl := lt_of_heap hbc
  have hh := Lib.hid h
  have HA := Lib.hid ha
  have HP := Lib.hid (And.intro hpn hpm)
  clear h ha htv hpn hpm hbc hrow ht
  refine callsIn_wide.1 (callsIn_of_wp_marks (n := 2) Tryz.func28 rfl trivial ?_)
  refine wpIn_wide.2 ?_
  simp only [Tryz.ntmps28, List.size_toArray, List.length_cons, List.length_nil, Nat.reduceAdd, Nat.reduceSub, Array.replicate_succ, Array.replicate_zero, List.push_toArray, List.append_toArray, List.nil_append, List.cons_append]
  go_wp2_with fail
  have hx : AtBoxes w ⟨k, n, s⟩ ⟨k2, n2, s2⟩ (((((w.alloc (.cells #[.int .i64 k, .int .i64 n, .string s] 34)).alloc (.cells #[.int .i64 k2, .int .i64 n2, .string s2] 34)).alloc (.cells #[.int .i64 0, .int .i64 0, .string ⟨#[]⟩] 34)).alloc (.cells #[.string ⟨#[]⟩] 9)).alloc (.cells #[.int .i64 0] 3)) :=
    at_start w _ _
  go_cut [4] from 13 to 18 (fun v4 wx => v4 = .pointer (some ⟨w.heap.size, 0, none⟩) ∧ AtBoxes w ⟨5, N, ps⟩ ⟨3, m, qs⟩ wx)
  case first =>
    refine wp_region_noPanic ?_
    go_region_law (first | (go_simp; go_at_call 35; refine (plain_any hv H tvs own _ _ _ _ (hh.out.up (hx.up.trans uq))).mono ?_; rintro e w' ⟨rfl, hu⟩; simp only [HP.out.1, HP.out.2]; have hx := hx.to (show Up _ w' from Up.trans uq hu); have s0 := hx.v; have a0 := cell_of s0 0; have a1 := cell_of s0 1; have a2 := cell_of s0 2; have f0 := ice_of s0 0; have f1 := ice_of s0 1; have f2 := ice_of s0 2; have a4 := lt_of_heap s0; (try simp only [World.size_alloc, List.getElem?_toArray, List.getElem?_cons_zero, List.getElem?_cons_succ] at a0 a1 a2 f0 f1 f2 a4); clear s0; have s0 := hx.i; have a0 := cell_of s0 0; have a1 := cell_of s0 1; have a2 := cell_of s0 2; have f0 := ice_of s0 0; have f1 := ice_of s0 1; have f2 := ice_of s0 2; have a4 := lt_of_heap s0; (try simp only [World.size_alloc, List.getElem?_toArray, List.getElem?_cons_zero, List.getElem?_cons_succ] at a0 a1 a2 f0 f1 f2 a4); clear s0; have s0 := hx.r0; have a0 := cell_of s0 0; have a1 := cell_of s0 1; have a2 := cell_of s0 2; have f0 := ice_of s0 0; have f1 := ice_of s0 1; have f2 := ice_of s0 2; have a4 := lt_of_heap s0; (try simp only [World.size_alloc, List.getElem?_toArray, List.getElem?_cons_zero, List.getElem?_cons_succ] at a0 a1 a2 f0 f1 f2 a4); clear s0; have s0 := hx.r1; have a0 := cell_of s0 0; have a1 := cell_of s0 1; have a2 := cell_of s0 2; have f0 := ice_of s0 0; have f1 := ice_of s0 1; have f2 := ice_of s0 2; have a4 := lt_of_heap s0; (try simp only [World.size_alloc, List.getElem?_toArray, List.getElem?_cons_zero, List.getElem?_cons_succ] at a0 a1 a2 f0 f1 f2 a4); clear s0; have s0 := hx.r2; have a0 := cell_of s0 0; have a1 := cell_of s0 1; have a2 := cell_of s0 2; have f0 := ice_of s0 0; have f1 := ice_of s0 1; have f2 := ice_of s0 2; have a4 := lt_of_heap s0; (try simp only [World.size_alloc, List.getElem?_toArray, List.getElem?_cons_zero, List.getElem?_cons_succ] at a0 a1 a2 f0 f1 f2 a4); clear s0))
    all_goals refine NoPanic.normal ?_
    all_goals (go_wp2_with fail; go_meet)
    all_goals exact ⟨rfl, hx.stored _ _⟩
  case rest =>
    obtain ⟨rfl, hx⟩ := hcut
    have s0 := hx.v; have a0 := cell_of s0 0; have a1 := cell_of s0 1; have a2 := cell_of s0 2; have f0 := ice_of s0 0; have f1 := ice_of s0 1; have f2 := ice_of s0 2; have a4 := lt_of_heap s0; (try simp only [World.size_alloc, List.getElem?_toArray, List.getElem?_cons_zero, List.getElem?_cons_succ] at a0 a1 a2 f0 f1 f2 a4); clear s0; have s0 := hx.i; have a0 := cell_of s0 0; have a1 := cell_of s0 1; have a2 := cell_of s0 2; have f0 := ice_of s0 0; have f1 := ice_of s0 1; have f2 := ice_of s0 2; have a4 := lt_of_heap s0; (try simp only [World.size_alloc, List.getElem?_toArray, List.getElem?_cons_zero, List.getElem?_cons_succ] at a0 a1 a2 f0 f1 f2 a4); clear s0; have s0 := hx.r0; have a0 := cell_of s0 0; have a1 := cell_of s0 1; have a2 := cell_of s0 2; have f0 := ice_of s0 0; have f1 := ice_of s0 1; have f2 := ice_of s0 2; have a4 := lt_of_heap s0; (try simp only [World.size_alloc, List.getElem?_toArray, List.getElem?_cons_zero, List.getElem?_cons_succ] at a0 a1 a2 f0 f1 f2 a4); clear s0; have s0 := hx.r1; have a0 := cell_of s0 0; have a1 := cell_of s0 1; have a2 := cell_of s0 2; have f0 := ice_of s0 0; have f1 := ice_of s0 1; have f2 := ice_of s0 2; have a4 := lt_of_heap s0; (try simp only [World.size_alloc, List.getElem?_toArray, List.getElem?_cons_zero, List.getElem?_cons_succ] at a0 a1 a2 f0 f1 f2 a4); clear s0; have s0 := hx.r2; have a0 := cell_of s0 0; have a1 := cell_of s0 1; have a2 := cell_of s0 2; have f0 := ice_of s0 0; have f1 := ice_of s0 1; have f2 := ice_of s0 2; have a4 := lt_of_heap s0; (try simp only [World.size_alloc, List.getElem?_toArray, List.getElem?_cons_zero, List.getElem?_cons_succ] at a0 a1 a2 f0 f1 f2 a4); clear s0
    have hup := hx.up
    go_wp2_with (first | (go_at_call 42; refine (array_any hv H tvs own _ _ _ _ (hh.out.up (hx.up.trans uq))).mono ?_; rintro e w2 ⟨rfl, hu⟩; rw [HA.out]; have hx := hx.to (show Up _ w2 from Up.trans uq hu); have s0 := hx.v; have a0 := cell_of s0 0; have a1 := cell_of s0 1; have a2 := cell_of s0 2; have f0 := ice_of s0 0; have f1 := ice_of s0 1; have f2 := ice_of s0 2; have a4 := lt_of_heap s0; (try simp only [World.size_alloc, List.getElem?_toArray, List.getElem?_cons_zero, List.getElem?_cons_succ] at a0 a1 a2 f0 f1 f2 a4); clear s0; have s0 := hx.i; have a0 := cell_of s0 0; have a1 := cell_of s0 1; have a2 := cell_of s0 2; have f0 := ice_of s0 0; have f1 := ice_of s0 1; have f2 := ice_of s0 2; have a4 := lt_of_heap s0; (try simp only [World.size_alloc, List.getElem?_toArray, List.getElem?_cons_zero, List.getElem?_cons_succ] at a0 a1 a2 f0 f1 f2 a4); clear s0; have s0 := hx.r0; have a0 := cell_of s0 0; have a1 := cell_of s0 1; have a2 := cell_of s0 2; have f0 := ice_of s0 0; have f1 := ice_of s0 1; have f2 := ice_of s0 2; have a4 := lt_of_heap s0; (try simp only [World.size_alloc, List.getElem?_toArray, List.getElem?_cons_zero, List.getElem?_cons_succ] at a0 a1 a2 f0 f1 f2 a4); clear s0; have s0 := hx.r1; have a0 := cell_of s0 0; have a1 := cell_of s0 1; have a2 := cell_of s0 2; have f0 := ice_of s0 0; have f1 := ice_of s0 1; have f2 := ice_of s0 2; have a4 := lt_of_heap s0; (try simp only [World.size_alloc, List.getElem?_toArray, List.getElem?_cons_zero, List.getElem?_cons_succ] at a0 a1 a2 f0 f1 f2 a4); clear s0; have s0 := hx.r2; have a0 := cell_of s0 0; have a1 := cell_of s0 1; have a2 := cell_of s0 2; have f0 := ice_of s0 0; have f1 := ice_of s0 1; have f2 := ice_of s0 2; have a4 := lt_of_heap s0; (try simp only [World.size_alloc, List.getElem?_toArray, List.getElem?_cons_zero, List.getElem?_cons_succ] at a0 a1 a2 f0 f1 f2 a4); clear s0))
    have hb0 := cell_of (hx.up.get HB.out.1) 0
    simp only [List.getElem?_toArray, List.getElem?_cons_zero] at hb0
    have hbl2 : b < w2.heap.size := Nat.lt_of_lt_of_le hbl hx.up.size
    by_cases h0 : m < 0
    · have ha0 : Hid (atVal vals m = ⟨0, 0, ⟨#[]⟩⟩) := if_neg (by omega)
      have h0' : decide (0 ≤ m) = false := by simpa using h0
      go_quiet (fail)
      go_wp2_with fail
      refine ⟨.tuple #[.agg #[.int .i64 (atVal vals m).k, .int .i64 (atVal vals m).n, .string (atVal vals m).s], .string ⟨#[]⟩, .int .i64 0], ?_, rfl, ?_⟩
      · rw [ha0.out]
        simp [results, Tryz.results28, go_sem, *]
      · have hw2 : Up w w2 := hx.up
        exact uq
    · obtain ⟨M, rfl⟩ := Int.eq_ofNat_of_zero_le (show 0 ≤ m by omega)
      have h0' : decide (0 ≤ (M : Int)) = true := by simp
      by_cases hM : M < vals.length
      · obtain ⟨v, hv⟩ : ∃ v, vals[M]? = some v := ⟨_, List.getElem?_eq_getElem hM⟩
        have ha0 : Hid (atVal vals M = v) := by unfold atVal Hid; rw [if_pos (by omega), Int.toNat_natCast, hv]; rfl
        obtain ⟨f0, f1, f2⟩ := flat_at vals M v hv
        obtain ⟨g, rfl, e0⟩ := row_at HB.out.2 _ _ f0
        obtain ⟨g', hg', e1⟩ := row_at HB.out.2 _ _ f1
        obtain ⟨g'', hg'', e2⟩ := row_at HB.out.2 _ _ f2
        cases hg'
        cases hg''
        have hgl := cell_lt3 e0
        have d0 := (hx.up.cells g _ hgl).trans e0
        have d1 := (hx.up.cells g _ hgl).trans e1
        have d2 := (hx.up.cells g _ hgl).trans e2
        clear hv f0 f1 f2 e0 e1 e2
        have hi1 := cell_of hx.i 1
        simp only [List.getElem?_toArray, List.getElem?_cons_zero, List.getElem?_cons_succ] at hi1
        have hMi : (M : Int) < (vals.length : Int) := by omega
        go_quiet (fail)
        go_wp2_with fail
        go_region_held3 (fun W => W.cell? ⟨b, 0, none⟩ = some (.slice (some ⟨g, 0, none⟩) vals.length cap) ∧ W.cell? ⟨w.heap.size + 1, 1, none⟩ = some (.int .i64 M) ∧ W.cell? ⟨g, M * 3, none⟩ = some (.int .i64 v.k) ∧ W.cell? ⟨g, M * 3 + 1, none⟩ = some (.int .i64 v.n) ∧ W.cell? ⟨g, M * 3 + 2, none⟩ = some (.string v.s)) (((try dsimp only); (repeat' apply And.intro); all_goals (first | go_keep | ((simp (disch := omega) only [cell_set_ne']); first | exact hb0 | exact hi1 | exact d0 | exact d1 | exact d2)))) (first | fail)
        go_wp2_with fail
        refine ⟨.tuple #[.agg #[.int .i64 (atVal vals M).k, .int .i64 (atVal vals M).n, .string (atVal vals M).s], .string ⟨#[]⟩, .int .i64 0], ?_, rfl, ?_⟩
        · rw [ha0.out]
          simp [results, Tryz.results28, go_sem, *]
        · have hw2 : Up w w2 := hx.up
          exact uq
      · have ha0 : Hid (atVal vals M = ⟨0, 0, ⟨#[]⟩⟩) := by unfold atVal Hid; rw [if_pos (by omega), Int.toNat_natCast, List.getElem?_eq_none (by omega)]; rfl
        have hMi : decide ((M : Int) < (vals.length : Int)) = false := by simp; omega
        go_quiet (fail)
        go_wp2_with fail
        refine ⟨.tuple #[.agg #[.int .i64 (atVal vals M).k, .int .i64 (atVal vals M).n, .string (atVal vals M).s], .string ⟨#[]⟩, .int .i64 0], ?_, rfl, ?_⟩
        · rw [ha0.out]
          simp [results, Tryz.results28, go_sem, *]
        · have hw2 : Up w w2 := hx.up
          exact uq

end

theorem arr_yes {w : World} {hb : Nat} {H : HM} {tvs : List Value} {own : Own} (h : Rep w hb H tvs own) {N : Nat} {t : Thing} (ht : H.things[N]? = some t) (hk : t.kind = 2) :
    ∃ b vals, t = ⟨2, -1, [], vals⟩ ∧ tvs[N]? = some (.iface 86 (.pointer (some ⟨b, 0, none⟩))) ∧ arrOf H tvs 5 N = .pointer (some ⟨b, 0, none⟩) := by
  have hth := (kindOf_at ht).1
  obtain ⟨_, tv, t', h1, htv, hti⟩ := there_get (.some hb _ _ _ h) hth
  rw [Int.toNat_natCast] at h1 htv hti
  rw [ht] at h1
  cases h1
  cases hti with
  | arr vals b av hb' hc hr => exact ⟨b, vals, rfl, htv, by simp [arrOf, hth, List.getD, htv]⟩
  | obj k' p l b mv kv hk' hp hpi hb' hc hm hr hn => simp at hk; omega
theorem arr_not {w : World} {hb : Nat} {H : HM} {tvs : List Value} {own : Own} (h : Rep w hb H tvs own) {k n : Int} (ha : H.isArr k n = false) : arrOf H tvs k n = .pointer none := by
  unfold arrOf
  by_cases hk : k = 5 ∧ H.there n = true
  · rw [if_pos hk]
    obtain ⟨h0, tv, t, h1, htv, hti⟩ := there_get (.some hb _ _ _ h) hk.2
    cases hti with
    | arr vals b av hb' hc hr => exfalso; rw [hk.1, isArr_kind hk.2 h1] at ha; simp at ha
    | obj k' p l b mv kv hk' hp hpi hb' hc hm hr hn => simp [List.getD, htv]
  · rw [if_neg hk]

/-- At, as a whole -/
theorem At_any (hb : Nat) (H : HM) (tvs : List Value) (own : Own) (x y : Val) (w : World) (h : Rep w hb H tvs own) (hs : (plainS H x).s.size ≤ 1000000) :
    Calls Tryz.prog 28 #[.pointer (some ⟨hb, 0, none⟩), .agg #[.int .i64 (x).k, .int .i64 (x).n, .string (x).s], .agg #[.int .i64 (y).k, .int .i64 (y).n, .string (y).s]] w fun e w' => e = .returned (.tuple #[.agg #[.int .i64 ((H.atG x y).1).k, .int .i64 ((H.atG x y).1).n, .string ((H.atG x y).1).s], .string (H.atG x y).2.1, .int .i64 (H.atG x y).2.2]) ∧ Up w w' := by
  have hr := HRep.some hb H tvs own h
  unfold HM.atG
  rcases ex : plainS H x with ⟨pk, pn, ps⟩
  rcases ey : plainS H y with ⟨qk, qn, qs⟩
  rw [ex] at hs
  dsimp only at hs ⊢
  by_cases h0 : pk = 0
  · subst h0
    exact (At_throw0 _ H tvs own _ _ _ _ _ _ w hr _ _ _ _ _ ex ey).mono (by intro e w' h; simpa using h)
  · by_cases h1 : pk = 1
    · subst h1
      exact (At_throw1 _ H tvs own _ _ _ _ _ _ w hr _ _ _ _ _ ex ey).mono (by intro e w' h; simpa using h)
    · have b0 : (pk == 0) = false := by simpa using h0
      have b1 : (pk == 1) = false := by simpa using h1
      have e5 : plainS H ⟨pk, pn, ps⟩ = ⟨pk, pn, ps⟩ := by rw [← ex]; exact plain_twice H x
      rw [if_neg (by simp [h0, h1])]
      by_cases h4 : qk = 4
      · subst h4
        rw [if_pos rfl]
        exact At_key _ H tvs own _ _ _ _ _ _ w hr _ _ _ _ _ b0 b1 (by rw [e5]; dsimp only; omega) ex ey
      · by_cases h3 : qk = 3
        · subst h3
          rw [if_neg (by decide), if_neg (by simp)]
          by_cases hp : pk = 4
          · subst hp
            rw [if_pos rfl]
            exact At_rune _ H tvs own _ _ _ _ _ _ w hr _ _ _ _ (by omega) (arr_not h (isArr_no (by omega))) ex ey
          · have b4 : (pk == 4) = false := by simpa using hp
            rw [if_neg hp]
            by_cases h5 : pk = 5
            · subst h5
              rw [if_pos rfl]
              have ht := (there_of_plain ex).1
              obtain ⟨hn, t, hti⟩ := there_things ht
              have ha := isArr_kind ht hti
              rw [hti]
              dsimp only
              obtain ⟨N, rfl⟩ := Int.eq_ofNat_of_zero_le hn
              rw [Int.toNat_natCast] at hti
              by_cases hk : t.kind = 2
              · rw [if_pos hk]
                obtain ⟨b, vals, rfl, htv, haa⟩ := arr_yes h hti hk
                exact At_arr _ H tvs own _ _ _ _ _ _ _ _ _ N w hr b vals htv hti ex ey haa
              · rw [if_neg hk]
                exact At_none _ H tvs own _ _ _ _ _ _ w hr _ _ _ _ _ b0 b1 b4 (arr_not h (by rw [ha]; simpa using hk)) ex ey
            · rw [if_neg h5]
              exact At_none _ H tvs own _ _ _ _ _ _ w hr _ _ _ _ _ b0 b1 b4 (arr_not h (isArr_no h5)) ex ey
        · rw [if_neg h4, if_pos h3]
          exact At_index _ H tvs own _ _ _ _ _ _ w hr _ _ _ _ _ _ b0 b1 (by simpa using h4) (by simpa using h3) ex ey

theorem set_plain {H : HM} {k n : Int} {s key : ByteArray} {x : Val} : H.set (plainS H ⟨k, n, s⟩).k (plainS H ⟨k, n, s⟩).n key x = H.set k n key x := by
  by_cases h5 : (plainS H ⟨k, n, s⟩).k = 5
  · have hk5 : k = 5 := (plain_k5.1 h5).1
    subst hk5
    rw [(plainS_ref h5).1]
  · unfold HM.set
    rw [if_neg (fun q => h5 q.1), if_neg (fun q => h5 (plain_k5.2 q))]

theorem isArr_plain {H : HM} {k n : Int} {s : ByteArray} : H.isArr (plainS H ⟨k, n, s⟩).k (plainS H ⟨k, n, s⟩).n = H.isArr k n := by
  by_cases h5 : (plainS H ⟨k, n, s⟩).k = 5
  · have hk5 : k = 5 := (plain_k5.1 h5).1
    subst hk5
    rw [(plainS_ref h5).1]
  · rw [isArr_no h5]
    unfold HM.isArr
    by_cases hk : k = 5
    · have ht : ¬ H.there n = true := fun q => h5 (plain_k5.2 ⟨hk, q⟩)
      unfold HM.kindOf
      rw [if_neg ht]
      simp
    · rw [decide_eq_false hk]; rfl

/-- Put, as a whole -/
theorem Put_any (hb : Nat) (H : HM) (tvs : List Value) (own : Own) (v i x : Val) (w : World) (h : Rep w hb H tvs own) :
    Calls Tryz.prog 30 #[.pointer (some ⟨hb, 0, none⟩), .agg #[.int .i64 (v).k, .int .i64 (v).n, .string (v).s], .agg #[.int .i64 (i).k, .int .i64 (i).n, .string (i).s], .agg #[.int .i64 (x).k, .int .i64 (x).n, .string (x).s]] w (Wrote hb (H.put v i x).1 own w (.tuple #[.string (H.put v i x).2.1, .int .i64 (H.put v i x).2.2])) := by
  have hw : ∀ (v : Value) (e : Ending) (w' : World), (e = .returned v ∧ Up w w') → Wrote hb H own w v e w' := fun v e w' ⟨h1, h2⟩ => ⟨h1, tvs, own, h.up h2, h2.mut own⟩
  obtain ⟨k, n, s⟩ := v
  obtain ⟨k2, n2, s2⟩ := i
  unfold HM.put
  rw [set_plain, isArr_plain]
  rcases e2 : plainS H ⟨k2, n2, s2⟩ with ⟨qk, qn, qs⟩
  dsimp only
  cases ha : H.isArr k n
  · rw [if_neg (by simp)]
    by_cases h4 : qk = 4
    · rw [if_pos h4]
      exact Put_set_n hb H tvs own k n k2 n2 s s2 x w h qk qn qs e2 (arr_not h ha) (by simpa using h4)
    · rw [if_neg h4]
      exact (Put_throw_n hb H tvs own k n k2 n2 s s2 x w h qk qn qs e2 (arr_not h ha) (by simpa using h4)).mono (hw _)
  · obtain ⟨hk5, hk2⟩ : k = 5 ∧ H.kindOf n = 2 := by simpa [HM.isArr] using ha
    subst hk5
    have ht : H.there n = true := by
      by_cases hq : H.there n = true
      · exact hq
      · unfold HM.kindOf at hk2; rw [if_neg hq] at hk2; omega
    obtain ⟨h0, t, hti⟩ := there_things ht
    obtain ⟨N, rfl⟩ := Int.eq_ofNat_of_zero_le h0
    rw [Int.toNat_natCast] at hti
    have htk : t.kind = 2 := by rw [← (kindOf_at hti).2]; exact hk2
    obtain ⟨b, vals, rfl, htv, haa⟩ := arr_yes h hti htk
    by_cases h3 : qk = 3
    · subst h3
      rw [if_pos ⟨rfl, rfl⟩]
      have e1 : plainS H ⟨5, N, s⟩ = ⟨5, N, ⟨#[]⟩⟩ := by simp [plainS, ht]
      rw [e1]
      dsimp only
      rw [Int.toNat_natCast, hti]
      dsimp only
      by_cases hin : 0 ≤ qn ∧ qn < vals.length
      · rw [if_pos hin]
        obtain ⟨J, rfl⟩ := Int.eq_ofNat_of_zero_le hin.1
        rw [Int.toNat_natCast]
        exact Put_in hb H tvs own 5 N k2 n2 s s2 x w h qs J _ e2 b N vals htv hti haa (List.getElem?_eq_getElem (by omega))
      · rw [if_neg hin]
        by_cases hl : qn = vals.length
        · rw [if_pos hl]
          subst hl
          have hp : H.push N x = if H.used < H.room then (H.pushAt N vals x, (vals.length : Int) + 1, 0) else (H, -1, 3) := by
            unfold HM.push
            rw [if_pos ht, Int.toNat_natCast, hti]
            dsimp only
            rw [if_pos rfl]
          rw [hp]
          by_cases hf : H.used < H.room
          · rw [if_pos hf]
            exact Put_more hb H tvs own 5 N k2 n2 s s2 x w h qs N vals e2 b htv hti haa hf
          · rw [if_neg hf]
            exact (Put_full hb H tvs own 5 N k2 n2 s s2 x w h qs N vals e2 b htv hti haa (by omega)).mono (hw _)
        · rw [if_neg hl]
          by_cases hq : qn < 0
          · exact (Put_lo hb H tvs own 5 N k2 n2 s s2 x w h qn qs e2 b N vals htv hti haa hq).mono (hw _)
          · exact (Put_hi hb H tvs own 5 N k2 n2 s s2 x w h qn qs e2 b N vals htv hti haa (by omega)).mono (hw _)
    · rw [if_neg (fun q => h3 q.2)]
      have hq : (qk == 3) = false := by simpa using h3
      by_cases h4 : qk = 4
      · rw [if_pos h4]
        exact Put_set_a hb H tvs own 5 N k2 n2 s s2 x w h qk qn qs e2 b haa hq (by simpa using h4)
      · rw [if_neg h4]
        exact (Put_throw_a hb H tvs own 5 N k2 n2 s s2 x w h qk qn qs e2 b haa hq (by simpa using h4)).mono (hw _)

end Go.Proofs.YtmbipadiaggolaaGreatDoor

/- Show: a thing that is shown by one word. -/
namespace Go.Proofs.YtmbipadiaggolaaGreatDoor
open Go.RowKit
set_option linter.unusedSimpArgs false
attribute [local go_sem] ta_aa ta_ao ta_an ta_oa ta_oo ta_on m_kind_a m_kind_o m_behind_a m_behind_o m_own_a m_own_o

/-- what an object that is no plain one, or that stands too deep, is shown by -/
def wordOf (kk : Int) : ByteArray := if kk = 3 then functionS else if kk = 4 then classS else dotsS

set_option maxRecDepth 100000 in
set_option maxHeartbeats 4000000 in
theorem value_word (B sb : Nat) (hv : Value) (H : HM) (tvs : List Value) (own : Own) (bs : List UInt8) (n d : Int) (s : ByteArray) (w : World) (h : ShowIn B sb hv H tvs own bs w) (h0 : 0 ≤ n) (ob pv : Value) (kk : Int)
    (htv : tvs[n.toNat]? = some (.iface 96 (.agg #[ob, .int .i64 kk, pv]))) (hpv : pv = .nilIface ∨ ∃ T y, pv = .iface T y) (hob : ∃ a, ob = .pointer a) (hkk : kk = 3 ∨ kk = 4 ∨ (kk = 1 ∧ d = 3)) :
    Calls Tryz.prog 36 #[.pointer (some ⟨sb, 0, none⟩), .agg #[.int .i64 5, .int .i64 n, .string s], .int .i64 d] w (Shown B sb hv (say bs (wordOf kk)) w) := by
  have hh := Lib.hid h
  have HN := Lib.hid htv
  obtain ⟨p0, v0, hsb0, _⟩ := h.at_.there
  have c0 := cell_of hsb0 0
  simp only [List.getElem?_toArray, List.getElem?_cons_zero] at c0
  have hlt := h.at_.lt
  clear h hsb0 htv
  have c1 : ∀ o1 o2 o3, (((w.alloc o1).alloc o2).alloc o3).cell? ⟨sb, 0, none⟩ = some hv := fun o1 o2 o3 => (Up.cells (show Up w (((w.alloc o1).alloc o2).alloc o3) from uq) sb 0 hlt).trans c0
  obtain ⟨a, rfl⟩ := hob
  refine callsIn_wide.1 (callsIn_of_wp_marks (n := 2) Tryz.func36 rfl trivial ?_)
  refine wpIn_wide.2 ?_
  simp only [Tryz.ntmps36, List.size_toArray, List.length_cons, List.length_nil, Nat.reduceAdd, Nat.reduceSub, Array.replicate_succ, Array.replicate_zero, List.push_toArray, List.append_toArray, List.nil_append, List.cons_append]
  go_wp2_with fail
  refine wp_scope_straight ?_
  go_wp2_with fail
  go_region_held3 (fun W => W.cell? ⟨w.heap.size, 0, none⟩ = some (.pointer (some ⟨sb, 0, none⟩)) ∧ W.cell? ⟨sb, 0, none⟩ = some hv ∧ W.cell? ⟨w.heap.size + 1, 0, none⟩ = some (.int .i64 5) ∧ W.cell? ⟨w.heap.size + 1, 1, none⟩ = some (.int .i64 n) ∧ W.cell? ⟨w.heap.size + 1, 2, none⟩ = some (.string s)) (go_keep) (first | (go_at_call 40; refine (thing_some hv H tvs own _ _ _ _ _ (hh.out.heap.up uq) rfl h0 HN.out).mono ?_; rintro e w1 ⟨rfl, hu⟩; have s0 := hu.get (Up.get uq (alloc_get w _)); have B3 := Lib.hid s0; have a0 := cell_of s0 0; have a1 := cell_of s0 1; have a2 := cell_of s0 2; have f0 := ice_of s0 0; have f1 := ice_of s0 1; have f2 := ice_of s0 2; have a4 := lt_of_heap s0; (try simp only [World.size_alloc, List.getElem?_toArray, List.getElem?_cons_zero, List.getElem?_cons_succ] at a0 a1 a2 f0 f1 f2 a4); clear s0; have s0 := hu.get (Up.get uq (alloc_get (w.alloc _) _)); simp only [World.size_alloc] at s0; have B4 := Lib.hid s0; have a0 := cell_of s0 0; have a1 := cell_of s0 1; have a2 := cell_of s0 2; have f0 := ice_of s0 0; have f1 := ice_of s0 1; have f2 := ice_of s0 2; have a4 := lt_of_heap s0; (try simp only [World.size_alloc, List.getElem?_toArray, List.getElem?_cons_zero, List.getElem?_cons_succ] at a0 a1 a2 f0 f1 f2 a4); clear s0; have s0 := hu.get (Up.get uq (alloc_get ((w.alloc _).alloc _) _)); simp only [World.size_alloc] at s0; have B5 := Lib.hid s0; have a0 := cell_of s0 0; have a1 := cell_of s0 1; have a2 := cell_of s0 2; have f0 := ice_of s0 0; have f1 := ice_of s0 1; have f2 := ice_of s0 2; have a4 := lt_of_heap s0; (try simp only [World.size_alloc, List.getElem?_toArray, List.getElem?_cons_zero, List.getElem?_cons_succ] at a0 a1 a2 f0 f1 f2 a4); clear s0; have z0 := (hu.cells sb 0 (by simp; omega)); have hw1 : Up w w1 := uq))
  clear c1
  rcases hpv with rfl | ⟨T, y, rfl⟩
  all_goals
    rcases hkk with rfl | rfl | ⟨rfl, rfl⟩
    all_goals
      go_wp2_with (first | (go_at_call 123; refine (kind_o _ _ _ _).mono ?_; rintro e wk ⟨rfl, hk⟩; have s0 := hk.get (Up.get (w := w1) uq B3.out); have a0 := cell_of s0 0; have a1 := cell_of s0 1; have a2 := cell_of s0 2; have f0 := ice_of s0 0; have f1 := ice_of s0 1; have f2 := ice_of s0 2; have a4 := lt_of_heap s0; (try simp only [World.size_alloc, List.getElem?_toArray, List.getElem?_cons_zero, List.getElem?_cons_succ] at a0 a1 a2 f0 f1 f2 a4); clear s0; have s0 := hk.get (Up.get (w := w1) uq B4.out); have a0 := cell_of s0 0; have a1 := cell_of s0 1; have a2 := cell_of s0 2; have f0 := ice_of s0 0; have f1 := ice_of s0 1; have f2 := ice_of s0 2; have a4 := lt_of_heap s0; (try simp only [World.size_alloc, List.getElem?_toArray, List.getElem?_cons_zero, List.getElem?_cons_succ] at a0 a1 a2 f0 f1 f2 a4); clear s0; have s0 := hk.get (Up.get (w := w1) uq B5.out); have a0 := cell_of s0 0; have a1 := cell_of s0 1; have a2 := cell_of s0 2; have f0 := ice_of s0 0; have f1 := ice_of s0 1; have f2 := ice_of s0 2; have a4 := lt_of_heap s0; (try simp only [World.size_alloc, List.getElem?_toArray, List.getElem?_cons_zero, List.getElem?_cons_succ] at a0 a1 a2 f0 f1 f2 a4); clear s0) | (go_at_call 56; refine (says_any B sb hv bs _ _ (hh.out.at_.up uq) hh.out.len).mono ?_; rintro e w3 ⟨rfl, hS, hK⟩))
      refine ⟨_, results_tmp rfl _ _ _, rfl, hS, ?_⟩
      exact (Showed.of_up (uq) hh.out.at_.lt).trans hK

set_option maxRecDepth 100000 in
set_option maxHeartbeats 4000000 in
theorem value_deep (B sb : Nat) (hv : Value) (H : HM) (tvs : List Value) (own : Own) (bs : List UInt8) (n d : Int) (s : ByteArray) (w : World) (h : ShowIn B sb hv H tvs own bs w) (h0 : 0 ≤ n) (a : Option Addr)
    (htv : tvs[n.toNat]? = some (.iface 86 (.pointer a))) (hd : d = 3) :
    Calls Tryz.prog 36 #[.pointer (some ⟨sb, 0, none⟩), .agg #[.int .i64 5, .int .i64 n, .string s], .int .i64 d] w (Shown B sb hv (say bs dotsS) w) := by
  have hh := Lib.hid h
  have HN := Lib.hid htv
  obtain ⟨p0, v0, hsb0, _⟩ := h.at_.there
  have c0 := cell_of hsb0 0
  simp only [List.getElem?_toArray, List.getElem?_cons_zero] at c0
  have hlt := h.at_.lt
  clear h hsb0 htv
  have c1 : ∀ o1 o2 o3, (((w.alloc o1).alloc o2).alloc o3).cell? ⟨sb, 0, none⟩ = some hv := fun o1 o2 o3 => (Up.cells (show Up w (((w.alloc o1).alloc o2).alloc o3) from uq) sb 0 hlt).trans c0
  refine callsIn_wide.1 (callsIn_of_wp_marks (n := 2) Tryz.func36 rfl trivial ?_)
  refine wpIn_wide.2 ?_
  simp only [Tryz.ntmps36, List.size_toArray, List.length_cons, List.length_nil, Nat.reduceAdd, Nat.reduceSub, Array.replicate_succ, Array.replicate_zero, List.push_toArray, List.append_toArray, List.nil_append, List.cons_append]
  go_wp2_with fail
  refine wp_scope_straight ?_
  go_wp2_with fail
  go_region_held3 (fun W => W.cell? ⟨w.heap.size, 0, none⟩ = some (.pointer (some ⟨sb, 0, none⟩)) ∧ W.cell? ⟨sb, 0, none⟩ = some hv ∧ W.cell? ⟨w.heap.size + 1, 0, none⟩ = some (.int .i64 5) ∧ W.cell? ⟨w.heap.size + 1, 1, none⟩ = some (.int .i64 n) ∧ W.cell? ⟨w.heap.size + 1, 2, none⟩ = some (.string s)) (go_keep) (first | (go_at_call 40; refine (thing_some hv H tvs own _ _ _ _ _ (hh.out.heap.up uq) rfl h0 HN.out).mono ?_; rintro e w1 ⟨rfl, hu⟩; have s0 := hu.get (Up.get uq (alloc_get w _)); have B3 := Lib.hid s0; have a0 := cell_of s0 0; have a1 := cell_of s0 1; have a2 := cell_of s0 2; have f0 := ice_of s0 0; have f1 := ice_of s0 1; have f2 := ice_of s0 2; have a4 := lt_of_heap s0; (try simp only [World.size_alloc, List.getElem?_toArray, List.getElem?_cons_zero, List.getElem?_cons_succ] at a0 a1 a2 f0 f1 f2 a4); clear s0; have s0 := hu.get (Up.get uq (alloc_get (w.alloc _) _)); simp only [World.size_alloc] at s0; have B4 := Lib.hid s0; have a0 := cell_of s0 0; have a1 := cell_of s0 1; have a2 := cell_of s0 2; have f0 := ice_of s0 0; have f1 := ice_of s0 1; have f2 := ice_of s0 2; have a4 := lt_of_heap s0; (try simp only [World.size_alloc, List.getElem?_toArray, List.getElem?_cons_zero, List.getElem?_cons_succ] at a0 a1 a2 f0 f1 f2 a4); clear s0; have s0 := hu.get (Up.get uq (alloc_get ((w.alloc _).alloc _) _)); simp only [World.size_alloc] at s0; have B5 := Lib.hid s0; have a0 := cell_of s0 0; have a1 := cell_of s0 1; have a2 := cell_of s0 2; have f0 := ice_of s0 0; have f1 := ice_of s0 1; have f2 := ice_of s0 2; have a4 := lt_of_heap s0; (try simp only [World.size_alloc, List.getElem?_toArray, List.getElem?_cons_zero, List.getElem?_cons_succ] at a0 a1 a2 f0 f1 f2 a4); clear s0; have z0 := (hu.cells sb 0 (by simp; omega)); have hw1 : Up w w1 := uq))
  clear c1
  subst hd
  go_wp2_with (first | (go_at_call 120; refine (kind_a _ _).mono ?_; rintro e wk ⟨rfl, rfl⟩) | (go_at_call 56; refine (says_any B sb hv bs _ _ (hh.out.at_.up uq) hh.out.len).mono ?_; rintro e w3 ⟨rfl, hS, hK⟩))
  refine ⟨_, results_tmp rfl _ _ _, rfl, hS, ?_⟩
  exact (Showed.of_up (uq) hh.out.at_.lt).trans hK

end Go.Proofs.YtmbipadiaggolaaGreatDoor
