import Derived.Deep.Light
import Derived.Deep.LoopGhost
import Derived.Test.YtmbipadiaggolaaGreatDoorM01
/- YtmbipadiaggolaaGreatDoorM02: lemmas of the proof, in order: HeapW2, HeapW3, HeapW4, Row. -/
/- Walks: plain, array, Kind, Len, Used, New, takes. -/
namespace Go.Proofs.YtmbipadiaggolaaGreatDoor
open Go.RowKit
attribute [local go_sem] ta_aa ta_ao ta_an ta_oa ta_oo ta_on m_kind_a m_kind_o m_behind_a m_behind_o m_own_a m_own_o


theorem there_get {w : World} {hv : Value} {H : HM} {tvs : List Value} {own : Nat → Option (Nat × Nat)} (h : HRep w hv H tvs own) {n : Int} (h0 : H.there n = true) :
    0 ≤ n ∧ ∃ tv t, H.things[n.toNat]? = some t ∧ tvs[n.toNat]? = some tv ∧ ThingIs w own tvs n.toNat t tv := by
  simp only [HM.there, Bool.and_eq_true, decide_eq_true_eq] at h0
  obtain ⟨h1, h2⟩ := h0
  refine ⟨h1, ?_⟩
  have hlt : n.toNat < H.things.length := by omega
  cases h with
  | nil => simp at hlt
  | some hb _ _ _ h =>
    obtain ⟨tv, h3, h4⟩ := h.things n.toNat _ (List.getElem?_eq_getElem hlt)
    exact ⟨tv, _, List.getElem?_eq_getElem hlt, h3, h4⟩

theorem ThingIs.iface {w : World} {own : Nat → Option (Nat × Nat)} {tvs : List Value} {i : Nat} {t : Thing} {v : Value} (h : ThingIs w own tvs i t v) : ∃ T x, v = .iface T x := by
  cases h <;> exact ⟨_, _, rfl⟩

set_option maxHeartbeats 800000 in
theorem plain_any (hv : Value) (H : HM) (tvs : List Value) (own : Nat → Option (Nat × Nat)) (k n : Int) (s : ByteArray) (w : World) (h : HRep w hv H tvs own) :
    Calls Tryz.prog 35 #[hv, .agg #[.int .i64 k, .int .i64 n, .string s]] w fun e w' => e = .returned (.agg #[.int .i64 (plainS H ⟨k, n, s⟩).k, .int .i64 (plainS H ⟨k, n, s⟩).n, .string (plainS H ⟨k, n, s⟩).s]) ∧ Up w w' := by
  have hh := Lib.hid h
  clear h
  by_cases ht : H.there n = true
  · obtain ⟨h0, tv, t, _, htv, hti⟩ := there_get hh.out ht
    obtain ⟨T, x, rfl⟩ := hti.iface
    have HH := Lib.hid htv
    have HT := Lib.hid ht
    clear htv hti ht
    go_enter Tryz.func35, Tryz.ntmps35
    go_wp2_with (first | (go_at_call 55; go_in) | (go_at_call 47; refine (number_any _ _).mono ?_; rintro e w' ⟨rfl, hu⟩; obtain ⟨hc, hf⟩ := And.intro hu.cells hu.ice; have hz := hu.size; (try simp only [World.size_alloc] at hz); (try (have hz0 : w.heap.size < w'.heap.size := by omega))) | (go_at_call 40; refine (thing_some hv H tvs own _ _ _ _ _ (hh.out.up uq) (by first | rfl | (simp_all; done)) h0 HH.out).mono ?_; rintro e w' ⟨rfl, hu⟩; obtain ⟨hc, hf⟩ := And.intro hu.cells hu.ice; have hz := hu.size; (try simp only [World.size_alloc] at hz); (try (have hz0 : w.heap.size < w'.heap.size := by omega))))
    all_goals (refine bodyPost_eq (by (simp [results, Tryz.results35, go_sem, *]) <;> rfl) rfl ?_ ⟨rfl, uq⟩)
    all_goals (go_light; simp_all [plainS, clampN, Hid]; try (repeat' split))
    all_goals omega
  · have HT := Lib.hid (show H.there n = false by simpa using ht)
    clear ht
    go_enter Tryz.func35, Tryz.ntmps35
    go_wp2_with (first | (go_at_call 55; go_in) | (go_at_call 47; refine (number_any _ _).mono ?_; rintro e w' ⟨rfl, hu⟩; obtain ⟨hc, hf⟩ := And.intro hu.cells hu.ice; have hz := hu.size; (try simp only [World.size_alloc] at hz); (try (have hz0 : w.heap.size < w'.heap.size := by omega))) | (go_at_call 40; refine (thing_none hv H tvs own _ _ _ _ (hh.out.up uq) (fun _ => HT.out)).mono ?_; rintro e w' ⟨rfl, hu⟩; obtain ⟨hc, hf⟩ := And.intro hu.cells hu.ice; have hz := hu.size; (try simp only [World.size_alloc] at hz); (try (have hz0 : w.heap.size < w'.heap.size := by omega))))
    all_goals (refine bodyPost_eq (by (simp [results, Tryz.results35, go_sem, *]) <;> rfl) rfl ?_ ⟨rfl, uq⟩)
    all_goals (go_light; simp_all [plainS, clampN, Hid]; try (repeat' split))
    all_goals omega

/-- the block of an array that a value stands for; none: it is none -/
def arrOf (H : HM) (tvs : List Value) (k n : Int) : Value :=
  if k = 5 ∧ H.there n = true then (match tvs.getD n.toNat .nilIface with | .iface T v => if T = 86 then v else .pointer none | _ => .pointer none) else .pointer none

set_option maxHeartbeats 400000 in
theorem array_any (hv : Value) (H : HM) (tvs : List Value) (own : Nat → Option (Nat × Nat)) (k n : Int) (s : ByteArray) (w : World) (h : HRep w hv H tvs own) :
    Calls Tryz.prog 42 #[hv, .agg #[.int .i64 k, .int .i64 n, .string s]] w fun e w' => e = .returned (arrOf H tvs k n) ∧ Up w w' := by
  have hh := Lib.hid h
  clear h
  by_cases ht : k = 5 ∧ H.there n = true
  · obtain ⟨hk, ht⟩ := ht
    obtain ⟨h0, tv, t, _, htv, hti⟩ := there_get hh.out ht
    cases hti with
    | arr vals b av hb hc hr =>
      have HH := Lib.hid htv
      have ha : Hid (arrOf H tvs k n = .pointer (some ⟨b, 0, none⟩)) := by simp [Hid, arrOf, hk, ht, List.getD, htv]
      have HK := Lib.hid hk
      clear htv ht hk hb hc hr
      go_enter Tryz.func42, Tryz.ntmps42
      go_wp2_with (first | (go_at_call 40; refine (thing_some hv H tvs own _ _ _ _ _ (hh.out.up uq) HK.out h0 HH.out).mono ?_; rintro e w' ⟨rfl, hu⟩))
      go_ret
      exact ⟨ret_v ha.out.symm, uq⟩
    | obj k' p l b mv kv hk' hp hpi hb hc hm hr hn =>
      have HH := Lib.hid htv
      have ha : Hid (arrOf H tvs k n = .pointer none) := by simp [Hid, arrOf, hk, ht, List.getD, htv]
      have HK := Lib.hid hk
      clear htv ht hk hb hc hr hk' hm hn hp hpi
      go_enter Tryz.func42, Tryz.ntmps42
      go_wp2_with (first | (go_at_call 40; refine (thing_some hv H tvs own _ _ _ _ _ (hh.out.up uq) HK.out h0 HH.out).mono ?_; rintro e w' ⟨rfl, hu⟩))
      go_ret
      exact ⟨ret_v ha.out.symm, uq⟩
  · have ha : Hid (arrOf H tvs k n = .pointer none) := by simp [Hid, arrOf, ht]
    have HT := Lib.hid (show k = 5 → H.there n = false by simpa using ht)
    clear ht
    go_enter Tryz.func42, Tryz.ntmps42
    go_wp2_with (first | (go_at_call 40; refine (thing_none hv H tvs own _ _ _ _ (hh.out.up uq) HT.out).mono ?_; rintro e w' ⟨rfl, hu⟩))
    go_ret
    exact ⟨ret_v ha.out.symm, uq⟩

/-- a thing's kind; 0: it is none -/
def HM.kindOf (H : HM) (n : Int) : Int := if H.there n = true then (H.things[n.toNat]?.map (·.kind)).getD 0 else 0

set_option maxHeartbeats 400000 in
theorem Kind_any (hv : Value) (H : HM) (tvs : List Value) (own : Nat → Option (Nat × Nat)) (n : Int) (w : World) (h : HRep w hv H tvs own) :
    Calls Tryz.prog 14 #[hv, .int .i64 n] w fun e w' => e = .returned (.int .i64 (H.kindOf n)) ∧ Up w w' := by
  have hh := Lib.hid h
  clear h
  by_cases ht : H.there n = true
  · obtain ⟨h0, tv, t, hth, htv, hti⟩ := there_get hh.out ht
    cases hti with
    | arr vals b av hb hc hr =>
      have HH := Lib.hid htv
      have ha : Hid (H.kindOf n = 2) := by simp [Hid, HM.kindOf, ht, hth]
      clear htv ht hth hb hc hr
      go_enter Tryz.func14, Tryz.ntmps14
      go_wp2_with (first | (go_at_call 40; refine (thing_some hv H tvs own _ _ _ _ _ (hh.out.up uq) rfl h0 HH.out).mono ?_; rintro e w' ⟨rfl, hu⟩) | (go_at_call 120; refine (kind_a _ _).mono ?_; rintro e w'' ⟨rfl, rfl⟩))
      go_ret
      exact ⟨by rw [ha.out]; rfl, uq⟩
    | obj k' p l b mv kv hk' hp hpi hb hc hm hr hn =>
      have HH := Lib.hid htv
      have ha : Hid (H.kindOf n = k') := by simp [Hid, HM.kindOf, ht, hth]
      clear htv ht hth hb hc hr hk' hm hn hp hpi
      go_enter Tryz.func14, Tryz.ntmps14
      go_wp2_with (first | (go_at_call 40; refine (thing_some hv H tvs own _ _ _ _ _ (hh.out.up uq) rfl h0 HH.out).mono ?_; rintro e w' ⟨rfl, hu⟩; obtain ⟨hc, hf⟩ := And.intro hu.cells hu.ice; have hz := hu.size; (try simp only [World.size_alloc] at hz); (try (have hz0 : w.heap.size < w'.heap.size := by omega))) | (go_at_call 123; refine (kind_o _ _ _ _).mono ?_; rintro e w'' ⟨rfl, hu2⟩))
      go_ret
      exact ⟨by rw [ha.out]; rfl, uq⟩
  · have ha : Hid (H.kindOf n = 0) := by simp [Hid, HM.kindOf, ht]
    have HT := Lib.hid (show (5 : Int) = 5 → H.there n = false by simpa using ht)
    clear ht
    go_enter Tryz.func14, Tryz.ntmps14
    go_wp2_with (first | (go_at_call 40; refine (thing_none hv H tvs own _ _ _ _ (hh.out.up uq) HT.out).mono ?_; rintro e w' ⟨rfl, hu⟩))
    go_ret
    exact ⟨by rw [ha.out]; rfl, uq⟩

end Go.Proofs.YtmbipadiaggolaaGreatDoor

/- Walks: Used, New, Len, own, find, Get. -/
namespace Go.Proofs.YtmbipadiaggolaaGreatDoor
open Go.RowKit
attribute [local go_sem] ta_aa ta_ao ta_an ta_oa ta_oo ta_on m_kind_a m_kind_o m_behind_a m_behind_o m_own_a m_own_o

theorem Used_any (hv : Value) (H : HM) (tvs : List Value) (own : Nat → Option (Nat × Nat)) (w : World) (h : HRep w hv H tvs own) :
    Calls Tryz.prog 11 #[hv] w fun e w' => e = .returned (.int .i64 H.used) ∧ w = w' := by
  cases h with
  | nil =>
    go_enter Tryz.func11, Tryz.ntmps11
    go_wp2
    go_ret
    exact ⟨rfl, rfl⟩
  | some hb _ _ _ h =>
    obtain ⟨sv, h1, _⟩ := h.head
    have hc := cell_of h1 1
    simp only [List.getElem?_toArray, List.getElem?_cons_succ, List.getElem?_cons_zero] at hc
    clear h1 h
    go_enter Tryz.func11, Tryz.ntmps11
    go_wp2
    go_ret
    exact ⟨rfl, rfl⟩

theorem New_bad (n : Int) (w : World) (hn : n < 0 ∨ 1048576 < n) :
    Calls Tryz.prog 8 #[.int .i64 n] w fun e w' => e = .returned (.tuple #[.pointer none, .int .i64 1]) ∧ w = w' := by
  rcases hn with hn | hn
  · go_enter Tryz.func8, Tryz.ntmps8
    go_wp2
    go_ret2
    exact ⟨rfl, rfl⟩
  · have hn' : ¬ n < 0 := by omega
    go_enter Tryz.func8, Tryz.ntmps8
    go_wp2
    go_ret2
    exact ⟨rfl, rfl⟩

theorem New_good (n : Int) (w : World) (h0 : 0 ≤ n) (h1 : n ≤ 1048576) :
    Calls Tryz.prog 8 #[.int .i64 n] w fun e w' => e = .returned (.tuple #[.pointer (some ⟨w.heap.size, 0, none⟩), .int .i64 0]) ∧
      w' = w.alloc (.cells #[.int .i64 n, .int .i64 0, .slice none 0 0] 46) := by
  have hn : ¬ n < 0 := by omega
  have hn' : ¬ 1048576 < n := by omega
  go_enter Tryz.func8, Tryz.ntmps8
  go_wp2
  go_ret2
  exact ⟨rfl, rfl⟩

theorem Rep.fresh (n : Int) (w : World) (h0 : 0 ≤ n) (h1 : n ≤ 1048576) :
    Rep (w.alloc (.cells #[.int .i64 n, .int .i64 0, .slice none 0 0] 46)) w.heap.size ⟨n, 0, []⟩ [] (fun b => if b = w.heap.size then some (0, 0) else none) where
  lt b m hm := by
    split at hm
    · rename_i h; subst h; simp
    · cases hm
  mine := by simp
  head := ⟨.slice none 0 0, alloc_get _ _, ⟨by simp, .inl ⟨rfl, rfl⟩⟩, fun g hg => by simp [Value.ownBlock] at hg⟩
  len := rfl
  things i t ht := by simp at ht
  room0 := Int.le_refl 0
  roomU := h0
  roomM := h1
  few := by simp [sizes]

/-- how many values an array has; 0: it is none -/
def HM.lenOf (H : HM) (n : Int) : Int := if H.there n = true then (H.things[n.toNat]?.map (fun t => (t.vals.length : Int))).getD 0 else 0

/-- the one cell of an array -/
theorem ThingIs.arrow {w : World} {own : Nat → Option (Nat × Nat)} {av : Value} {m : Nat × Nat} {n : Nat} {xs : List Value} {e : TypeId} {sz : Nat} (h : Row w own m e sz av n xs) : ∃ sa cap, av = .slice sa n cap ∧ n ≤ maxLen := by
  obtain ⟨⟨hl, h2⟩, h3⟩ := h
  rcases h2 with ⟨rfl, rfl⟩ | ⟨g, cap, cur, rfl, _, hg, h4, h5, _⟩
  · exact ⟨none, 0, rfl, by simp [maxLen]⟩
  · exact ⟨_, cap, rfl, by omega⟩

set_option maxHeartbeats 400000 in
theorem Len_any (hv : Value) (H : HM) (tvs : List Value) (own : Nat → Option (Nat × Nat)) (n : Int) (w : World) (h : HRep w hv H tvs own) :
    Calls Tryz.prog 16 #[hv, .int .i64 n] w fun e w' => e = .returned (.int .i64 (H.lenOf n)) ∧ Up w w' := by
  have hh := Lib.hid h
  clear h
  by_cases ht : H.there n = true
  · obtain ⟨h0, tv, t, hth, htv, hti⟩ := there_get hh.out ht
    cases hti with
    | arr vals b av hb hc hr =>
      obtain ⟨sa, cap, rfl, hm⟩ := ThingIs.arrow hr
      have ha : Hid (H.lenOf n = vals.length) := by simp [Hid, HM.lenOf, ht, hth]
      have hx : Hid (arrOf H tvs 5 n = .pointer (some ⟨b, 0, none⟩)) := by simp [Hid, arrOf, ht, List.getD, htv]
      have hb0 := lt_of_heap hc
      have hcell := cell_of hc 0
      simp only [List.getElem?_toArray, List.getElem?_cons_zero] at hcell
      clear htv ht hth hb hc hr
      go_enter Tryz.func16, Tryz.ntmps16
      go_wp2_with (first | (go_at_call 42; refine (array_any hv H tvs own _ _ _ _ (hh.out.up uq)).mono ?_; rintro e w' ⟨rfl, hu⟩; rw [hx.out]; obtain ⟨hc, hf⟩ := And.intro hu.cells hu.ice; have hz := hu.size; (try simp only [World.size_alloc] at hz); (try (have hz0 : w.heap.size < w'.heap.size := by omega))))
      go_ret
      exact ⟨by rw [ha.out]; rfl, uq⟩
    | obj k' p l b mv kv hk' hp hpi hb hc hm hr hn =>
      have ha : Hid (H.lenOf n = 0) := by simp [Hid, HM.lenOf, ht, hth]
      have hx : Hid (arrOf H tvs 5 n = .pointer none) := by simp [Hid, arrOf, ht, List.getD, htv]
      clear htv ht hth hb hc hr hk' hm hn hp hpi
      go_enter Tryz.func16, Tryz.ntmps16
      go_wp2_with (first | (go_at_call 42; refine (array_any hv H tvs own _ _ _ _ (hh.out.up uq)).mono ?_; rintro e w' ⟨rfl, hu⟩; rw [hx.out]; obtain ⟨hc, hf⟩ := And.intro hu.cells hu.ice; have hz := hu.size; (try simp only [World.size_alloc] at hz); (try (have hz0 : w.heap.size < w'.heap.size := by omega))))
      go_ret
      exact ⟨by rw [ha.out]; rfl, uq⟩
  · have ha : Hid (H.lenOf n = 0) := by simp [Hid, HM.lenOf, ht]
    have hx : Hid (arrOf H tvs 5 n = .pointer none) := by simp [Hid, arrOf, ht]
    clear ht
    go_enter Tryz.func16, Tryz.ntmps16
    go_wp2_with (first | (go_at_call 42; refine (array_any hv H tvs own _ _ _ _ (hh.out.up uq)).mono ?_; rintro e w' ⟨rfl, hu⟩; rw [hx.out]; obtain ⟨hc, hf⟩ := And.intro hu.cells hu.ice; have hz := hu.size; (try simp only [World.size_alloc] at hz); (try (have hz0 : w.heap.size < w'.heap.size := by omega))))
    go_ret
    exact ⟨by rw [ha.out]; rfl, uq⟩

set_option maxHeartbeats 400000 in
theorem own_a_no (b : Nat) (s : ByteArray) (w : World) (hs : (s.toList == [108, 101, 110, 103, 116, 104]) = false) :
    Calls Tryz.prog 121 #[.pointer (some ⟨b, 0, none⟩), .string s] w fun e w' => e = .returned (.tuple #[.agg #[.int .i64 0, .int .i64 0, .string ⟨#[]⟩], .bool false]) ∧ Up w w' := by
  go_enter Tryz.func121, Tryz.ntmps121
  go_wp2
  refine bodyPost_eq (by (simp [results, Tryz.results121, go_sem, *]) <;> rfl) rfl rfl ⟨rfl, uq⟩

set_option maxHeartbeats 400000 in
theorem own_a_yes (b : Nat) (s : ByteArray) (w : World) (av : Option Addr) (len cap : Nat) (hb : b < w.heap.size) (hcell : w.cell? ⟨b, 0, none⟩ = some (.slice av len cap)) (hs : (s.toList == [108, 101, 110, 103, 116, 104]) = true) :
    Calls Tryz.prog 121 #[.pointer (some ⟨b, 0, none⟩), .string s] w fun e w' => e = .returned (.tuple #[.agg #[.int .i64 3, .int .i64 len, .string ⟨#[]⟩], .bool true]) ∧ Up w w' := by
  go_enter Tryz.func121, Tryz.ntmps121
  go_wp2_with (first | (go_at_call 47; refine (number_any _ _).mono ?_; rintro e w' ⟨rfl, hu⟩; obtain ⟨hc, hf⟩ := And.intro hu.cells hu.ice; have hz := hu.size; (try simp only [World.size_alloc] at hz); (try (have hz0 : w.heap.size < w'.heap.size := by omega))))
  refine bodyPost_eq (by (simp [results, Tryz.results121, go_sem, *]) <;> rfl) rfl rfl ⟨rfl, uq⟩

theorem zero_val (w : World) : (zeroValue 34).run Tryz.prog w = .ok (.agg #[.int .i64 0, .int .i64 0, .string ⟨#[]⟩]) w := by kernel_rfl

set_option maxHeartbeats 400000 in
theorem own_m_no (b : Nat) (s : ByteArray) (w : World) (own : Nat → Option (Nat × Nat)) (m : Nat × Nat) (mv kv : Value) (l : List (ByteArray × Val)) (hc : w.heap[b]? = some (.cells #[mv, kv] 94 (0, 0))) (hm : MapIs w own m mv l) (hs : ∀ x ∈ l, x.1 ≠ s) :
    Calls Tryz.prog 44 #[.pointer (some ⟨b, 0, none⟩), .string s] w fun e w' => e = .returned (.tuple #[.agg #[.int .i64 0, .int .i64 0, .string ⟨#[]⟩], .bool false]) ∧ Up w w' := by
  have hb := lt_of_heap hc
  have hcell := cell_of hc 0
  simp only [List.getElem?_toArray, List.getElem?_cons_zero] at hcell
  have hl : ∀ o, (Instr.lookup 91 mv (.string s) true).run Tryz.prog (w.alloc o) = .ok (.tuple #[.agg #[.int .i64 0, .int .i64 0, .string ⟨#[]⟩], .bool false]) (w.alloc o) := fun o => by
    rcases hm with ⟨rfl, rfl⟩ | ⟨g, es, clk, rfl, _, hg, hes⟩
    · exact (run_lookup_none Tryz.underlying91 Tryz.underlying9 strKeys (zero_val _) s).1
    · exact (run_lookup_miss Tryz.underlying91 Tryz.underlying9 strKeys (zero_val _) (Up.get uq hg) hes s hs).1
  clear hc hm hs
  go_enter Tryz.func44, Tryz.ntmps44
  go_wp2
  refine bodyPost_eq (by (simp [results, Tryz.results44, go_sem, *]) <;> rfl) rfl rfl ⟨rfl, uq⟩

set_option maxHeartbeats 400000 in
theorem own_m_yes (b : Nat) (s : ByteArray) (w : World) (own : Nat → Option (Nat × Nat)) (m : Nat × Nat) (mv kv : Value) (l : List (ByteArray × Val)) (hc : w.heap[b]? = some (.cells #[mv, kv] 94 (0, 0))) (hm : MapIs w own m mv l)
    (hn : (l.map (·.1)).Nodup) (j : Nat) (x : Val) (hs : l[j]? = some (s, x)) :
    Calls Tryz.prog 44 #[.pointer (some ⟨b, 0, none⟩), .string s] w fun e w' => e = .returned (.tuple #[.agg #[.int .i64 (x).k, .int .i64 (x).n, .string (x).s], .bool true]) ∧ Up w w' := by
  have hb := lt_of_heap hc
  have hcell := cell_of hc 0
  simp only [List.getElem?_toArray, List.getElem?_cons_zero] at hcell
  have hl : ∀ o, (Instr.lookup 91 mv (.string s) true).run Tryz.prog (w.alloc o) = .ok (.tuple #[.agg #[.int .i64 (x).k, .int .i64 (x).n, .string (x).s], .bool true]) (w.alloc o) := fun o => by
    rcases hm with ⟨rfl, rfl⟩ | ⟨g, es, clk, rfl, _, hg, hes⟩
    · simp at hs
    · exact (run_lookup_hit Tryz.underlying91 Tryz.underlying9 strKeys (Up.get uq hg) hes s x j hs hn).1
  clear hc hm hs hn
  go_enter Tryz.func44, Tryz.ntmps44
  go_wp2
  refine bodyPost_eq (by (simp [results, Tryz.results44, go_sem, *]) <;> rfl) rfl rfl ⟨rfl, uq⟩

end Go.Proofs.YtmbipadiaggolaaGreatDoor

/- Walks: find, Get, Has. -/
namespace Go.Proofs.YtmbipadiaggolaaGreatDoor
open Go.RowKit
attribute [local go_sem] ta_aa ta_ao ta_an ta_oa ta_oo ta_on m_kind_a m_kind_o m_behind_a m_behind_o m_own_a m_own_o

def lengthS : List UInt8 := [108, 101, 110, 103, 116, 104]

/-- a member of its own -/
def Thing.own (t : Thing) (s : ByteArray) : Option Val :=
  if t.kind = 2 then (if s.toList == lengthS then some ⟨3, t.vals.length, ⟨#[]⟩⟩ else none) else (t.slots.find? fun x => decide (x.1 = s)).map (·.2)

/-- a member of a thing, or of the nearest one behind it that has one -/
def HM.find (H : HM) (s : ByteArray) : Nat → Int → Option Val
  | 0, _ => none
  | f + 1, n => if n < 0 then none else match H.things[n.toNat]? with
    | none => none
    | some t => match t.own s with
      | some x => some x
      | none => H.find s f t.proto

def optV (r : Option Val) : Val := r.getD ⟨0, 0, ⟨#[]⟩⟩

def noMembers : ByteArray := ⟨#[84, 121, 112, 101, 69, 114, 114, 111, 114, 58, 32, 110, 111, 32, 109, 101, 109, 98, 101, 114, 115]⟩

/-- what stands behind a thing lies ahead of it -/
def HM.Tall (H : HM) : Prop := ∀ (i : Nat) (t : Thing), H.things[i]? = some t → -1 ≤ t.proto ∧ t.proto < i

theorem HM.find_fuel {H : HM} (hT : H.Tall) (s : ByteArray) : ∀ (f f' : Nat) (n : Int), n < f → n < f' → H.find s f n = H.find s f' n
  | 0, 0, _, _, _ => rfl
  | 0, f' + 1, n, h, _ => by simp only [HM.find]; rw [if_pos (by omega)]
  | f + 1, 0, n, _, h => by simp only [HM.find]; rw [if_pos (by omega)]
  | f + 1, f' + 1, n, h, h' => by
    simp only [HM.find]
    by_cases h0 : n < 0
    · rw [if_pos h0, if_pos h0]
    · rw [if_neg h0, if_neg h0]
      cases ht : H.things[n.toNat]? with
      | none => rfl
      | some t =>
        cases ho : t.own s with
        | some x => simp [ho]
        | none =>
          have := hT _ _ ht
          simp only [ho]
          exact HM.find_fuel hT s f f' t.proto (by omega) (by omega)

theorem ThingIs.tall {w : World} {own : Nat → Option (Nat × Nat)} {tvs : List Value} {i : Nat} {t : Thing} {v : Value} (h : ThingIs w own tvs i t v) : -1 ≤ t.proto ∧ t.proto < i := by
  cases h with
  | arr => exact ⟨Int.le_refl _, by simp; omega⟩
  | obj k p l b mv kv hk hp hpi => exact ⟨hp, hpi⟩

theorem Rep.tall {w : World} {hb : Nat} {H : HM} {tvs : List Value} {own : Nat → Option (Nat × Nat)} (h : Rep w hb H tvs own) : H.Tall := fun i t ht => by
  obtain ⟨tv, _, hi⟩ := h.things i t ht
  exact hi.tall

theorem HRep.tall {w : World} {hv : Value} {H : HM} {tvs : List Value} {own : Nat → Option (Nat × Nat)} (h : HRep w hv H tvs own) : H.Tall := by
  cases h with
  | nil => intro i t ht; simp at ht
  | some hb _ _ _ h => exact h.tall

theorem HM.find_at {H : HM} (hT : H.Tall) (s : ByteArray) (i : Nat) (t : Thing) (ht : H.things[i]? = some t) : H.find s (i + 1) i = match t.own s with | some x => some x | none => H.find s (t.proto + 1).toNat t.proto := by
  have hp := hT i t ht
  rw [HM.find, if_neg (by omega), Int.toNat_natCast, ht]
  simp only
  cases t.own s with
  | some x => rfl
  | none => exact HM.find_fuel hT s _ _ _ (by omega) (by omega)

/-- where a search stands -/
inductive FindAt (H : HM) (tvs : List Value) (s : ByteArray) (r : Option Val) : Nat → Value → Prop
  | stop (h : r = none) : FindAt H tvs s r 0 .nilIface
  | there (i : Nat) (t : Thing) (tv : Value) (h : H.things[i]? = some t) (hv : tvs[i]? = some tv) (hr : H.find s (i + 1) i = r) : FindAt H tvs s r (i + 1) tv

theorem things_at {w : World} {hv : Value} {H : HM} {tvs : List Value} {own : Nat → Option (Nat × Nat)} (h : HRep w hv H tvs own) {i : Nat} {t : Thing} {tv : Value} (ht : H.things[i]? = some t) (htv : tvs[i]? = some tv) : ThingIs w own tvs i t tv := by
  cases h with
  | nil => simp at ht
  | some hb _ _ _ h =>
    obtain ⟨tv', h1, h2⟩ := h.things i t ht
    rw [htv] at h1
    cases h1
    exact h2

theorem own_slots_miss {k p : Int} {l : List (ByteArray × Val)} {s : ByteArray} (hk : k = 1 ∨ k = 3 ∨ k = 4) (h : ∀ x ∈ l, x.1 ≠ s) : Thing.own ⟨k, p, l, []⟩ s = none := by
  have h2 : k ≠ 2 := by omega
  simp only [Thing.own, h2, if_false]
  rw [List.find?_eq_none.2]
  · rfl
  · intro x hx
    simpa using h x hx

theorem own_slots_hit {k p : Int} {l : List (ByteArray × Val)} {s : ByteArray} {j : Nat} {x : Val} (hk : k = 1 ∨ k = 3 ∨ k = 4) (hn : (l.map (·.1)).Nodup) (h : l[j]? = some (s, x)) : Thing.own ⟨k, p, l, []⟩ s = some x := by
  have h2 : k ≠ 2 := by omega
  simp only [Thing.own, h2, if_false]
  have hm : (s, x) ∈ l := List.mem_of_getElem? h
  cases hf : l.find? (fun x => decide (x.1 = s)) with
  | none =>
    have := List.find?_eq_none.1 hf _ hm
    simp at this
  | some y =>
    have h1 : y.1 = s := by simpa using List.find?_some hf
    obtain ⟨i, hi⟩ := List.getElem?_of_mem (List.mem_of_find?_eq_some hf)
    have a1 : (l.map (·.1))[i]? = some s := by rw [List.getElem?_map, hi]; simp [h1]
    have a2 : (l.map (·.1))[j]? = some s := by rw [List.getElem?_map, h]; simp
    have b1 : i < (l.map (·.1)).length := by
      rcases Nat.lt_or_ge i (l.map (·.1)).length with h' | h'
      · exact h'
      · rw [List.getElem?_eq_none h'] at a1; cases a1
    have : i = j := (List.getElem?_inj b1 hn).1 (a1.trans a2.symm)
    subst this
    rw [hi] at h
    cases h
    rfl

set_option maxHeartbeats 800000 in
theorem find_any (hv : Value) (H : HM) (tvs : List Value) (own : Nat → Option (Nat × Nat)) (s : ByteArray) (r : Option Val) (k0 : Nat) (tv0 : Value) (w : World) (h : HRep w hv H tvs own) (h0 : FindAt H tvs s r k0 tv0) :
    Calls Tryz.prog 48 #[tv0, .string s] w fun e w' => e = .returned (.tuple #[.agg #[.int .i64 (optV r).k, .int .i64 (optV r).n, .string (optV r).s], .bool r.isSome]) ∧ Up w w' := by
  have hh := Lib.hid h
  have hF := Lib.hid h0
  have hT := Lib.hid h.tall
  clear h h0
  go_enter Tryz.func48, Tryz.ntmps48
  go_wp2
  have hu0 : Up w (w.alloc (.cells #[.int .i64 0, .int .i64 0, .string ⟨#[]⟩] 34)) := uq
  go_loopg [0] k0 (fun k t wr => FindAt H tvs s r k t ∧ Up (w.alloc (.cells #[.int .i64 0, .int .i64 0, .string ⟨#[]⟩] 34)) wr)
  case atStart => exact ⟨hF.out, Up.refl _⟩
  case round =>
    obtain ⟨hrel, hu⟩ := hrel
    have hc := hu.cells
    have hf := hu.ice
    have hz := hu.size
    simp only [World.size_alloc] at hz
    have hlt : w.heap.size < wr.heap.size := by omega
    cases hrel with
    | stop hr =>
      have HR := Lib.hid hr
      clear hr
      go_wp2
      refine bodyPost_eq (by (simp [results, Tryz.results48, go_sem, *]) <;> rfl) rfl (by rw [HR.out]; rfl) ⟨rfl, uq⟩
    | there i t tv hth htv hr =>
      rw [HM.find_at hT.out s i t hth] at hr
      have hti := (things_at (hh.out.up (hu0.trans hu)) hth htv)
      cases hti with
      | arr vals b av hb hcb hrow =>
        obtain ⟨sa, cap, rfl, hm⟩ := ThingIs.arrow hrow
        have hcell := cell_of hcb 0
        have hblt := lt_of_heap hcb
        simp only [List.getElem?_toArray, List.getElem?_cons_zero] at hcell
        by_cases hs : (s.toList == lengthS) = true
        · have HR : Hid (r = some ⟨3, vals.length, ⟨#[]⟩⟩) := by simp [Hid, ← hr, Thing.own, hs]
          have HS := Lib.hid hs
          clear hr hb hcb hrow hth htv hs
          go_wp2_with (first | (go_at_call 121; refine (own_a_yes b s _ sa _ cap hblt hcell HS.out).mono ?_; rintro e w' ⟨rfl, hu⟩; obtain ⟨hc, hf⟩ := And.intro hu.cells hu.ice; have hz := hu.size; (try simp only [World.size_alloc] at hz); (try (have hz0 : w.heap.size < w'.heap.size := by omega))))
          refine bodyPost_eq (by (simp [results, Tryz.results48, go_sem, *]) <;> rfl) rfl (by rw [HR.out]; rfl) ⟨rfl, uq⟩
        · have HR : Hid (r = none) := by simp [Hid, ← hr, Thing.own, hs, HM.find]
          have HS := Lib.hid (show (s.toList == lengthS) = false by simpa using hs)
          clear hr hb hcb hrow hth htv hs
          go_wp2_with (first | (go_at_call 121; refine (own_a_no b s _ HS.out).mono ?_; rintro e w' ⟨rfl, hu⟩; obtain ⟨hc, hf⟩ := And.intro hu.cells hu.ice; have hz := hu.size; (try simp only [World.size_alloc] at hz); (try (have hz0 : w.heap.size < w'.heap.size := by omega))) | (go_at_call 119; refine (behind_a _ _).mono ?_; rintro e w' ⟨rfl, hu⟩; obtain ⟨hc, hf⟩ := And.intro hu.cells hu.ice; have hz := hu.size; (try simp only [World.size_alloc] at hz); (try (have hz0 : w.heap.size < w'.heap.size := by omega))))
          go_roundg 0
          case measure => omega
          case rel => exact ⟨.stop HR.out, uq⟩
      | obj k p l b mv kv hk hp hpi hb hcb hm hrow hn =>
        rcases slot_cases l s with hs | ⟨j, x, hs⟩
        · have HR : Hid (H.find s (p + 1).toNat p = r) := by rw [own_slots_miss hk hs] at hr; exact hr
          have HX := Lib.hid (And.intro hs (And.intro hcb hm))
          have hnext : Hid (FindAt H tvs s r (p + 1).toNat (protoV tvs p)) := by
            by_cases hp0 : p < 0
            · have : p = -1 := by omega
              subst this
              exact .stop (by rw [← HR.out]; rfl)
            · obtain ⟨q, rfl⟩ := Int.eq_ofNat_of_zero_le (by omega : 0 ≤ p)
              have hi : i < H.things.length := by
                rcases Nat.lt_or_ge i H.things.length with h' | h'
                · exact h'
                · rw [List.getElem?_eq_none h'] at hth; cases hth
              have hq : H.there (q : Int) = true := by simp [HM.there]; omega
              obtain ⟨_, tv', t', h1, h2, _⟩ := there_get hh.out hq
              rw [Int.toNat_natCast] at h1 h2
              have e1 : ((q : Int) + 1).toNat = q + 1 := by omega
              have e2 : protoV tvs (q : Int) = tv' := by
                unfold protoV
                rw [if_neg (by omega), Int.toNat_natCast, List.getD, h2]
                rfl
              rw [e1, e2]
              exact .there q t' tv' h1 h2 (by rw [← HR.out, e1])
          clear hr hb hcb hrow hth htv hs hk hm hn
          go_wp2_with (first | (go_at_call 44; refine (own_m_no b s _ own _ mv kv l HX.out.2.1 HX.out.2.2 HX.out.1).mono ?_; rintro e w' ⟨rfl, hu⟩; obtain ⟨hc, hf⟩ := And.intro hu.cells hu.ice; have hz := hu.size; (try simp only [World.size_alloc] at hz); (try (have hz0 : w.heap.size < w'.heap.size := by omega))) | (go_at_call 122; refine (behind_o _ _ _ _).mono ?_; rintro e w' ⟨rfl, hu⟩; obtain ⟨hc, hf⟩ := And.intro hu.cells hu.ice; have hz := hu.size; (try simp only [World.size_alloc] at hz); (try (have hz0 : w.heap.size < w'.heap.size := by omega))))
          go_roundg (p + 1).toNat
          case measure => omega
          case rel => exact ⟨hnext.out, uq⟩
        · have HR : Hid (r = some x) := by rw [own_slots_hit hk hn hs] at hr; exact hr.symm
          have HX := Lib.hid (And.intro hs (And.intro hcb (And.intro hm hn)))
          clear hr hb hcb hrow hth htv hs hk hm hn
          go_wp2_with (first | (go_at_call 44; refine (own_m_yes b s _ own _ mv kv l HX.out.2.1 HX.out.2.2.1 HX.out.2.2.2 j x HX.out.1).mono ?_; rintro e w' ⟨rfl, hu⟩; obtain ⟨hc, hf⟩ := And.intro hu.cells hu.ice; have hz := hu.size; (try simp only [World.size_alloc] at hz); (try (have hz0 : w.heap.size < w'.heap.size := by omega))))
          refine bodyPost_eq (by (simp [results, Tryz.results48, go_sem, *]) <;> rfl) rfl (by rw [HR.out]; rfl) ⟨rfl, uq⟩

/-- what Get answers: a value, a text that is thrown, a fault -/
def HM.get (H : HM) (x : Val) (s : ByteArray) (runes : Nat) : Val × ByteArray × Int :=
  let v := plainS H x
  if v.k = 0 ∨ v.k = 1 then (⟨0, 0, ⟨#[]⟩⟩, noMembers, 1)
  else if v.k = 4 then (if s.toList == lengthS then (⟨3, runes, ⟨#[]⟩⟩, ⟨#[]⟩, 0) else (⟨0, 0, ⟨#[]⟩⟩, ⟨#[]⟩, 0))
  else if v.k = 5 then (optV (H.find s (v.n + 1).toNat v.n), ⟨#[]⟩, 0)
  else (⟨0, 0, ⟨#[]⟩⟩, ⟨#[]⟩, 0)

end Go.Proofs.YtmbipadiaggolaaGreatDoor

/- append on a row of one's own: where the new row lies. -/
namespace Go.Proofs.YtmbipadiaggolaaGreatDoor
open Go.RowKit
section
variable {P : Program} {w : World}

theorem ownsRow_form {base : Nat} {e : TypeId} {size : Nat} {v : Value} {n : Nat} {xs : List Value} (h : w.ownsRow base e size v n xs) : ∃ sa cap, v = .slice sa n cap := by
  rcases h.2 with ⟨rfl, rfl⟩ | ⟨g, cap, cur, rfl, _⟩
  · exact ⟨none, 0, rfl⟩
  · exact ⟨_, cap, rfl⟩

theorem run_append_row (t ty e : TypeId) (i : TypeInfo) (z : Value) (size bytes : Nat) (ht : P.underlying t = some (.slice e)) (hi : P.info? e = some i) (hz : i.zero = some z)
    (hsize : i.size = size) (hby : i.bytes = bytes) (hzs : z.cells.size = size) (hsz : 0 < size)
    (v : Value) (n : Nat) (xs : List Value) (hown : w.ownsRow 0 e size v n xs)
    (a : Addr) (m c : Nat) (news : List Value) (hl : news.length = m * size) (hnews : ∀ j u, news[j]? = some u → w.cell? (a.add j) = some u) (h1 : ∀ u ∈ news, u.oneCell' = true)
    (h63 : n + m ≤ maxLen) (hbytes : (n + m) * bytes ≤ 140737488355328) :
    ∃ sa cap w', (Builtin.append_ #[t, t] ty #[v, .slice (some a) m c]).run P w = .ok (.slice sa (n + m) cap) w' ∧ w'.ownsRow 0 e size (.slice sa (n + m) cap) (n + m) (xs ++ news) ∧ w.grownBy w' v.ownBlock ∧
      ((Value.slice sa (n + m) cap).ownBlock = v.ownBlock ∨ ∃ g, (Value.slice sa (n + m) cap).ownBlock = some g ∧ w.heap.size ≤ g) := by
  obtain ⟨v', w', hr, ho, hg, _⟩ := run_append_own (P := P) w 0 t ty e i z size bytes ht hi hz hsize hby hzs hsz v n xs hown a m c news hl hnews h1 h63 hbytes (Nat.zero_le _)
  obtain ⟨sa, cap, rfl⟩ := ownsRow_form ho
  refine ⟨sa, cap, w', hr, ho, hg, ?_⟩
  subst hsize
  subst hby
  have hsmall : n + m ≤ 9223372036854775807 := by simp only [maxLen] at h63; omega
  rcases hown.2 with ⟨rfl, rfl⟩ | ⟨g, cap0, cur, rfl, _, hgb, hnc, hcm, hcs, htake⟩
  · by_cases hm : m = 0
    · subst hm
      left
      rcases ho.2 with ⟨h, _⟩ | ⟨g, cap', cur', h, _, _, _, _, _, _⟩
      · rw [h]
      · cases sa with
        | none => rfl
        | some a' =>
          exfalso
          have hn : news = [] := List.eq_nil_of_length_eq_zero (by simpa using hl)
          have : (Builtin.append_ #[t, t] ty #[.slice none 0 0, .slice (some a) 0 c]).run P w = .ok (.slice none 0 0) w := by
            simp [Builtin.append_, run_underlying ht, sizeOf, typeInfo, hi, Builtin.lenOf, Builtin.firstCells, loadCells, loadCellsFrom]
          rw [this] at hr
          simp at hr
    · right
      have hr2 := run_append_nil (P := P) w t ty e i z ht hi hz a m c news hl hnews (by omega) (by omega) (by have hb := hbytes; simp only [Nat.zero_add] at hb; omega)
      rw [hr2] at hr
      injection hr with h1 h2
      injection h1 with h3 h4 h5
      subst h3
      exact ⟨_, rfl, Nat.le_refl _⟩
  · by_cases hroom : n + m ≤ cap0
    · have hfit : n * i.size + news.length ≤ cur.size := by rw [hl, hcs, ← Nat.add_mul]; exact Nat.mul_le_mul_right _ hroom
      have hr2 := run_append_room (P := P) w t ty e i ht hi g n cap0 cur hgb a m c news hl hnews h1 hroom hfit
      rw [hr2] at hr
      injection hr with h1 h2
      injection h1 with h3 h4 h5
      subst h3
      exact .inl rfl
    · have holds : ∀ j u, xs[j]? = some u → w.cell? ((⟨g, 0, none⟩ : Addr).add j) = some u := hown.cells (g := g) rfl
      have hr2 := run_append_grow (P := P) w t ty e i z ht hi hz ⟨g, 0, none⟩ n cap0 xs hown.1 holds a m c news hl hnews (by omega) (by omega) (growslice_fits (by omega) hbytes)
      rw [hr2] at hr
      injection hr with h1 h2
      injection h1 with h3 h4 h5
      subst h3
      exact .inr ⟨_, rfl, Nat.le_refl _⟩

theorem wp_append_row {o : Oper} {a : Act} {K : Act → World → Prop} {Q : Exit → Act → World → Prop} (s x : Operand) (t : TypeId)
    (ho : o.op = .call { callee := .builtin .append, args := #[s, x], argTypes := #[t, t] })
    (e : TypeId) (i : TypeInfo) (z : Value) (size bytes : Nat) (ht : P.underlying t = some (.slice e)) (hi : P.info? e = some i) (hz : i.zero = some z)
    (hsize : i.size = size) (hby : i.bytes = bytes) (hzs : z.cells.size = size) (hsz : 0 < size)
    (v : Value) (n : Nat) (xs : List Value) (hs : a.eval s = v) (hown : w.ownsRow 0 e size v n xs)
    (ad : Addr) (m c : Nat) (news : List Value) (hx : a.eval x = .slice (some ad) m c) (hl : news.length = m * size) (hnews : ∀ j u, news[j]? = some u → w.cell? (ad.add j) = some u) (h1 : ∀ u ∈ news, u.oneCell' = true)
    (h63 : n + m ≤ maxLen) (hbytes : (n + m) * bytes ≤ 140737488355328)
    (h : ∀ sa cap w', w'.ownsRow 0 e size (.slice sa (n + m) cap) (n + m) (xs ++ news) → w.grownBy w' v.ownBlock →
      ((Value.slice sa (n + m) cap).ownBlock = v.ownBlock ∨ ∃ g, (Value.slice sa (n + m) cap).ownBlock = some g ∧ w.heap.size ≤ g) → K (a.put o.dst (.slice sa (n + m) cap)) w') : o.wp P a w K Q := by
  obtain ⟨sa, cap, w', hr, h2, h3, h4⟩ := run_append_row (P := P) (w := w) t o.type e i z size bytes ht hi hz hsize hby hzs hsz v n xs hown ad m c news hl hnews h1 h63 hbytes
  unfold Oper.wp execOp
  simp only [ho, resolve, invoke, builtin, Sem.run_bind, Sem.run_pure, Result.andThen_ok, List.map_toArray, List.map_cons, List.map_nil, hs, hx, hr]
  exact h sa cap w' h2 h3 h4

theorem wpList_append_row {ops : Array Oper} {rest : List Oper} {o : Oper} {a : Act} {Q : Exit → Act → World → Prop} (hgd : o.guard = none) (s x : Operand) (t : TypeId)
    (ho : o.op = .call { callee := .builtin .append, args := #[s, x], argTypes := #[t, t] })
    (e : TypeId) (i : TypeInfo) (z : Value) (size bytes : Nat) (ht : P.underlying t = some (.slice e)) (hi : P.info? e = some i) (hz : i.zero = some z)
    (hsize : i.size = size) (hby : i.bytes = bytes) (hzs : z.cells.size = size) (hsz : 0 < size)
    (v : Value) (n : Nat) (xs : List Value) (hs : a.eval s = v) (hown : w.ownsRow 0 e size v n xs)
    (ad : Addr) (m c : Nat) (news : List Value) (hx : a.eval x = .slice (some ad) m c) (hl : news.length = m * size) (hnews : ∀ j u, news[j]? = some u → w.cell? (ad.add j) = some u) (h1 : ∀ u ∈ news, u.oneCell' = true)
    (h63 : n + m ≤ maxLen) (hbytes : (n + m) * bytes ≤ 140737488355328)
    (h : ∀ sa cap w', w'.ownsRow 0 e size (.slice sa (n + m) cap) (n + m) (xs ++ news) → w.grownBy w' v.ownBlock →
      ((Value.slice sa (n + m) cap).ownBlock = v.ownBlock ∨ ∃ g, (Value.slice sa (n + m) cap).ownBlock = some g ∧ w.heap.size ≤ g) → wpList P ops Q rest (a.put o.dst (.slice sa (n + m) cap)) w') : wpList P ops Q (o :: rest) a w :=
  wpList_plain hgd fun _ hK => wp_append_row s x t ho e i z size bytes ht hi hz hsize hby hzs hsz v n xs hs hown ad m c news hx hl hnews h1 h63 hbytes fun sa cap w' h2 h3 h4 => hK _ _ (h sa cap w' h2 h3 h4)

theorem cells_new (W : World) (cs : Array Value) (te : TypeId) (b : Nat) (hb : b = W.heap.size) : ∀ (j : Nat) (u : Value), cs.toList[j]? = some u → (W.alloc (.cells cs te)).cell? ((⟨b, 0, none⟩ : Addr).add j) = some u := by
  intro j u hj
  have h1 : (W.alloc (.cells cs te)).heap[b]? = some (.cells cs te (0, 0)) := by rw [hb]; exact alloc_get _ _
  unfold Addr.add
  split
  · rename_i h0
    subst h0
    simp only [World.cell?, h1]
    simpa using hj
  · simp only [World.cell?, h1]
    simpa using hj

/-- append of elements that the operation ahead has laid into a block of their own -/
theorem wpList_append_new {W : World} {cs : Array Value} {te : TypeId} {ops : Array Oper} {rest : List Oper} {o : Oper} {a : Act} {Q : Exit → Act → World → Prop} (hgd : o.guard = none) (s x : Operand) (t : TypeId)
    (ho : o.op = .call { callee := .builtin .append, args := #[s, x], argTypes := #[t, t] })
    (e : TypeId) (i : TypeInfo) (z : Value) (size bytes : Nat) (ht : P.underlying t = some (.slice e)) (hi : P.info? e = some i) (hz : i.zero = some z)
    (hsize : i.size = size) (hby : i.bytes = bytes) (hzs : z.cells.size = size) (hsz : 0 < size)
    (v : Value) (n : Nat) (xs : List Value) (hs : a.eval s = v) (hown : (W.alloc (.cells cs te)).ownsRow 0 e size v n xs)
    (b m c : Nat) (hx : a.eval x = .slice (some ⟨b, 0, none⟩) m c) (hb : b = W.heap.size) (hl : cs.size = m * size) (h1 : ∀ u ∈ cs.toList, u.oneCell' = true)
    (h63 : n + m ≤ maxLen) (hbytes : (n + m) * bytes ≤ 140737488355328)
    (h : ∀ sa cap w', w'.ownsRow 0 e size (.slice sa (n + m) cap) (n + m) (xs ++ cs.toList) → (W.alloc (.cells cs te)).grownBy w' v.ownBlock →
      ((Value.slice sa (n + m) cap).ownBlock = v.ownBlock ∨ ∃ g, (Value.slice sa (n + m) cap).ownBlock = some g ∧ W.heap.size + 1 ≤ g) → wpList P ops Q rest (a.put o.dst (.slice sa (n + m) cap)) w') : wpList P ops Q (o :: rest) a (W.alloc (.cells cs te)) :=
  wpList_append_row hgd s x t ho e i z size bytes ht hi hz hsize hby hzs hsz v n xs hs hown ⟨b, 0, none⟩ m c cs.toList hx (by rw [Array.length_toList]; exact hl) (cells_new W cs te b hb) h1 h63 hbytes
    (fun sa cap w' g1 g2 g3 => h sa cap w' g1 g2 (by simpa only [World.size_alloc] using g3))
end

/-- a block of cells behind a store -/
theorem setCell_block {w : World} {b i : Nat} {cs : Array Value} {t : TypeId} {f : Nat × Nat} (h : w.heap[b]? = some (.cells cs t f)) (v : Value) : (w.setCell ⟨b, i, none⟩ v).heap[b]? = some (.cells (cs.setIfInBounds i v) t f) := by
  simp [World.setCell, Array.getElem?_modify, h]
theorem setCell_other {w : World} {b c i : Nat} (h : c ≠ b) (v : Value) : (w.setCell ⟨b, i, none⟩ v).heap[c]? = w.heap[c]? := Below.heap_setCell _ _ _ _ (by simpa using h)
theorem setCell_size (w : World) (a : Addr) (v : Value) : (w.setCell a v).heap.size = w.heap.size := by simp [World.setCell]
end Go.Proofs.YtmbipadiaggolaaGreatDoor
