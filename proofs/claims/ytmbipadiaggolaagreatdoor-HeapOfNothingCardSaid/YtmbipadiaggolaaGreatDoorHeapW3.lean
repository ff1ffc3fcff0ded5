import Derived.Test.YtmbipadiaggolaaGreatDoorHeapW2
/- Walks: Used, New, Len, own, find, Get. -/
namespace Go.Proofs.YtmbipadiaggolaaGreatDoor
open Go.RowKit
attribute [local go_sem] ta_aa ta_ao ta_an ta_oa ta_oo ta_on m_kind_a m_kind_o m_behind_a m_behind_o m_own_a m_own_o

theorem Used_any (hv : Value) (H : HM) (tvs : List Value) (own : Nat → Option (Nat × Nat)) (w : World) (h : HRep w hv H tvs own) :
    Calls Tryz.prog 11 #[hv] w fun e w' => e = .returned (.int .i64 H.used) ∧ w = w' := by
  cases h with
  | nil =>
    go_enter Tryz.func11, Tryz.ntmps11
    go_wp2
    go_ret
    exact ⟨rfl, rfl⟩
  | some hb _ _ _ h =>
    obtain ⟨sv, h1, _⟩ := h.head
    have hc := cell_of h1 1
    simp only [List.getElem?_toArray, List.getElem?_cons_succ, List.getElem?_cons_zero] at hc
    clear h1 h
    go_enter Tryz.func11, Tryz.ntmps11
    go_wp2
    go_ret
    exact ⟨rfl, rfl⟩

theorem New_bad (n : Int) (w : World) (hn : n < 0 ∨ 1048576 < n) :
    Calls Tryz.prog 8 #[.int .i64 n] w fun e w' => e = .returned (.tuple #[.pointer none, .int .i64 1]) ∧ w = w' := by
  rcases hn with hn | hn
  · go_enter Tryz.func8, Tryz.ntmps8
    go_wp2
    go_ret2
    exact ⟨rfl, rfl⟩
  · have hn' : ¬ n < 0 := by omega
    go_enter Tryz.func8, Tryz.ntmps8
    go_wp2
    go_ret2
    exact ⟨rfl, rfl⟩

theorem New_good (n : Int) (w : World) (h0 : 0 ≤ n) (h1 : n ≤ 1048576) :
    Calls Tryz.prog 8 #[.int .i64 n] w fun e w' => e = .returned (.tuple #[.pointer (some ⟨w.heap.size, 0, none⟩), .int .i64 0]) ∧
      w' = w.alloc (.cells #[.int .i64 n, .int .i64 0, .slice none 0 0] 46) := by
  have hn : ¬ n < 0 := by omega
  have hn' : ¬ 1048576 < n := by omega
  go_enter Tryz.func8, Tryz.ntmps8
  go_wp2
  go_ret2
  exact ⟨rfl, rfl⟩

theorem Rep.fresh (n : Int) (w : World) (h0 : 0 ≤ n) (h1 : n ≤ 1048576) :
    Rep (w.alloc (.cells #[.int .i64 n, .int .i64 0, .slice none 0 0] 46)) w.heap.size ⟨n, 0, []⟩ [] (fun b => if b = w.heap.size then some (0, 0) else none) where
  lt b m hm := by
    split at hm
    · rename_i h; subst h; simp
    · cases hm
  mine := by simp
  head := ⟨.slice none 0 0, alloc_get _ _, ⟨by simp, .inl ⟨rfl, rfl⟩⟩, fun g hg => by simp [Value.ownBlock] at hg⟩
  len := rfl
  things i t ht := by simp at ht
  room0 := Int.le_refl 0
  roomU := h0
  roomM := h1
  few := by simp [sizes]

/-- how many values an array has; 0: it is none -/
def HM.lenOf (H : HM) (n : Int) : Int := if H.there n = true then (H.things[n.toNat]?.map (fun t => (t.vals.length : Int))).getD 0 else 0

/-- the one cell of an array -/
theorem ThingIs.arrow {w : World} {own : Nat → Option (Nat × Nat)} {av : Value} {m : Nat × Nat} {n : Nat} {xs : List Value} {e : TypeId} {sz : Nat} (h : Row w own m e sz av n xs) : ∃ sa cap, av = .slice sa n cap ∧ n ≤ maxLen := by
  obtain ⟨⟨hl, h2⟩, h3⟩ := h
  rcases h2 with ⟨rfl, rfl⟩ | ⟨g, cap, cur, rfl, _, hg, h4, h5, _⟩
  · exact ⟨none, 0, rfl, by simp [maxLen]⟩
  · exact ⟨_, cap, rfl, by omega⟩

set_option maxHeartbeats 400000 in
theorem Len_any (hv : Value) (H : HM) (tvs : List Value) (own : Nat → Option (Nat × Nat)) (n : Int) (w : World) (h : HRep w hv H tvs own) :
    Calls Tryz.prog 16 #[hv, .int .i64 n] w fun e w' => e = .returned (.int .i64 (H.lenOf n)) ∧ Up w w' := by
  have hh := Lib.hid h
  clear h
  by_cases ht : H.there n = true
  · obtain ⟨h0, tv, t, hth, htv, hti⟩ := there_get hh.out ht
    cases hti with
    | arr vals b av hb hc hr =>
      obtain ⟨sa, cap, rfl, hm⟩ := ThingIs.arrow hr
      have ha : Hid (H.lenOf n = vals.length) := by simp [Hid, HM.lenOf, ht, hth]
      have hx : Hid (arrOf H tvs 5 n = .pointer (some ⟨b, 0, none⟩)) := by simp [Hid, arrOf, ht, List.getD, htv]
      have hb0 := lt_of_heap hc
      have hcell := cell_of hc 0
      simp only [List.getElem?_toArray, List.getElem?_cons_zero] at hcell
      clear htv ht hth hb hc hr
      go_enter Tryz.func16, Tryz.ntmps16
      go_wp2_with (first | (go_at_call 42; refine (array_any hv H tvs own _ _ _ _ (hh.out.up (by repeat (first | with_reducible exact Up.refl _ | with_reducible assumption | with_reducible refine Up.drewN ?_ _ | with_reducible refine Up.drew ?_ | with_reducible refine Up.alloc ?_ _ | with_reducible refine Up.setCell ?_ (by first | omega | (simp; done) | (simp; omega)) _ | with_reducible refine Up.trans ?_ (by assumption))))).mono ?_; rintro e w' ⟨rfl, hu⟩; rw [hx.out]; obtain ⟨hc, hf⟩ := And.intro hu.cells hu.ice; have hz := hu.size; (try simp only [World.size_alloc] at hz); (try (have hz0 : w.heap.size < w'.heap.size := by omega))))
      go_ret
      exact ⟨by rw [ha.out]; rfl, (by repeat (first | with_reducible exact Up.refl _ | with_reducible assumption | with_reducible refine Up.drewN ?_ _ | with_reducible refine Up.drew ?_ | with_reducible refine Up.alloc ?_ _ | with_reducible refine Up.setCell ?_ (by first | omega | (simp; done) | (simp; omega)) _ | with_reducible refine Up.trans ?_ (by assumption)))⟩
    | obj k' p l b mv kv hk' hp hpi hb hc hm hr hn =>
      have ha : Hid (H.lenOf n = 0) := by simp [Hid, HM.lenOf, ht, hth]
      have hx : Hid (arrOf H tvs 5 n = .pointer none) := by simp [Hid, arrOf, ht, List.getD, htv]
      clear htv ht hth hb hc hr hk' hm hn hp hpi
      go_enter Tryz.func16, Tryz.ntmps16
      go_wp2_with (first | (go_at_call 42; refine (array_any hv H tvs own _ _ _ _ (hh.out.up (by repeat (first | with_reducible exact Up.refl _ | with_reducible assumption | with_reducible refine Up.drewN ?_ _ | with_reducible refine Up.drew ?_ | with_reducible refine Up.alloc ?_ _ | with_reducible refine Up.setCell ?_ (by first | omega | (simp; done) | (simp; omega)) _ | with_reducible refine Up.trans ?_ (by assumption))))).mono ?_; rintro e w' ⟨rfl, hu⟩; rw [hx.out]; obtain ⟨hc, hf⟩ := And.intro hu.cells hu.ice; have hz := hu.size; (try simp only [World.size_alloc] at hz); (try (have hz0 : w.heap.size < w'.heap.size := by omega))))
      go_ret
      exact ⟨by rw [ha.out]; rfl, (by repeat (first | with_reducible exact Up.refl _ | with_reducible assumption | with_reducible refine Up.drewN ?_ _ | with_reducible refine Up.drew ?_ | with_reducible refine Up.alloc ?_ _ | with_reducible refine Up.setCell ?_ (by first | omega | (simp; done) | (simp; omega)) _ | with_reducible refine Up.trans ?_ (by assumption)))⟩
  · have ha : Hid (H.lenOf n = 0) := by simp [Hid, HM.lenOf, ht]
    have hx : Hid (arrOf H tvs 5 n = .pointer none) := by simp [Hid, arrOf, ht]
    clear ht
    go_enter Tryz.func16, Tryz.ntmps16
    go_wp2_with (first | (go_at_call 42; refine (array_any hv H tvs own _ _ _ _ (hh.out.up (by repeat (first | with_reducible exact Up.refl _ | with_reducible assumption | with_reducible refine Up.drewN ?_ _ | with_reducible refine Up.drew ?_ | with_reducible refine Up.alloc ?_ _ | with_reducible refine Up.setCell ?_ (by first | omega | (simp; done) | (simp; omega)) _ | with_reducible refine Up.trans ?_ (by assumption))))).mono ?_; rintro e w' ⟨rfl, hu⟩; rw [hx.out]; obtain ⟨hc, hf⟩ := And.intro hu.cells hu.ice; have hz := hu.size; (try simp only [World.size_alloc] at hz); (try (have hz0 : w.heap.size < w'.heap.size := by omega))))
    go_ret
    exact ⟨by rw [ha.out]; rfl, (by repeat (first | with_reducible exact Up.refl _ | with_reducible assumption | with_reducible refine Up.drewN ?_ _ | with_reducible refine Up.drew ?_ | with_reducible refine Up.alloc ?_ _ | with_reducible refine Up.setCell ?_ (by first | omega | (simp; done) | (simp; omega)) _ | with_reducible refine Up.trans ?_ (by assumption)))⟩

set_option maxHeartbeats 400000 in
theorem own_a_no (b : Nat) (s : ByteArray) (w : World) (hs : (s.toList == [108, 101, 110, 103, 116, 104]) = false) :
    Calls Tryz.prog 121 #[.pointer (some ⟨b, 0, none⟩), .string s] w fun e w' => e = .returned (.tuple #[.agg #[.int .i64 0, .int .i64 0, .string ⟨#[]⟩], .bool false]) ∧ Up w w' := by
  go_enter Tryz.func121, Tryz.ntmps121
  go_wp2
  refine bodyPost_eq (by (simp [results, Tryz.results121, go_sem, *]) <;> rfl) rfl rfl ⟨rfl, (by repeat (first | with_reducible exact Up.refl _ | with_reducible assumption | with_reducible refine Up.drewN ?_ _ | with_reducible refine Up.drew ?_ | with_reducible refine Up.alloc ?_ _ | with_reducible refine Up.setCell ?_ (by first | omega | (simp; done) | (simp; omega)) _ | with_reducible refine Up.trans ?_ (by assumption)))⟩

set_option maxHeartbeats 400000 in
theorem own_a_yes (b : Nat) (s : ByteArray) (w : World) (av : Option Addr) (len cap : Nat) (hb : b < w.heap.size) (hcell : w.cell? ⟨b, 0, none⟩ = some (.slice av len cap)) (hs : (s.toList == [108, 101, 110, 103, 116, 104]) = true) :
    Calls Tryz.prog 121 #[.pointer (some ⟨b, 0, none⟩), .string s] w fun e w' => e = .returned (.tuple #[.agg #[.int .i64 3, .int .i64 len, .string ⟨#[]⟩], .bool true]) ∧ Up w w' := by
  go_enter Tryz.func121, Tryz.ntmps121
  go_wp2_with (first | (go_at_call 47; refine (number_any _ _).mono ?_; rintro e w' ⟨rfl, hu⟩; obtain ⟨hc, hf⟩ := And.intro hu.cells hu.ice; have hz := hu.size; (try simp only [World.size_alloc] at hz); (try (have hz0 : w.heap.size < w'.heap.size := by omega))))
  refine bodyPost_eq (by (simp [results, Tryz.results121, go_sem, *]) <;> rfl) rfl rfl ⟨rfl, (by repeat (first | with_reducible exact Up.refl _ | with_reducible assumption | with_reducible refine Up.drewN ?_ _ | with_reducible refine Up.drew ?_ | with_reducible refine Up.alloc ?_ _ | with_reducible refine Up.setCell ?_ (by first | omega | (simp; done) | (simp; omega)) _ | with_reducible refine Up.trans ?_ (by assumption)))⟩

theorem zero_val (w : World) : (zeroValue 34).run Tryz.prog w = .ok (.agg #[.int .i64 0, .int .i64 0, .string ⟨#[]⟩]) w := by kernel_rfl

set_option maxHeartbeats 400000 in
theorem own_m_no (b : Nat) (s : ByteArray) (w : World) (own : Nat → Option (Nat × Nat)) (m : Nat × Nat) (mv kv : Value) (l : List (ByteArray × Val)) (hc : w.heap[b]? = some (.cells #[mv, kv] 94 (0, 0))) (hm : MapIs w own m mv l) (hs : ∀ x ∈ l, x.1 ≠ s) :
    Calls Tryz.prog 44 #[.pointer (some ⟨b, 0, none⟩), .string s] w fun e w' => e = .returned (.tuple #[.agg #[.int .i64 0, .int .i64 0, .string ⟨#[]⟩], .bool false]) ∧ Up w w' := by
  have hb := lt_of_heap hc
  have hcell := cell_of hc 0
  simp only [List.getElem?_toArray, List.getElem?_cons_zero] at hcell
  have hl : ∀ o, (Instr.lookup 91 mv (.string s) true).run Tryz.prog (w.alloc o) = .ok (.tuple #[.agg #[.int .i64 0, .int .i64 0, .string ⟨#[]⟩], .bool false]) (w.alloc o) := fun o => by
    rcases hm with ⟨rfl, rfl⟩ | ⟨g, es, clk, rfl, _, hg, hes⟩
    · exact (run_lookup_none Tryz.underlying91 Tryz.underlying9 strKeys (zero_val _) s).1
    · exact (run_lookup_miss Tryz.underlying91 Tryz.underlying9 strKeys (zero_val _) (Up.get (by repeat (first | with_reducible exact Up.refl _ | with_reducible assumption | with_reducible refine Up.drewN ?_ _ | with_reducible refine Up.drew ?_ | with_reducible refine Up.alloc ?_ _ | with_reducible refine Up.setCell ?_ (by first | omega | (simp; done) | (simp; omega)) _ | with_reducible refine Up.trans ?_ (by assumption))) hg) hes s hs).1
  clear hc hm hs
  go_enter Tryz.func44, Tryz.ntmps44
  go_wp2
  refine bodyPost_eq (by (simp [results, Tryz.results44, go_sem, *]) <;> rfl) rfl rfl ⟨rfl, (by repeat (first | with_reducible exact Up.refl _ | with_reducible assumption | with_reducible refine Up.drewN ?_ _ | with_reducible refine Up.drew ?_ | with_reducible refine Up.alloc ?_ _ | with_reducible refine Up.setCell ?_ (by first | omega | (simp; done) | (simp; omega)) _ | with_reducible refine Up.trans ?_ (by assumption)))⟩

set_option maxHeartbeats 400000 in
theorem own_m_yes (b : Nat) (s : ByteArray) (w : World) (own : Nat → Option (Nat × Nat)) (m : Nat × Nat) (mv kv : Value) (l : List (ByteArray × Val)) (hc : w.heap[b]? = some (.cells #[mv, kv] 94 (0, 0))) (hm : MapIs w own m mv l)
    (hn : (l.map (·.1)).Nodup) (j : Nat) (x : Val) (hs : l[j]? = some (s, x)) :
    Calls Tryz.prog 44 #[.pointer (some ⟨b, 0, none⟩), .string s] w fun e w' => e = .returned (.tuple #[.agg #[.int .i64 (x).k, .int .i64 (x).n, .string (x).s], .bool true]) ∧ Up w w' := by
  have hb := lt_of_heap hc
  have hcell := cell_of hc 0
  simp only [List.getElem?_toArray, List.getElem?_cons_zero] at hcell
  have hl : ∀ o, (Instr.lookup 91 mv (.string s) true).run Tryz.prog (w.alloc o) = .ok (.tuple #[.agg #[.int .i64 (x).k, .int .i64 (x).n, .string (x).s], .bool true]) (w.alloc o) := fun o => by
    rcases hm with ⟨rfl, rfl⟩ | ⟨g, es, clk, rfl, _, hg, hes⟩
    · simp at hs
    · exact (run_lookup_hit Tryz.underlying91 Tryz.underlying9 strKeys (Up.get (by repeat (first | with_reducible exact Up.refl _ | with_reducible assumption | with_reducible refine Up.drewN ?_ _ | with_reducible refine Up.drew ?_ | with_reducible refine Up.alloc ?_ _ | with_reducible refine Up.setCell ?_ (by first | omega | (simp; done) | (simp; omega)) _ | with_reducible refine Up.trans ?_ (by assumption))) hg) hes s x j hs hn).1
  clear hc hm hs hn
  go_enter Tryz.func44, Tryz.ntmps44
  go_wp2
  refine bodyPost_eq (by (simp [results, Tryz.results44, go_sem, *]) <;> rfl) rfl rfl ⟨rfl, (by repeat (first | with_reducible exact Up.refl _ | with_reducible assumption | with_reducible refine Up.drewN ?_ _ | with_reducible refine Up.drew ?_ | with_reducible refine Up.alloc ?_ _ | with_reducible refine Up.setCell ?_ (by first | omega | (simp; done) | (simp; omega)) _ | with_reducible refine Up.trans ?_ (by assumption)))⟩

end Go.Proofs.YtmbipadiaggolaaGreatDoor
