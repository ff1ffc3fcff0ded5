import Derived.Test.YtmbipadiaggolaaGreatDoorHeapW1
import Derived.Deep.Light
/- Walks: plain, array, Kind, Len, Used, New, takes. -/
namespace Go.Proofs.YtmbipadiaggolaaGreatDoor
open Go.RowKit
attribute [local go_sem] ta_aa ta_ao ta_an ta_oa ta_oo ta_on m_kind_a m_kind_o m_behind_a m_behind_o m_own_a m_own_o


theorem there_get {w : World} {hv : Value} {H : HM} {tvs : List Value} {own : Nat → Option (Nat × Nat)} (h : HRep w hv H tvs own) {n : Int} (h0 : H.there n = true) :
    0 ≤ n ∧ ∃ tv t, H.things[n.toNat]? = some t ∧ tvs[n.toNat]? = some tv ∧ ThingIs w own tvs n.toNat t tv := by
  simp only [HM.there, Bool.and_eq_true, decide_eq_true_eq] at h0
  obtain ⟨h1, h2⟩ := h0
  refine ⟨h1, ?_⟩
  have hlt : n.toNat < H.things.length := by omega
  cases h with
  | nil => simp at hlt
  | some hb _ _ _ h =>
    obtain ⟨tv, h3, h4⟩ := h.things n.toNat _ (List.getElem?_eq_getElem hlt)
    exact ⟨tv, _, List.getElem?_eq_getElem hlt, h3, h4⟩

theorem ThingIs.iface {w : World} {own : Nat → Option (Nat × Nat)} {tvs : List Value} {i : Nat} {t : Thing} {v : Value} (h : ThingIs w own tvs i t v) : ∃ T x, v = .iface T x := by
  cases h <;> exact ⟨_, _, rfl⟩

set_option maxHeartbeats 800000 in
theorem plain_any (hv : Value) (H : HM) (tvs : List Value) (own : Nat → Option (Nat × Nat)) (k n : Int) (s : ByteArray) (w : World) (h : HRep w hv H tvs own) :
    Calls Tryz.prog 35 #[hv, .agg #[.int .i64 k, .int .i64 n, .string s]] w fun e w' => e = .returned (.agg #[.int .i64 (plainS H ⟨k, n, s⟩).k, .int .i64 (plainS H ⟨k, n, s⟩).n, .string (plainS H ⟨k, n, s⟩).s]) ∧ Up w w' := by
  have hh := Lib.hid h
  clear h
  by_cases ht : H.there n = true
  · obtain ⟨h0, tv, t, _, htv, hti⟩ := there_get hh.out ht
    obtain ⟨T, x, rfl⟩ := hti.iface
    have HH := Lib.hid htv
    have HT := Lib.hid ht
    clear htv hti ht
    go_enter Tryz.func35, Tryz.ntmps35
    go_wp2_with (first | (go_at_call 55; go_in) | (go_at_call 47; refine (number_any _ _).mono ?_; rintro e w' ⟨rfl, hu⟩; obtain ⟨hc, hf⟩ := And.intro hu.cells hu.ice; have hz := hu.size; (try simp only [World.size_alloc] at hz); (try (have hz0 : w.heap.size < w'.heap.size := by omega))) | (go_at_call 40; refine (thing_some hv H tvs own _ _ _ _ _ (hh.out.up (by repeat (first | with_reducible exact Up.refl _ | with_reducible assumption | with_reducible refine Up.drewN ?_ _ | with_reducible refine Up.drew ?_ | with_reducible refine Up.alloc ?_ _ | with_reducible refine Up.setCell ?_ (by first | omega | (simp; done) | (simp; omega)) _ | with_reducible refine Up.trans ?_ (by assumption)))) (by first | rfl | (simp_all; done)) h0 HH.out).mono ?_; rintro e w' ⟨rfl, hu⟩; obtain ⟨hc, hf⟩ := And.intro hu.cells hu.ice; have hz := hu.size; (try simp only [World.size_alloc] at hz); (try (have hz0 : w.heap.size < w'.heap.size := by omega))))
    all_goals (refine bodyPost_eq (by (simp [results, Tryz.results35, go_sem, *]) <;> rfl) rfl ?_ ⟨rfl, (by repeat (first | with_reducible exact Up.refl _ | with_reducible assumption | with_reducible refine Up.drewN ?_ _ | with_reducible refine Up.drew ?_ | with_reducible refine Up.alloc ?_ _ | with_reducible refine Up.setCell ?_ (by first | omega | (simp; done) | (simp; omega)) _ | with_reducible refine Up.trans ?_ (by assumption)))⟩)
    all_goals (go_light; simp_all [plainS, clampN, Hid]; try (repeat' split))
    all_goals omega
  · have HT := Lib.hid (show H.there n = false by simpa using ht)
    clear ht
    go_enter Tryz.func35, Tryz.ntmps35
    go_wp2_with (first | (go_at_call 55; go_in) | (go_at_call 47; refine (number_any _ _).mono ?_; rintro e w' ⟨rfl, hu⟩; obtain ⟨hc, hf⟩ := And.intro hu.cells hu.ice; have hz := hu.size; (try simp only [World.size_alloc] at hz); (try (have hz0 : w.heap.size < w'.heap.size := by omega))) | (go_at_call 40; refine (thing_none hv H tvs own _ _ _ _ (hh.out.up (by repeat (first | with_reducible exact Up.refl _ | with_reducible assumption | with_reducible refine Up.drewN ?_ _ | with_reducible refine Up.drew ?_ | with_reducible refine Up.alloc ?_ _ | with_reducible refine Up.setCell ?_ (by first | omega | (simp; done) | (simp; omega)) _ | with_reducible refine Up.trans ?_ (by assumption)))) (fun _ => HT.out)).mono ?_; rintro e w' ⟨rfl, hu⟩; obtain ⟨hc, hf⟩ := And.intro hu.cells hu.ice; have hz := hu.size; (try simp only [World.size_alloc] at hz); (try (have hz0 : w.heap.size < w'.heap.size := by omega))))
    all_goals (refine bodyPost_eq (by (simp [results, Tryz.results35, go_sem, *]) <;> rfl) rfl ?_ ⟨rfl, (by repeat (first | with_reducible exact Up.refl _ | with_reducible assumption | with_reducible refine Up.drewN ?_ _ | with_reducible refine Up.drew ?_ | with_reducible refine Up.alloc ?_ _ | with_reducible refine Up.setCell ?_ (by first | omega | (simp; done) | (simp; omega)) _ | with_reducible refine Up.trans ?_ (by assumption)))⟩)
    all_goals (go_light; simp_all [plainS, clampN, Hid]; try (repeat' split))
    all_goals omega

/-- the block of an array that a value stands for; none: it is none -/
def arrOf (H : HM) (tvs : List Value) (k n : Int) : Value :=
  if k = 5 ∧ H.there n = true then (match tvs.getD n.toNat .nilIface with | .iface T v => if T = 86 then v else .pointer none | _ => .pointer none) else .pointer none

set_option maxHeartbeats 400000 in
theorem array_any (hv : Value) (H : HM) (tvs : List Value) (own : Nat → Option (Nat × Nat)) (k n : Int) (s : ByteArray) (w : World) (h : HRep w hv H tvs own) :
    Calls Tryz.prog 42 #[hv, .agg #[.int .i64 k, .int .i64 n, .string s]] w fun e w' => e = .returned (arrOf H tvs k n) ∧ Up w w' := by
  have hh := Lib.hid h
  clear h
  by_cases ht : k = 5 ∧ H.there n = true
  · obtain ⟨hk, ht⟩ := ht
    obtain ⟨h0, tv, t, _, htv, hti⟩ := there_get hh.out ht
    cases hti with
    | arr vals b av hb hc hr =>
      have HH := Lib.hid htv
      have ha : Hid (arrOf H tvs k n = .pointer (some ⟨b, 0, none⟩)) := by simp [Hid, arrOf, hk, ht, List.getD, htv]
      have HK := Lib.hid hk
      clear htv ht hk hb hc hr
      go_enter Tryz.func42, Tryz.ntmps42
      go_wp2_with (first | (go_at_call 40; refine (thing_some hv H tvs own _ _ _ _ _ (hh.out.up (by repeat (first | with_reducible exact Up.refl _ | with_reducible assumption | with_reducible refine Up.drewN ?_ _ | with_reducible refine Up.drew ?_ | with_reducible refine Up.alloc ?_ _ | with_reducible refine Up.setCell ?_ (by first | omega | (simp; done) | (simp; omega)) _ | with_reducible refine Up.trans ?_ (by assumption)))) HK.out h0 HH.out).mono ?_; rintro e w' ⟨rfl, hu⟩))
      go_ret
      exact ⟨ret_v ha.out.symm, (by repeat (first | with_reducible exact Up.refl _ | with_reducible assumption | with_reducible refine Up.drewN ?_ _ | with_reducible refine Up.drew ?_ | with_reducible refine Up.alloc ?_ _ | with_reducible refine Up.setCell ?_ (by first | omega | (simp; done) | (simp; omega)) _ | with_reducible refine Up.trans ?_ (by assumption)))⟩
    | obj k' p l b mv kv hk' hp hpi hb hc hm hr hn =>
      have HH := Lib.hid htv
      have ha : Hid (arrOf H tvs k n = .pointer none) := by simp [Hid, arrOf, hk, ht, List.getD, htv]
      have HK := Lib.hid hk
      clear htv ht hk hb hc hr hk' hm hn hp hpi
      go_enter Tryz.func42, Tryz.ntmps42
      go_wp2_with (first | (go_at_call 40; refine (thing_some hv H tvs own _ _ _ _ _ (hh.out.up (by repeat (first | with_reducible exact Up.refl _ | with_reducible assumption | with_reducible refine Up.drewN ?_ _ | with_reducible refine Up.drew ?_ | with_reducible refine Up.alloc ?_ _ | with_reducible refine Up.setCell ?_ (by first | omega | (simp; done) | (simp; omega)) _ | with_reducible refine Up.trans ?_ (by assumption)))) HK.out h0 HH.out).mono ?_; rintro e w' ⟨rfl, hu⟩))
      go_ret
      exact ⟨ret_v ha.out.symm, (by repeat (first | with_reducible exact Up.refl _ | with_reducible assumption | with_reducible refine Up.drewN ?_ _ | with_reducible refine Up.drew ?_ | with_reducible refine Up.alloc ?_ _ | with_reducible refine Up.setCell ?_ (by first | omega | (simp; done) | (simp; omega)) _ | with_reducible refine Up.trans ?_ (by assumption)))⟩
  · have ha : Hid (arrOf H tvs k n = .pointer none) := by simp [Hid, arrOf, ht]
    have HT := Lib.hid (show k = 5 → H.there n = false by simpa using ht)
    clear ht
    go_enter Tryz.func42, Tryz.ntmps42
    go_wp2_with (first | (go_at_call 40; refine (thing_none hv H tvs own _ _ _ _ (hh.out.up (by repeat (first | with_reducible exact Up.refl _ | with_reducible assumption | with_reducible refine Up.drewN ?_ _ | with_reducible refine Up.drew ?_ | with_reducible refine Up.alloc ?_ _ | with_reducible refine Up.setCell ?_ (by first | omega | (simp; done) | (simp; omega)) _ | with_reducible refine Up.trans ?_ (by assumption)))) HT.out).mono ?_; rintro e w' ⟨rfl, hu⟩))
    go_ret
    exact ⟨ret_v ha.out.symm, (by repeat (first | with_reducible exact Up.refl _ | with_reducible assumption | with_reducible refine Up.drewN ?_ _ | with_reducible refine Up.drew ?_ | with_reducible refine Up.alloc ?_ _ | with_reducible refine Up.setCell ?_ (by first | omega | (simp; done) | (simp; omega)) _ | with_reducible refine Up.trans ?_ (by assumption)))⟩

/-- a thing's kind; 0: it is none -/
def HM.kindOf (H : HM) (n : Int) : Int := if H.there n = true then (H.things[n.toNat]?.map (·.kind)).getD 0 else 0

set_option maxHeartbeats 400000 in
theorem Kind_any (hv : Value) (H : HM) (tvs : List Value) (own : Nat → Option (Nat × Nat)) (n : Int) (w : World) (h : HRep w hv H tvs own) :
    Calls Tryz.prog 14 #[hv, .int .i64 n] w fun e w' => e = .returned (.int .i64 (H.kindOf n)) ∧ Up w w' := by
  have hh := Lib.hid h
  clear h
  by_cases ht : H.there n = true
  · obtain ⟨h0, tv, t, hth, htv, hti⟩ := there_get hh.out ht
    cases hti with
    | arr vals b av hb hc hr =>
      have HH := Lib.hid htv
      have ha : Hid (H.kindOf n = 2) := by simp [Hid, HM.kindOf, ht, hth]
      clear htv ht hth hb hc hr
      go_enter Tryz.func14, Tryz.ntmps14
      go_wp2_with (first | (go_at_call 40; refine (thing_some hv H tvs own _ _ _ _ _ (hh.out.up (by repeat (first | with_reducible exact Up.refl _ | with_reducible assumption | with_reducible refine Up.drewN ?_ _ | with_reducible refine Up.drew ?_ | with_reducible refine Up.alloc ?_ _ | with_reducible refine Up.setCell ?_ (by first | omega | (simp; done) | (simp; omega)) _ | with_reducible refine Up.trans ?_ (by assumption)))) rfl h0 HH.out).mono ?_; rintro e w' ⟨rfl, hu⟩) | (go_at_call 120; refine (kind_a _ _).mono ?_; rintro e w'' ⟨rfl, rfl⟩))
      go_ret
      exact ⟨by rw [ha.out]; rfl, (by repeat (first | with_reducible exact Up.refl _ | with_reducible assumption | with_reducible refine Up.drewN ?_ _ | with_reducible refine Up.drew ?_ | with_reducible refine Up.alloc ?_ _ | with_reducible refine Up.setCell ?_ (by first | omega | (simp; done) | (simp; omega)) _ | with_reducible refine Up.trans ?_ (by assumption)))⟩
    | obj k' p l b mv kv hk' hp hpi hb hc hm hr hn =>
      have HH := Lib.hid htv
      have ha : Hid (H.kindOf n = k') := by simp [Hid, HM.kindOf, ht, hth]
      clear htv ht hth hb hc hr hk' hm hn hp hpi
      go_enter Tryz.func14, Tryz.ntmps14
      go_wp2_with (first | (go_at_call 40; refine (thing_some hv H tvs own _ _ _ _ _ (hh.out.up (by repeat (first | with_reducible exact Up.refl _ | with_reducible assumption | with_reducible refine Up.drewN ?_ _ | with_reducible refine Up.drew ?_ | with_reducible refine Up.alloc ?_ _ | with_reducible refine Up.setCell ?_ (by first | omega | (simp; done) | (simp; omega)) _ | with_reducible refine Up.trans ?_ (by assumption)))) rfl h0 HH.out).mono ?_; rintro e w' ⟨rfl, hu⟩; obtain ⟨hc, hf⟩ := And.intro hu.cells hu.ice; have hz := hu.size; (try simp only [World.size_alloc] at hz); (try (have hz0 : w.heap.size < w'.heap.size := by omega))) | (go_at_call 123; refine (kind_o _ _ _ _).mono ?_; rintro e w'' ⟨rfl, hu2⟩))
      go_ret
      exact ⟨by rw [ha.out]; rfl, (by repeat (first | with_reducible exact Up.refl _ | with_reducible assumption | with_reducible refine Up.drewN ?_ _ | with_reducible refine Up.drew ?_ | with_reducible refine Up.alloc ?_ _ | with_reducible refine Up.setCell ?_ (by first | omega | (simp; done) | (simp; omega)) _ | with_reducible refine Up.trans ?_ (by assumption)))⟩
  · have ha : Hid (H.kindOf n = 0) := by simp [Hid, HM.kindOf, ht]
    have HT := Lib.hid (show (5 : Int) = 5 → H.there n = false by simpa using ht)
    clear ht
    go_enter Tryz.func14, Tryz.ntmps14
    go_wp2_with (first | (go_at_call 40; refine (thing_none hv H tvs own _ _ _ _ (hh.out.up (by repeat (first | with_reducible exact Up.refl _ | with_reducible assumption | with_reducible refine Up.drewN ?_ _ | with_reducible refine Up.drew ?_ | with_reducible refine Up.alloc ?_ _ | with_reducible refine Up.setCell ?_ (by first | omega | (simp; done) | (simp; omega)) _ | with_reducible refine Up.trans ?_ (by assumption)))) HT.out).mono ?_; rintro e w' ⟨rfl, hu⟩))
    go_ret
    exact ⟨by rw [ha.out]; rfl, (by repeat (first | with_reducible exact Up.refl _ | with_reducible assumption | with_reducible refine Up.drewN ?_ _ | with_reducible refine Up.drew ?_ | with_reducible refine Up.alloc ?_ _ | with_reducible refine Up.setCell ?_ (by first | omega | (simp; done) | (simp; omega)) _ | with_reducible refine Up.trans ?_ (by assumption)))⟩

end Go.Proofs.YtmbipadiaggolaaGreatDoor
