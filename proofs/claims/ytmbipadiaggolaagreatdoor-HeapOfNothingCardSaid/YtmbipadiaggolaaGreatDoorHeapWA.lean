import Derived.Test.YtmbipadiaggolaaGreatDoorHeapW9
/- Walks: Has, Push. -/
namespace Go.Proofs.YtmbipadiaggolaaGreatDoor
open Go.RowKit
set_option linter.unusedSimpArgs false
attribute [local go_sem] ta_aa ta_ao ta_an ta_oa ta_oo ta_on m_kind_a m_kind_o m_behind_a m_behind_o m_own_a m_own_o

def noInS : ByteArray := ⟨#[84, 121, 112, 101, 69, 114, 114, 111, 114, 58, 32, 105, 110]⟩

/-- Has, as a whole -/
def HM.has (H : HM) (k n : Int) (key : ByteArray) : Bool × ByteArray × Int :=
  if k = 5 ∧ H.there n = true then ((H.find key (n + 1).toNat n).isSome, ⟨#[]⟩, 0) else (false, noInS, 1)

set_option maxHeartbeats 1600000 in
theorem Has_any (hv : Value) (H : HM) (tvs : List Value) (own : Own) (k n : Int) (s key : ByteArray) (w : World) (h : HRep w hv H tvs own) :
    Calls Tryz.prog 26 #[hv, .agg #[.int .i64 k, .int .i64 n, .string s], .string key] w fun e w' => e = .returned (.tuple #[.bool (H.has k n key).1, .string (H.has k n key).2.1, .int .i64 (H.has k n key).2.2]) ∧ Up w w' := by
  by_cases ht : k = 5 ∧ H.there n = true
  · obtain ⟨h0, tv, t, hth, htv, hti⟩ := there_get h ht.2
    obtain ⟨T, y, rfl⟩ := hti.iface
    have hf : FindAt H tvs key (H.find key (n.toNat + 1) n.toNat) (n.toNat + 1) (.iface T y) := .there n.toNat t _ hth htv rfl
    have e : Hid (H.has k n key = ((H.find key (n.toNat + 1) n.toNat).isSome, ⟨#[]⟩, 0)) := by
      unfold HM.has Hid
      rw [if_pos ht]
      have e1 : (n + 1).toNat = n.toNat + 1 := by omega
      have e2 : ((n.toNat : Nat) : Int) = n := by omega
      rw [e1, e2]
    generalize H.find key (n.toNat + 1) n.toNat = r at hf e
    have HK := Lib.hid ht.1
    have hh := Lib.hid h
    have HT := Lib.hid htv
    have HF := Lib.hid hf
    clear ht h hth htv hti hf
    rw [e.out]
    go_enter Tryz.func26, Tryz.ntmps26
    go_wp2_with (first | (go_at_call 40; refine (thing_some hv H tvs own _ _ _ _ _ (hh.out.up (by repeat (first | with_reducible exact Up.refl _ | with_reducible assumption | with_reducible refine Up.drewN ?_ _ | with_reducible refine Up.drew ?_ | with_reducible refine Up.alloc ?_ _ | with_reducible refine Up.setCell ?_ (by first | omega | (simp; done) | (simp; omega)) _ | with_reducible refine Up.trans ?_ (by assumption)))) HK.out h0 HT.out).mono ?_; rintro e w' ⟨rfl, hu⟩; obtain ⟨hc, hf⟩ := And.intro hu.cells hu.ice; have hz := hu.size; (try simp only [World.size_alloc] at hz); (try (have hz0 : w.heap.size < w'.heap.size := by omega))) | (go_at_call 48; refine (find_any hv H tvs own _ _ _ _ _ (hh.out.up (by repeat (first | with_reducible exact Up.refl _ | with_reducible assumption | with_reducible refine Up.drewN ?_ _ | with_reducible refine Up.drew ?_ | with_reducible refine Up.alloc ?_ _ | with_reducible refine Up.setCell ?_ (by first | omega | (simp; done) | (simp; omega)) _ | with_reducible refine Up.trans ?_ (by assumption)))) HF.out).mono ?_; rintro e w3 ⟨rfl, hu3⟩))
    go_ret3
    exact ⟨rfl, (by repeat (first | with_reducible exact Up.refl _ | with_reducible assumption | with_reducible refine Up.drewN ?_ _ | with_reducible refine Up.drew ?_ | with_reducible refine Up.alloc ?_ _ | with_reducible refine Up.setCell ?_ (by first | omega | (simp; done) | (simp; omega)) _ | with_reducible refine Up.trans ?_ (by assumption)))⟩
  · have e : Hid (H.has k n key = (false, noInS, 1)) := by
      unfold HM.has Hid
      rw [if_neg ht]
    have HT := Lib.hid (show k = 5 → H.there n = false by simpa using ht)
    have hh := Lib.hid h
    clear ht h
    rw [e.out]
    go_enter Tryz.func26, Tryz.ntmps26
    go_wp2_with (first | (go_at_call 40; refine (thing_none hv H tvs own _ _ _ _ (hh.out.up (by repeat (first | with_reducible exact Up.refl _ | with_reducible assumption | with_reducible refine Up.drewN ?_ _ | with_reducible refine Up.drew ?_ | with_reducible refine Up.alloc ?_ _ | with_reducible refine Up.setCell ?_ (by first | omega | (simp; done) | (simp; omega)) _ | with_reducible refine Up.trans ?_ (by assumption)))) HT.out).mono ?_; rintro e w' ⟨rfl, hu⟩; obtain ⟨hc, hf⟩ := And.intro hu.cells hu.ice; have hz := hu.size; (try simp only [World.size_alloc] at hz); (try (have hz0 : w.heap.size < w'.heap.size := by omega))))
    go_ret3
    exact ⟨rfl, (by repeat (first | with_reducible exact Up.refl _ | with_reducible assumption | with_reducible refine Up.drewN ?_ _ | with_reducible refine Up.drew ?_ | with_reducible refine Up.alloc ?_ _ | with_reducible refine Up.setCell ?_ (by first | omega | (simp; done) | (simp; omega)) _ | with_reducible refine Up.trans ?_ (by assumption)))⟩

end Go.Proofs.YtmbipadiaggolaaGreatDoor
