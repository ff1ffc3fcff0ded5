import Derived.Test.YtmbipadiaggolaaDoorKnow
import Derived.Outline
/- Walk: HeapRoom. -/
namespace Go.Proofs.YtmbipadiaggolaaDoor
open Go.RowKit
set_option linter.unusedSimpArgs false
attribute [local go_sem] ta_aa ta_ao ta_an ta_oa ta_oo ta_on m_kind_a m_kind_o m_behind_a m_behind_o m_own_a m_own_o

theorem cell_lt {w : World} {b o : Nat} {v : Value} (h : w.cell? ⟨b, o, none⟩ = some v) : b < w.heap.size := by
  rcases Nat.lt_or_ge b w.heap.size with h' | h'
  · exact h'
  · simp [World.cell?, Array.getElem?_eq_none h'] at h

theorem make_room (n u : Int) (l : List Thing) (k p : Int) (h : u < n) : ∃ l', (⟨n, u, l⟩ : HM).make k p = ⟨n, u + 1, l'⟩ := by
  unfold HM.make
  rw [if_pos h]
  exact ⟨_, rfl⟩
theorem make_no_room (n u : Int) (l : List Thing) (k p : Int) (h : n ≤ u) : (⟨n, u, l⟩ : HM).make k p = ⟨n, u, l⟩ := by
  unfold HM.make
  rw [if_neg (by show ¬ u < n; omega)]

theorem ours_room {w0 w : World} {hb : Nat} {n u : Int} {l : List Thing} {k p : Int} (h : u < n) (o : Ours w0 hb ((⟨n, u, l⟩ : HM).make k p) w) : ∃ l', Ours w0 hb ⟨n, u + 1, l'⟩ w := by
  obtain ⟨l', e⟩ := make_room n u l k p h
  rw [e] at o
  exact ⟨l', o⟩

set_option maxRecDepth 100000 in
set_option maxHeartbeats 4000000 in
theorem room_any (n : Int) (sa : Option Addr) (len cap : Nat) (zs : List Int) (w : World) (hm : len ≤ 9223372036854775807)
    (hc : ∀ k, k < len → ∃ b off, sa = some ⟨b, off, none⟩ ∧ w.cell? ⟨b, off + k, none⟩ = some (.int .i64 (zs.getD k 0))) :
    Calls Tryd.prog 3 #[.int .i64 n, .slice sa len cap] w fun e w' => e = .returned (.bool true) ∧ Up w w' := by
  by_cases hin : n < 0 ∨ 300 < n ∨ 300 < len
  · have hin' : Hid (n < 0 ∨ 300 < n ∨ 300 < len) := hin
    go_enter Tryd.func3, Tryd.ntmps3
    rcases hin with h | h | h
    · go_wp2_with (first | (go_at_call 7; refine (known_any _).mono ?_; rintro e w1 ⟨rfl, hu⟩))
      go_ret
      exact ⟨rfl, (by repeat (first | with_reducible exact Up.refl _ | with_reducible assumption | with_reducible refine Up.drewN ?_ _ | with_reducible refine Up.drew ?_ | with_reducible refine Up.alloc ?_ _ | with_reducible refine Up.setCell ?_ (by first | omega | (simp; done) | (simp; omega)) _ | with_reducible refine Up.trans ?_ (by assumption)))⟩
    · have h' : ¬ n < 0 := by omega
      go_wp2_with (first | (go_at_call 7; refine (known_any _).mono ?_; rintro e w1 ⟨rfl, hu⟩))
      go_ret
      exact ⟨rfl, (by repeat (first | with_reducible exact Up.refl _ | with_reducible assumption | with_reducible refine Up.drewN ?_ _ | with_reducible refine Up.drew ?_ | with_reducible refine Up.alloc ?_ _ | with_reducible refine Up.setCell ?_ (by first | omega | (simp; done) | (simp; omega)) _ | with_reducible refine Up.trans ?_ (by assumption)))⟩
    · by_cases h1 : n < 0
      · go_wp2_with (first | (go_at_call 7; refine (known_any _).mono ?_; rintro e w1 ⟨rfl, hu⟩))
        go_ret
        exact ⟨rfl, (by repeat (first | with_reducible exact Up.refl _ | with_reducible assumption | with_reducible refine Up.drewN ?_ _ | with_reducible refine Up.drew ?_ | with_reducible refine Up.alloc ?_ _ | with_reducible refine Up.setCell ?_ (by first | omega | (simp; done) | (simp; omega)) _ | with_reducible refine Up.trans ?_ (by assumption)))⟩
      · by_cases h2 : 300 < n
        · go_wp2_with (first | (go_at_call 7; refine (known_any _).mono ?_; rintro e w1 ⟨rfl, hu⟩))
          go_ret
          exact ⟨rfl, (by repeat (first | with_reducible exact Up.refl _ | with_reducible assumption | with_reducible refine Up.drewN ?_ _ | with_reducible refine Up.drew ?_ | with_reducible refine Up.alloc ?_ _ | with_reducible refine Up.setCell ?_ (by first | omega | (simp; done) | (simp; omega)) _ | with_reducible refine Up.trans ?_ (by assumption)))⟩
        · go_wp2_with (first | (go_at_call 7; refine (known_any _).mono ?_; rintro e w1 ⟨rfl, hu⟩))
          go_ret
          exact ⟨rfl, (by repeat (first | with_reducible exact Up.refl _ | with_reducible assumption | with_reducible refine Up.drewN ?_ _ | with_reducible refine Up.drew ?_ | with_reducible refine Up.alloc ?_ _ | with_reducible refine Up.setCell ?_ (by first | omega | (simp; done) | (simp; omega)) _ | with_reducible refine Up.trans ?_ (by assumption)))⟩
  · have h1 : ¬ n < 0 := by omega
    have h2 : ¬ 300 < n := by omega
    have h3 : len ≤ 300 := by omega
    have h0 : 0 ≤ n := by omega
    have HC := Lib.hid hc
    clear hin hc
    go_enter Tryd.func3, Tryd.ntmps3
    go_wp2_with (first | (go_at_call 8; refine (New_good n _ (by omega) (by omega)).mono ?_; rintro e w1 ⟨rfl, rfl⟩; have o1 := Ours.fresh n (Up.refl w) (by omega) (by omega)))
    go_loopw [7] (fun i wr => ∃ (k : Nat) (u : Int) (l : List Thing), k ≤ len ∧ i = .int .i64 k ∧ Ours w w.heap.size ⟨n, u, l⟩ wr ∧ Hid (u = if (k : Int) < n then (k : Int) else n)) (fun i _ => len - (intOf i).toNat)
    case atStart => exact ⟨0, 0, [], Nat.zero_le _, rfl, o1, by unfold Hid; split <;> omega⟩
    case round =>
      obtain ⟨k, u, l, hk, rfl, o2, hu⟩ := hrel
      by_cases hlt : k < len
      · obtain ⟨b, off, rfl, hcell⟩ := HC.out k hlt
        have hb := cell_lt hcell
        have hcw : wr.cell? ⟨b, off + k, none⟩ = some (.int .i64 (zs.getD k 0)) := (o2.base.cells b _ hb).trans hcell
        by_cases hkn : (k : Int) < n
        · have e : u = k := by have := hu.out; rw [if_pos hkn] at this; exact this
          subst e
          clear hu
          go_wp2_with (first | (go_at_call 9; refine (Used_ours o2).mono ?_; rintro e w5 ⟨rfl, rfl⟩; simp only))
          go_region_held3 (fun W => W.cell? ⟨b, off + k, none⟩ = some (.int .i64 (zs.getD k 0))) (go_keep) (first | (go_at_call 10; refine (Make_ours _ _ (o2.up (by repeat (first | with_reducible exact Up.refl _ | with_reducible assumption | with_reducible refine Up.drewN ?_ _ | with_reducible refine Up.drew ?_ | with_reducible refine Up.alloc ?_ _ | with_reducible refine Up.setCell ?_ (by first | omega | (simp; done) | (simp; omega)) _ | with_reducible refine Up.trans ?_ (by assumption))))).mono ?_; rintro e w2 ⟨rfl, o3⟩; obtain ⟨l2, o3⟩ := ours_room hkn o3; simp only [hkn, if_true]; have hcw := (o3.base.cells b (off + k) hb).trans hcell))
          go_wp2_with (first | (go_at_call 9; refine (Used_ours o3).mono ?_; rintro e w5 ⟨rfl, rfl⟩; simp only))
          go_roundw
          case rel => exact ⟨k + 1, (k : Int) + 1, l2, by omega, by simp, o3, by unfold Hid; split <;> omega⟩
          case measure => simp [intOf]; omega
        · have e : u = n := by have := hu.out; rw [if_neg hkn] at this; exact this
          subst e
          clear hu
          go_wp2_with (first | (go_at_call 9; refine (Used_ours o2).mono ?_; rintro e w5 ⟨rfl, rfl⟩; simp only))
          go_region_held3 (fun W => W.cell? ⟨b, off + k, none⟩ = some (.int .i64 (zs.getD k 0))) (go_keep) (first | (go_at_call 10; refine (Make_ours _ _ (o2.up (by repeat (first | with_reducible exact Up.refl _ | with_reducible assumption | with_reducible refine Up.drewN ?_ _ | with_reducible refine Up.drew ?_ | with_reducible refine Up.alloc ?_ _ | with_reducible refine Up.setCell ?_ (by first | omega | (simp; done) | (simp; omega)) _ | with_reducible refine Up.trans ?_ (by assumption))))).mono ?_; rintro e w2 ⟨rfl, o3⟩; rw [make_no_room _ _ _ _ _ (Int.le_refl _)] at o3; simp only [Int.lt_irrefl, if_false]; have hcw := (o3.base.cells b (off + k) hb).trans hcell))
          go_wp2_with (first | (go_at_call 9; refine (Used_ours o3).mono ?_; rintro e w5 ⟨rfl, rfl⟩; simp only))
          go_roundw
          case rel => exact ⟨k + 1, _, l, by omega, by simp, o3, by unfold Hid; split <;> omega⟩
          case measure => simp [intOf]; omega
      · have hkl : ((k : Int) == (len : Int)) = true := by rw [beq_iff_eq]; omega
        by_cases hkn : (k : Int) < n
        · have e : u = k := by have := hu.out; rw [if_pos hkn] at this; exact this
          subst e
          clear hu HC
          have hln : (len : Int) < n := by omega
          go_wp2_with (first | (go_at_call 9; refine (Used_ours o2).mono ?_; rintro e w5 ⟨rfl, rfl⟩; simp only) | (go_at_call 7; refine (known_any _).mono ?_; rintro e w1 ⟨rfl, hu⟩))
          go_ret
          exact ⟨rfl, o2.base.trans (by repeat (first | with_reducible exact Up.refl _ | with_reducible assumption | with_reducible refine Up.drewN ?_ _ | with_reducible refine Up.drew ?_ | with_reducible refine Up.alloc ?_ _ | with_reducible refine Up.setCell ?_ (by first | omega | (simp; done) | (simp; omega)) _ | with_reducible refine Up.trans ?_ (by assumption)))⟩
        · have e : (u == min n (len : Int)) = true := by have := hu.out; rw [if_neg hkn] at this; rw [beq_iff_eq]; omega
          have hge : ¬ (k : Int) < len := by omega
          clear hu HC hkl hkn hlt
          go_wp2_with (first | (go_at_call 9; refine (Used_ours o2).mono ?_; rintro e w5 ⟨rfl, rfl⟩; simp only) | (go_at_call 7; refine (known_any _).mono ?_; rintro e w1 ⟨rfl, hu⟩))
          go_ret
          exact ⟨rfl, o2.base.trans (by repeat (first | with_reducible exact Up.refl _ | with_reducible assumption | with_reducible refine Up.drewN ?_ _ | with_reducible refine Up.drew ?_ | with_reducible refine Up.alloc ?_ _ | with_reducible refine Up.setCell ?_ (by first | omega | (simp; done) | (simp; omega)) _ | with_reducible refine Up.trans ?_ (by assumption)))⟩

end Go.Proofs.YtmbipadiaggolaaDoor
