import Derived.Test.YtmbipadiaggolaaDoorKeepsP
import Derived.Deep.CutRange
import Derived.Deep.DeepCutAuto
/- Walk: HeapKeeps. -/
namespace Go.Proofs.YtmbipadiaggolaaDoor
open Go.RowKit
set_option linter.unusedSimpArgs false
attribute [local go_sem] ta_aa ta_ao ta_an ta_oa ta_oo ta_on m_kind_a m_kind_o m_behind_a m_behind_o m_own_a m_own_o

theorem cell_lt2 {w : World} {b o : Nat} {v : Value} (h : w.cell? ⟨b, o, none⟩ = some v) : b < w.heap.size := by
  rcases Nat.lt_or_ge b w.heap.size with h' | h'
  · exact h'
  · simp [World.cell?, Array.getElem?_eq_none h'] at h

theorem tmod_le (z : Int) : -999 ≤ z.tmod 1000 ∧ z.tmod 1000 ≤ 999 := by
  rcases Int.le_total 0 z with h | h
  · rw [Int.tmod_eq_emod_of_nonneg h]; omega
  · obtain ⟨y, rfl⟩ : ∃ y, z = -y := ⟨-z, by omega⟩
    rw [Int.neg_tmod, Int.tmod_eq_emod_of_nonneg (by omega)]; omega

/-- the box of the value that is to be set -/
def KeepBox (wr : World) (v : Value) (W : World) : Prop := ∃ x : Int, v = .pointer (some ⟨wr.heap.size, 0, none⟩) ∧ -1000 ≤ x ∧ x ≤ 1000 ∧ W.heap[wr.heap.size]? = some (.cells #[.int .i64 3, .int .i64 x, .string ⟨#[]⟩] 35 (0, 0)) ∧ Up wr W

set_option maxRecDepth 100000 in
set_option maxHeartbeats 4000000 in
theorem keeps_any (ka va : Option Addr) (klen kcap vlen vcap : Nat) (ss : List ByteArray) (zs : List Int) (w : World) (hm : klen ≤ 9223372036854775807) (_hm2 : vlen ≤ 9223372036854775807)
    (hk : ∀ k, k < klen → ∃ b off, ka = some ⟨b, off, none⟩ ∧ w.cell? ⟨b, off + k, none⟩ = some (.string (ss.getD k ByteArray.empty)) ∧ (ss.getD k ByteArray.empty).size ≤ 9223372036854775807)
    (hc : ∀ k, k < vlen → ∃ b off, va = some ⟨b, off, none⟩ ∧ w.cell? ⟨b, off + k, none⟩ = some (.int .i64 (zs.getD k 0))) :
    Calls Tryd.prog 5 #[.slice ka klen kcap, .slice va vlen vcap] w fun e w' => e = .returned (.bool true) ∧ Up w w' := by
  by_cases hin : 60 < klen
  · clear hk hc
    go_enter Tryd.func5, Tryd.ntmps5
    go_wp2_with (first | (go_at_call 8; refine (New_good 1048576 _ (by omega) (by omega)).mono ?_; rintro e w1 ⟨rfl, rfl⟩) | (go_at_call 7; refine (known_any _).mono ?_; rintro e w1 ⟨rfl, hu⟩))
    go_ret
    exact ⟨rfl, (by repeat (first | with_reducible exact Up.refl _ | with_reducible assumption | with_reducible refine Up.drewN ?_ _ | with_reducible refine Up.drew ?_ | with_reducible refine Up.alloc ?_ _ | with_reducible refine Up.setCell ?_ (by first | omega | (simp; done) | (simp; omega)) _ | with_reducible refine Up.trans ?_ (by assumption)))⟩
  · have HK := Lib.hid hk
    have HC := Lib.hid hc
    clear hk hc
    go_enter Tryd.func5, Tryd.ntmps5
    go_wp2_with (first | (go_at_call 8; refine (New_good 1048576 _ (by omega) (by omega)).mono ?_; rintro e w1 ⟨rfl, rfl⟩; have o1 := Ours.fresh 1048576 (Up.refl w) (by omega) (by omega)) | (go_at_call 10; refine (Make_ours 1 (-1) o1).mono ?_; rintro e w2 ⟨rfl, o2⟩; rw [kp_makes.1] at o2; clear o1) | (go_at_call 10; refine (Make_ours 1 0 o2).mono ?_; rintro e w3 ⟨rfl, o3⟩; rw [kp_makes.2.1] at o3; clear o2) | (go_at_call 10; refine (Make_ours 1 (-1) o3).mono ?_; rintro e w4 ⟨rfl, o4⟩; rw [kp_makes.2.2] at o4; clear o3))
    have o5 : Kept3 w w.heap.size 3 w4 := ⟨[], 3, by omega, o4⟩
    clear o4
    go_loopw [13, 14] (fun n i wr => ∃ (k : Nat) (m : Int), k ≤ klen ∧ i = .int .i64 k ∧ n = .int .i64 m ∧ Kept3 w w.heap.size 3 wr) (fun _ i _ => klen - (intOf i).toNat)
    case atStart => exact ⟨0, 0, Nat.zero_le _, rfl, rfl, o5⟩
    case round =>
      obtain ⟨k, m, hk, rfl, rfl, o6⟩ := hrel
      by_cases hlt : k < klen
      · obtain ⟨b, off, rfl, hcell, hsz⟩ := HK.out k hlt
        have hb := cell_lt2 hcell
        have hcw : wr.cell? ⟨b, off + k, none⟩ = some (.string (ss.getD k ByteArray.empty)) := (o6.base.cells b _ hb).trans hcell
        generalize ss.getD k ByteArray.empty = sk at hcw hsz
        clear hcell
        go_wp2_with fail
        go_roundw
        case rel => exact ⟨k + 1, _, by omega, by simp, rfl, o6⟩
        case measure => simp [intOf]; omega
      · have hge : ¬ (k : Int) < klen := by omega
        clear hlt o5
        by_cases hbig : 8000 < m
        · go_wp2_with (first | (go_at_call 7; refine (known_any _).mono ?_; rintro e w1 ⟨rfl, hu⟩))
          go_ret
          exact ⟨rfl, o6.base.trans (by repeat (first | with_reducible exact Up.refl _ | with_reducible assumption | with_reducible refine Up.drewN ?_ _ | with_reducible refine Up.drew ?_ | with_reducible refine Up.alloc ?_ _ | with_reducible refine Up.setCell ?_ (by first | omega | (simp; done) | (simp; omega)) _ | with_reducible refine Up.trans ?_ (by assumption)))⟩
        · go_wp2_with fail
          go_loopw [15] (fun i wr => ∃ k : Nat, k ≤ klen ∧ i = .int .i64 k ∧ Kept3 w w.heap.size (3 + (k : Int)) wr) (fun i _ => klen - (intOf i).toNat)
          case atStart => exact ⟨0, Nat.zero_le _, rfl, o6⟩
          case round =>
            obtain ⟨q, hq, rfl, o7⟩ := hrel
            by_cases hqt : q < klen
            · obtain ⟨b, off, rfl, hcell, hsz⟩ := HK.out q hqt
              have hb := cell_lt2 hcell
              have hcw : wr.cell? ⟨b, off + q, none⟩ = some (.string (ss.getD q ByteArray.empty)) := (o7.base.cells b _ hb).trans hcell
              generalize ss.getD q ByteArray.empty = sk at hcw hsz hcell
              have hbl : b < wr.heap.size := Nat.lt_of_lt_of_le hb o7.base.size
              go_upto_if 87 with fail
              go_cut [16] (fun v16 wx => KeepBox wr v16 wx)
              case first =>
                by_cases hqv : q < vlen
                · obtain ⟨vb, voff, rfl, hvcell⟩ := HC.out q hqv
                  have hvb := cell_lt2 hvcell
                  have hvw : wr.cell? ⟨vb, voff + q, none⟩ = some (.int .i64 (zs.getD q 0)) := (o7.base.cells vb _ hvb).trans hvcell
                  generalize zs.getD q 0 = zq at hvw hvcell
                  have hvl : vb < wr.heap.size := Nat.lt_of_lt_of_le hvb o7.base.size
                  have ht := tmod_le zq
                  go_wp2_with fail
                  go_meet
                  case rel => exact ⟨_, rfl, by omega, by omega, alloc_get _ _, (by repeat (first | with_reducible exact Up.refl _ | with_reducible assumption | with_reducible refine Up.drewN ?_ _ | with_reducible refine Up.drew ?_ | with_reducible refine Up.alloc ?_ _ | with_reducible refine Up.setCell ?_ (by first | omega | (simp; done) | (simp; omega)) _ | with_reducible refine Up.trans ?_ (by assumption)))⟩
                · have hqv2 : ¬ (q : Int) < vlen := by omega
                  go_wp2_with fail
                  go_meet
                  case rel => exact ⟨_, rfl, by omega, by omega, alloc_get _ _, (by repeat (first | with_reducible exact Up.refl _ | with_reducible assumption | with_reducible refine Up.drewN ?_ _ | with_reducible refine Up.drew ?_ | with_reducible refine Up.alloc ?_ _ | with_reducible refine Up.setCell ?_ (by first | omega | (simp; done) | (simp; omega)) _ | with_reducible refine Up.trans ?_ (by assumption)))⟩
              case rest =>
                obtain ⟨x, rfl, hx1, hx2, hbox, hux⟩ := hcut
                have hkc : wc.cell? ⟨b, off + q, none⟩ = some (.string sk) := (hux.cells b _ hbl).trans hcw
                have hbl2 : b < wc.heap.size := Nat.lt_of_lt_of_le hbl hux.size
                have HB := Lib.hid hbox
                have s0 := hbox
                have a0 := cell_of s0 0; have a1 := cell_of s0 1; have a2 := cell_of s0 2; have f0 := ice_of s0 0; have f1 := ice_of s0 1; have f2 := ice_of s0 2; have a4 := lt_of_heap s0; (try simp only [World.size_alloc, List.getElem?_toArray, List.getElem?_cons_zero, List.getElem?_cons_succ] at a0 a1 a2 f0 f1 f2 a4); clear s0
                clear hbox hcw
                go_wp2_with fail
                go_region_held3 (fun W => W.cell? ⟨b, off + q, none⟩ = some (.string sk) ∧ W.cell? ⟨wr.heap.size, 0, none⟩ = some (.int .i64 3) ∧ W.cell? ⟨wr.heap.size, 1, none⟩ = some (.int .i64 x) ∧ W.cell? ⟨wr.heap.size, 2, none⟩ = some (.string ⟨#[]⟩)) (go_keep) (first | (go_at_call 11; refine (keep_set _ _ _ x rfl (by omega) (by omega) (by omega) o7 (hux.trans (by repeat (first | with_reducible exact Up.refl _ | with_reducible assumption | with_reducible refine Up.drewN ?_ _ | with_reducible refine Up.drew ?_ | with_reducible refine Up.alloc ?_ _ | with_reducible refine Up.setCell ?_ (by first | omega | (simp; done) | (simp; omega)) _ | with_reducible refine Up.trans ?_ (by assumption))))).mono ?_; rintro e w2 ⟨rfl, o8, hby⟩; have hk2 := (o8.base.cells b (off + q) hb).trans hcell; have hbl := Nat.lt_of_lt_of_le hb o8.base.size; have s0 := hby _ _ (Nat.le_refl _) (Up.get (w := wc) (by repeat (first | with_reducible exact Up.refl _ | with_reducible assumption | with_reducible refine Up.drewN ?_ _ | with_reducible refine Up.drew ?_ | with_reducible refine Up.alloc ?_ _ | with_reducible refine Up.setCell ?_ (by first | omega | (simp; done) | (simp; omega)) _ | with_reducible refine Up.trans ?_ (by assumption))) HB.out); have HB := Lib.hid s0; have a0 := cell_of s0 0; have a1 := cell_of s0 1; have a2 := cell_of s0 2; have f0 := ice_of s0 0; have f1 := ice_of s0 1; have f2 := ice_of s0 2; have a4 := lt_of_heap s0; (try simp only [World.size_alloc, List.getElem?_toArray, List.getElem?_cons_zero, List.getElem?_cons_succ] at a0 a1 a2 f0 f1 f2 a4); clear s0))
                obtain ⟨y, hy, hyx⟩ : ∃ y : Int, Hid (y = x) ∧ (y == x) = true := ⟨x, rfl, by simp⟩
                go_wp2_with fail
                refine (keep_get _ _ _ x y rfl (by omega) hy.out (o8.up (by repeat (first | with_reducible exact Up.refl _ | with_reducible assumption | with_reducible refine Up.drewN ?_ _ | with_reducible refine Up.drew ?_ | with_reducible refine Up.alloc ?_ _ | with_reducible refine Up.setCell ?_ (by first | omega | (simp; done) | (simp; omega)) _ | with_reducible refine Up.trans ?_ (by assumption))))).mono ?_
                rintro e w3 ⟨rfl, hu3⟩
                have o8 := o8.up (Up.trans (by repeat (first | with_reducible exact Up.refl _ | with_reducible assumption | with_reducible refine Up.drewN ?_ _ | with_reducible refine Up.drew ?_ | with_reducible refine Up.alloc ?_ _ | with_reducible refine Up.setCell ?_ (by first | omega | (simp; done) | (simp; omega)) _ | with_reducible refine Up.trans ?_ (by assumption))) hu3)
                have hk2 := (o8.base.cells b (off + q) hb).trans hcell
                have hbl := Nat.lt_of_lt_of_le hb o8.base.size
                have s0 := hu3.get (Up.get (by repeat (first | with_reducible exact Up.refl _ | with_reducible assumption | with_reducible refine Up.drewN ?_ _ | with_reducible refine Up.drew ?_ | with_reducible refine Up.alloc ?_ _ | with_reducible refine Up.setCell ?_ (by first | omega | (simp; done) | (simp; omega)) _ | with_reducible refine Up.trans ?_ (by assumption))) HB.out)
                have HB := Lib.hid s0
                have a0 := cell_of s0 0; have a1 := cell_of s0 1; have a2 := cell_of s0 2; have f0 := ice_of s0 0; have f1 := ice_of s0 1; have f2 := ice_of s0 2; have a4 := lt_of_heap s0; (try simp only [World.size_alloc, List.getElem?_toArray, List.getElem?_cons_zero, List.getElem?_cons_succ] at a0 a1 a2 f0 f1 f2 a4); clear s0
                go_wp2_with fail
                refine (keep_get _ _ _ x y rfl (by omega) hy.out (o8.up (by repeat (first | with_reducible exact Up.refl _ | with_reducible assumption | with_reducible refine Up.drewN ?_ _ | with_reducible refine Up.drew ?_ | with_reducible refine Up.alloc ?_ _ | with_reducible refine Up.setCell ?_ (by first | omega | (simp; done) | (simp; omega)) _ | with_reducible refine Up.trans ?_ (by assumption))))).mono ?_
                rintro e w4 ⟨rfl, hu4⟩
                have o8 := o8.up (Up.trans (by repeat (first | with_reducible exact Up.refl _ | with_reducible assumption | with_reducible refine Up.drewN ?_ _ | with_reducible refine Up.drew ?_ | with_reducible refine Up.alloc ?_ _ | with_reducible refine Up.setCell ?_ (by first | omega | (simp; done) | (simp; omega)) _ | with_reducible refine Up.trans ?_ (by assumption))) hu4)
                have hk2 := (o8.base.cells b (off + q) hb).trans hcell
                have hbl := Nat.lt_of_lt_of_le hb o8.base.size
                have s0 := hu4.get (Up.get (by repeat (first | with_reducible exact Up.refl _ | with_reducible assumption | with_reducible refine Up.drewN ?_ _ | with_reducible refine Up.drew ?_ | with_reducible refine Up.alloc ?_ _ | with_reducible refine Up.setCell ?_ (by first | omega | (simp; done) | (simp; omega)) _ | with_reducible refine Up.trans ?_ (by assumption))) HB.out)
                have HB := Lib.hid s0
                have a0 := cell_of s0 0; have a1 := cell_of s0 1; have a2 := cell_of s0 2; have f0 := ice_of s0 0; have f1 := ice_of s0 1; have f2 := ice_of s0 2; have a4 := lt_of_heap s0; (try simp only [World.size_alloc, List.getElem?_toArray, List.getElem?_cons_zero, List.getElem?_cons_succ] at a0 a1 a2 f0 f1 f2 a4); clear s0
                have s0 := hu4.get (Up.get (by repeat (first | with_reducible exact Up.refl _ | with_reducible assumption | with_reducible refine Up.drewN ?_ _ | with_reducible refine Up.drew ?_ | with_reducible refine Up.alloc ?_ _ | with_reducible refine Up.setCell ?_ (by first | omega | (simp; done) | (simp; omega)) _ | with_reducible refine Up.trans ?_ (by assumption))) (alloc_get w3 _))
                have HX := Lib.hid s0
                have a0 := cell_of s0 0; have a1 := cell_of s0 1; have a2 := cell_of s0 2; have f0 := ice_of s0 0; have f1 := ice_of s0 1; have f2 := ice_of s0 2; have a4 := lt_of_heap s0; (try simp only [World.size_alloc, List.getElem?_toArray, List.getElem?_cons_zero, List.getElem?_cons_succ] at a0 a1 a2 f0 f1 f2 a4); clear s0
                go_wp2_with fail
                refine (keep_has _ _ _ x (o8.up (by repeat (first | with_reducible exact Up.refl _ | with_reducible assumption | with_reducible refine Up.drewN ?_ _ | with_reducible refine Up.drew ?_ | with_reducible refine Up.alloc ?_ _ | with_reducible refine Up.setCell ?_ (by first | omega | (simp; done) | (simp; omega)) _ | with_reducible refine Up.trans ?_ (by assumption))))).mono ?_
                rintro e w5 ⟨rfl, hu5⟩
                have o8 := o8.up (Up.trans (by repeat (first | with_reducible exact Up.refl _ | with_reducible assumption | with_reducible refine Up.drewN ?_ _ | with_reducible refine Up.drew ?_ | with_reducible refine Up.alloc ?_ _ | with_reducible refine Up.setCell ?_ (by first | omega | (simp; done) | (simp; omega)) _ | with_reducible refine Up.trans ?_ (by assumption))) hu5)
                have s0 := hu5.get (Up.get (by repeat (first | with_reducible exact Up.refl _ | with_reducible assumption | with_reducible refine Up.drewN ?_ _ | with_reducible refine Up.drew ?_ | with_reducible refine Up.alloc ?_ _ | with_reducible refine Up.setCell ?_ (by first | omega | (simp; done) | (simp; omega)) _ | with_reducible refine Up.trans ?_ (by assumption))) HB.out)
                have a0 := cell_of s0 0; have a1 := cell_of s0 1; have a2 := cell_of s0 2; have f0 := ice_of s0 0; have f1 := ice_of s0 1; have f2 := ice_of s0 2; have a4 := lt_of_heap s0; (try simp only [World.size_alloc, List.getElem?_toArray, List.getElem?_cons_zero, List.getElem?_cons_succ] at a0 a1 a2 f0 f1 f2 a4); clear s0
                have s0 := hu5.get (Up.get (by repeat (first | with_reducible exact Up.refl _ | with_reducible assumption | with_reducible refine Up.drewN ?_ _ | with_reducible refine Up.drew ?_ | with_reducible refine Up.alloc ?_ _ | with_reducible refine Up.setCell ?_ (by first | omega | (simp; done) | (simp; omega)) _ | with_reducible refine Up.trans ?_ (by assumption))) HX.out)
                have a0 := cell_of s0 0; have a1 := cell_of s0 1; have a2 := cell_of s0 2; have f0 := ice_of s0 0; have f1 := ice_of s0 1; have f2 := ice_of s0 2; have a4 := lt_of_heap s0; (try simp only [World.size_alloc, List.getElem?_toArray, List.getElem?_cons_zero, List.getElem?_cons_succ] at a0 a1 a2 f0 f1 f2 a4); clear s0
                have s0 := hu5.get (Up.get (by repeat (first | with_reducible exact Up.refl _ | with_reducible assumption | with_reducible refine Up.drewN ?_ _ | with_reducible refine Up.drew ?_ | with_reducible refine Up.alloc ?_ _ | with_reducible refine Up.setCell ?_ (by first | omega | (simp; done) | (simp; omega)) _ | with_reducible refine Up.trans ?_ (by assumption))) (alloc_get w4 _))
                have a0 := cell_of s0 0; have a1 := cell_of s0 1; have a2 := cell_of s0 2; have f0 := ice_of s0 0; have f1 := ice_of s0 1; have f2 := ice_of s0 2; have a4 := lt_of_heap s0; (try simp only [World.size_alloc, List.getElem?_toArray, List.getElem?_cons_zero, List.getElem?_cons_succ] at a0 a1 a2 f0 f1 f2 a4); clear s0
                go_wp2_with fail
                go_roundw
                case rel => exact ⟨q + 1, by omega, by simp, by have h9 := o8.to; rw [show (3 + (q : Int) + 1) = 3 + ((q + 1 : Nat) : Int) by omega] at h9; exact h9⟩
                case measure => simp [intOf]; omega
            · have hge2 : ¬ (q : Int) < klen := by omega
              go_wp2_with (first | (go_at_call 7; refine (known_any _).mono ?_; rintro e w1 ⟨rfl, hu⟩))
              go_ret
              exact ⟨rfl, o7.base.trans (by repeat (first | with_reducible exact Up.refl _ | with_reducible assumption | with_reducible refine Up.drewN ?_ _ | with_reducible refine Up.drew ?_ | with_reducible refine Up.alloc ?_ _ | with_reducible refine Up.setCell ?_ (by first | omega | (simp; done) | (simp; omega)) _ | with_reducible refine Up.trans ?_ (by assumption)))⟩

end Go.Proofs.YtmbipadiaggolaaDoor
