import Derived.Test.YtmbipadiaggolaaDoorArraysP
import Derived.Deep.CutRange
import Derived.Deep.DeepCutAuto
/- Walk: HeapArrays. -/
namespace Go.Proofs.YtmbipadiaggolaaDoor
open Go.RowKit
set_option linter.unusedSimpArgs false
attribute [local go_sem] ta_aa ta_ao ta_an ta_oa ta_oo ta_on m_kind_a m_kind_o m_behind_a m_behind_o m_own_a m_own_o

theorem cell_lt4 {w : World} {b o : Nat} {v : Value} (h : w.cell? ⟨b, o, none⟩ = some v) : b < w.heap.size := by
  rcases Nat.lt_or_ge b w.heap.size with h' | h'
  · exact h'
  · simp [World.cell?, Array.getElem?_eq_none h'] at h

/-- the heap and the box of the reference -/
def ArO (w0 : World) (hb rb : Nat) (H : HM) (w : World) : Prop := ∃ tvs own, Rep w hb H tvs own ∧ Up w0 w ∧ (∀ b, b < w0.heap.size → own b = none) ∧ own rb = none ∧ w.heap[rb]? = some (.cells #[.int .i64 5, .int .i64 0, .string ⟨#[]⟩] 35 (0, 0))
theorem ArO.ours {w0 w : World} {hb rb : Nat} {H : HM} (h : ArO w0 hb rb H w) : Ours w0 hb H w := let ⟨tvs, own, h1, h2, h3, _, _⟩ := h; ⟨tvs, own, h1, h2, h3⟩
theorem ArO.up {w0 w w' : World} {hb rb : Nat} {H : HM} (h : ArO w0 hb rb H w) (k : Up w w') : ArO w0 hb rb H w' := let ⟨tvs, own, h1, h2, h3, h4, h5⟩ := h; ⟨tvs, own, h1.up k, h2.trans k, h3, h4, k.get h5⟩
theorem ArO.box {w0 w : World} {hb rb : Nat} {H : HM} (h : ArO w0 hb rb H w) : w.heap[rb]? = some (.cells #[.int .i64 5, .int .i64 0, .string ⟨#[]⟩] 35 (0, 0)) := let ⟨_, _, _, _, _, _, h5⟩ := h; h5
theorem ArO.start {w0 w : World} {hb : Nat} {H : HM} (h : Ours w0 hb H w) : ArO w0 hb w.heap.size H (w.alloc (.cells #[.int .i64 5, .int .i64 0, .string ⟨#[]⟩] 35)) := by
  obtain ⟨tvs, own, h1, h2, h3⟩ := h
  refine ⟨tvs, own, h1.up (by repeat (first | with_reducible exact Up.refl _ | with_reducible assumption | with_reducible refine Up.drewN ?_ _ | with_reducible refine Up.drew ?_ | with_reducible refine Up.alloc ?_ _ | with_reducible refine Up.setCell ?_ (by first | omega | (simp; done) | (simp; omega)) _ | with_reducible refine Up.trans ?_ (by assumption))), h2.trans (by repeat (first | with_reducible exact Up.refl _ | with_reducible assumption | with_reducible refine Up.drewN ?_ _ | with_reducible refine Up.drew ?_ | with_reducible refine Up.alloc ?_ _ | with_reducible refine Up.setCell ?_ (by first | omega | (simp; done) | (simp; omega)) _ | with_reducible refine Up.trans ?_ (by assumption))), h3, ?_, alloc_get _ _⟩
  cases ho : own w.heap.size with
  | none => rfl
  | some m => have := h1.lt _ m ho; omega

theorem ar_push_o {w0 w : World} {hb rb : Nat} (zs : List Int) (n : Nat) (s : ByteArray) (x y : Int) (hx : x = (zs.getD n 0).tmod 100000) (hy : y = (n : Int) + 1) (h : n ≤ 200) (o : ArO w0 hb rb (arH (arVals zs n)) w) :
    Calls Tryd.prog 14 #[.pointer (some ⟨hb, 0, none⟩), .int .i64 0, .agg #[.int .i64 3, .int .i64 x, .string s]] w fun e w' => e = .returned (.tuple #[.int .i64 y, .int .i64 0]) ∧ ArO w0 hb rb (arH (arVals zs (n + 1))) w' := by
  subst hx hy
  obtain ⟨tvs, own, o1, o2, o3, o4, o5⟩ := o
  refine (Push_any hb _ tvs own 0 ⟨3, (zs.getD n 0).tmod 100000, s⟩ w o1).mono ?_
  intro e w' hw
  obtain ⟨h1, tvs', own', h2, h3⟩ := hw
  rw [ar_push zs n s h] at h1 h2
  obtain ⟨h4, h5⟩ := Mut.base o2 o3 h3
  have hrb := lt_of_heap o5
  exact ⟨h1, tvs', own', h2, h4, h5, (h3.ext rb hrb).trans o4, (h3.block rb hrb o4).trans o5⟩

set_option maxRecDepth 100000 in
set_option maxHeartbeats 4000000 in
theorem arrays_any (va : Option Addr) (vlen vcap : Nat) (zs : List Int) (w : World) (hm : vlen ≤ 9223372036854775807)
    (hc : ∀ k, k < vlen → ∃ b off, va = some ⟨b, off, none⟩ ∧ w.cell? ⟨b, off + k, none⟩ = some (.int .i64 (zs.getD k 0))) :
    Calls Tryd.prog 6 #[.slice va vlen vcap] w fun e w' => e = .returned (.bool true) ∧ Up w w' := by
  by_cases hin : 200 < vlen
  · clear hc
    go_enter Tryd.func6, Tryd.ntmps6
    go_wp2_with (first | (go_at_call 8; refine (New_good 5000 _ (by omega) (by omega)).mono ?_; rintro e w1 ⟨rfl, rfl⟩) | (go_at_call 7; refine (known_any _).mono ?_; rintro e w1 ⟨rfl, hu⟩))
    go_ret
    exact ⟨rfl, (by repeat (first | with_reducible exact Up.refl _ | with_reducible assumption | with_reducible refine Up.drewN ?_ _ | with_reducible refine Up.drew ?_ | with_reducible refine Up.alloc ?_ _ | with_reducible refine Up.setCell ?_ (by first | omega | (simp; done) | (simp; omega)) _ | with_reducible refine Up.trans ?_ (by assumption)))⟩
  · have HC := Lib.hid hc
    clear hc
    go_enter Tryd.func6, Tryd.ntmps6
    go_wp2_with (first | (go_at_call 8; refine (New_good 5000 _ (by omega) (by omega)).mono ?_; rintro e w1 ⟨rfl, rfl⟩; have o1 := Ours.fresh 5000 (Up.refl w) (by omega) (by omega)) | (go_at_call 10; refine (Make_ours 2 (-1) o1).mono ?_; rintro e w2 ⟨rfl, o2⟩; rw [ar_make] at o2; clear o1))
    have o5 := ArO.start o2
    generalize w2.heap.size = rb at o5 ⊢
    clear o2
    go_loopw [8] (fun i wr => ∃ k : Nat, k ≤ vlen ∧ i = .int .i64 k ∧ ArO w w.heap.size rb (arH (arVals zs k)) wr) (fun i _ => vlen - (intOf i).toNat)
    case atStart => exact ⟨0, Nat.zero_le _, rfl, o5⟩
    case round =>
      obtain ⟨k, hk, rfl, o6⟩ := hrel
      by_cases hlt : k < vlen
      · obtain ⟨vb, voff, rfl, hvcell⟩ := HC.out k hlt
        have hvb := cell_lt4 hvcell
        have hvw : wr.cell? ⟨vb, voff + k, none⟩ = some (.int .i64 (zs.getD k 0)) := (o6.ours.base.cells vb _ hvb).trans hvcell
        have ht := tmod_hund (zs.getD k 0)
        have hvl : vb < wr.heap.size := Nat.lt_of_lt_of_le hvb o6.ours.base.size
        obtain ⟨y, hy, hyx⟩ : ∃ y : Int, Hid (y = (k : Int) + 1) ∧ (y == (k : Int) + 1) = true := ⟨_, rfl, by simp⟩
        obtain ⟨z, hz⟩ : ∃ z : Int, Hid (z = zs.getD k 0) := ⟨_, rfl⟩
        rw [← hz.out] at ht hvw
        clear hvcell
        go_wp2_with (first | (go_at_call 14; refine (ar_push_o zs k _ _ y (by rw [← hz.out]) hy.out (by omega) (o6.up (by repeat (first | with_reducible exact Up.refl _ | with_reducible assumption | with_reducible refine Up.drewN ?_ _ | with_reducible refine Up.drew ?_ | with_reducible refine Up.alloc ?_ _ | with_reducible refine Up.setCell ?_ (by first | omega | (simp; done) | (simp; omega)) _ | with_reducible refine Up.trans ?_ (by assumption))))).mono ?_; rintro e w3 ⟨rfl, o7⟩))
        go_roundw
        case rel => exact ⟨k + 1, by omega, by simp, o7⟩
        case measure => simp [intOf]; omega
      · have hge : ¬ (k : Int) < vlen := by omega
        obtain rfl : vlen = k := by omega
        clear hlt o5 hk
        go_wp2_with fail
        go_loopw [11] (fun i wr => ∃ m : Int, -1 ≤ m ∧ m ≤ (vlen : Int) + 1 ∧ i = .int .i64 m ∧ ArO w w.heap.size rb (arH (arVals zs vlen)) wr) (fun i _ => ((vlen : Int) + 1 - intOf i).toNat)
        case atStart => exact ⟨-1, by omega, by omega, rfl, o6⟩
        case round =>
          obtain ⟨m, hm1, hm2, rfl, o7⟩ := hrel
          have s0 := o7.box
          have a0 := cell_of s0 0; have a1 := cell_of s0 1; have a2 := cell_of s0 2; have f0 := ice_of s0 0; have f1 := ice_of s0 1; have f2 := ice_of s0 2; have a4 := lt_of_heap s0; (try simp only [World.size_alloc, List.getElem?_toArray, List.getElem?_cons_zero, List.getElem?_cons_succ] at a0 a1 a2 f0 f1 f2 a4); clear s0
          by_cases hend : (vlen : Int) < m
          · have hge2 : ¬ m ≤ (vlen : Int) := by omega
            obtain ⟨y, hy, hyx⟩ : ∃ y : Int, Hid (y = (vlen : Int)) ∧ (y == (vlen : Int)) = true := ⟨_, rfl, by simp⟩
            obtain ⟨u, hub, hux⟩ : ∃ u : Int, Hid (u = (vlen : Int) + 1) ∧ (u == (vlen : Int) + 1) = true := ⟨_, rfl, by simp⟩
            have hlen : Hid ((vlen : Int) = ((arVals zs vlen).length : Int)) := by unfold Hid; rw [arVals_len]
            go_wp2_with (first | (go_at_call 12; refine (ar_length_ours _ _ y (hy.out.trans hlen.out) (o7.ours.up (by repeat (first | with_reducible exact Up.refl _ | with_reducible assumption | with_reducible refine Up.drewN ?_ _ | with_reducible refine Up.drew ?_ | with_reducible refine Up.alloc ?_ _ | with_reducible refine Up.setCell ?_ (by first | omega | (simp; done) | (simp; omega)) _ | with_reducible refine Up.trans ?_ (by assumption))))).mono ?_; rintro e w3 ⟨rfl, o8⟩) | (go_at_call 16; refine (ar_len_ours _ y (hy.out.trans hlen.out) (o8.up (by repeat (first | with_reducible exact Up.refl _ | with_reducible assumption | with_reducible refine Up.drewN ?_ _ | with_reducible refine Up.drew ?_ | with_reducible refine Up.alloc ?_ _ | with_reducible refine Up.setCell ?_ (by first | omega | (simp; done) | (simp; omega)) _ | with_reducible refine Up.trans ?_ (by assumption))))).mono ?_; rintro e w4 ⟨rfl, o9⟩) | (go_at_call 9; refine (Used_ours (H := ⟨5000, u, [⟨2, -1, [], arVals zs vlen⟩]⟩) (by rw [hub.out, hlen.out]; exact o9.up (by repeat (first | with_reducible exact Up.refl _ | with_reducible assumption | with_reducible refine Up.drewN ?_ _ | with_reducible refine Up.drew ?_ | with_reducible refine Up.alloc ?_ _ | with_reducible refine Up.setCell ?_ (by first | omega | (simp; done) | (simp; omega)) _ | with_reducible refine Up.trans ?_ (by assumption))))).mono ?_; rintro e w5 ⟨rfl, rfl⟩; simp only) | (go_at_call 7; refine (known_any _).mono ?_; rintro e w1 ⟨rfl, hu⟩))
            go_ret
            exact ⟨rfl, o9.base.trans (by repeat (first | with_reducible exact Up.refl _ | with_reducible assumption | with_reducible refine Up.drewN ?_ _ | with_reducible refine Up.drew ?_ | with_reducible refine Up.alloc ?_ _ | with_reducible refine Up.setCell ?_ (by first | omega | (simp; done) | (simp; omega)) _ | with_reducible refine Up.trans ?_ (by assumption)))⟩
          · have hle : m ≤ (vlen : Int) := by omega
            clear hend
            by_cases h0 : m < 0
            · obtain rfl : m = -1 := by omega
              go_wp2_with (first | (go_at_call 15; refine (ar_at_ours _ _ _ (-1) ⟨0, 0, ⟨#[]⟩⟩ (atVal_out zs vlen (-1) (by omega)).symm (by omega) (by omega) (o7.ours.up (by repeat (first | with_reducible exact Up.refl _ | with_reducible assumption | with_reducible refine Up.drewN ?_ _ | with_reducible refine Up.drew ?_ | with_reducible refine Up.alloc ?_ _ | with_reducible refine Up.setCell ?_ (by first | omega | (simp; done) | (simp; omega)) _ | with_reducible refine Up.trans ?_ (by assumption))))).mono ?_; rintro e w3 ⟨rfl, o8, hu⟩))
              go_roundw
              case rel => exact ⟨0, by omega, by omega, rfl, o7.up (Up.trans (by repeat (first | with_reducible exact Up.refl _ | with_reducible assumption | with_reducible refine Up.drewN ?_ _ | with_reducible refine Up.drew ?_ | with_reducible refine Up.alloc ?_ _ | with_reducible refine Up.setCell ?_ (by first | omega | (simp; done) | (simp; omega)) _ | with_reducible refine Up.trans ?_ (by assumption))) (hu.trans (by repeat (first | with_reducible exact Up.refl _ | with_reducible assumption | with_reducible refine Up.drewN ?_ _ | with_reducible refine Up.drew ?_ | with_reducible refine Up.alloc ?_ _ | with_reducible refine Up.setCell ?_ (by first | omega | (simp; done) | (simp; omega)) _ | with_reducible refine Up.trans ?_ (by assumption)))))⟩
              case measure => simp [intOf]; omega
            · obtain ⟨M, rfl⟩ := Int.eq_ofNat_of_zero_le (show 0 ≤ m by omega)
              clear h0
              by_cases hM : M < vlen
              · obtain ⟨vb, voff, rfl, hvcell⟩ := HC.out M hM
                have hvb := cell_lt4 hvcell
                have hvw : wr.cell? ⟨vb, voff + M, none⟩ = some (.int .i64 (zs.getD M 0)) := (o7.ours.base.cells vb _ hvb).trans hvcell
                have ht := tmod_hund (zs.getD M 0)
                have hvl : vb < wr.heap.size := Nat.lt_of_lt_of_le hvb o7.ours.base.size
                obtain ⟨z, hz⟩ : ∃ z : Int, Hid (z = zs.getD M 0) := ⟨_, rfl⟩
                obtain ⟨y, hy, hyx⟩ : ∃ y : Int, Hid (y = (zs.getD M 0).tmod 100000) ∧ (y == z.tmod 100000) = true := ⟨_, rfl, by rw [hz.out]; simp⟩
                rw [← hz.out] at ht hvw
                clear hvcell
                have hv : Hid ((⟨3, y, ⟨#[]⟩⟩ : Val) = atVal (arVals zs vlen) M) := by unfold Hid; rw [atVal_in zs vlen M hM, hy.out]; rfl
                go_wp2_with (first | (go_at_call 15; refine (ar_at_ours _ _ _ M ⟨3, y, ⟨#[]⟩⟩ hv.out (by omega) (by omega) (o7.ours.up (by repeat (first | with_reducible exact Up.refl _ | with_reducible assumption | with_reducible refine Up.drewN ?_ _ | with_reducible refine Up.drew ?_ | with_reducible refine Up.alloc ?_ _ | with_reducible refine Up.setCell ?_ (by first | omega | (simp; done) | (simp; omega)) _ | with_reducible refine Up.trans ?_ (by assumption))))).mono ?_; rintro e w3 ⟨rfl, o8, hu⟩; have hk : Up wr w3 := Up.trans (by repeat (first | with_reducible exact Up.refl _ | with_reducible assumption | with_reducible refine Up.drewN ?_ _ | with_reducible refine Up.drew ?_ | with_reducible refine Up.alloc ?_ _ | with_reducible refine Up.setCell ?_ (by first | omega | (simp; done) | (simp; omega)) _ | with_reducible refine Up.trans ?_ (by assumption))) hu; have hvw2 := (hk.cells vb _ hvl).trans hvw; have hvl2 : vb < w3.heap.size := Nat.lt_of_lt_of_le hvl hk.size))
                go_roundw
                case rel => exact ⟨(M : Int) + 1, by omega, by omega, rfl, o7.up (hk.trans (by repeat (first | with_reducible exact Up.refl _ | with_reducible assumption | with_reducible refine Up.drewN ?_ _ | with_reducible refine Up.drew ?_ | with_reducible refine Up.alloc ?_ _ | with_reducible refine Up.setCell ?_ (by first | omega | (simp; done) | (simp; omega)) _ | with_reducible refine Up.trans ?_ (by assumption))))⟩
                case measure => simp [intOf]; omega
              · obtain rfl : vlen = M := by omega
                go_wp2_with (first | (go_at_call 15; refine (ar_at_ours _ _ _ vlen ⟨0, 0, ⟨#[]⟩⟩ (atVal_out zs vlen vlen (by omega)).symm (by omega) (by omega) (o7.ours.up (by repeat (first | with_reducible exact Up.refl _ | with_reducible assumption | with_reducible refine Up.drewN ?_ _ | with_reducible refine Up.drew ?_ | with_reducible refine Up.alloc ?_ _ | with_reducible refine Up.setCell ?_ (by first | omega | (simp; done) | (simp; omega)) _ | with_reducible refine Up.trans ?_ (by assumption))))).mono ?_; rintro e w3 ⟨rfl, o8, hu⟩))
                go_roundw
                case rel => exact ⟨(vlen : Int) + 1, by omega, by omega, rfl, o7.up (Up.trans (by repeat (first | with_reducible exact Up.refl _ | with_reducible assumption | with_reducible refine Up.drewN ?_ _ | with_reducible refine Up.drew ?_ | with_reducible refine Up.alloc ?_ _ | with_reducible refine Up.setCell ?_ (by first | omega | (simp; done) | (simp; omega)) _ | with_reducible refine Up.trans ?_ (by assumption))) (hu.trans (by repeat (first | with_reducible exact Up.refl _ | with_reducible assumption | with_reducible refine Up.drewN ?_ _ | with_reducible refine Up.drew ?_ | with_reducible refine Up.alloc ?_ _ | with_reducible refine Up.setCell ?_ (by first | omega | (simp; done) | (simp; omega)) _ | with_reducible refine Up.trans ?_ (by assumption)))))⟩
                case measure => simp [intOf]

end Go.Proofs.YtmbipadiaggolaaDoor
