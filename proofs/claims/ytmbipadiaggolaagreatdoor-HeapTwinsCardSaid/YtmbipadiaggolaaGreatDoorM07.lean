import Derived.Deep.Light
import Derived.Deep.CutRange
import Derived.Deep.DeepCutAuto
import Derived.Outline
import Derived.Test.YtmbipadiaggolaaGreatDoorM01
/- YtmbipadiaggolaaGreatDoorM07: lemmas of the proof, in order: TextP. -/
/- Walks: the program's Decode (package text), its Runes. -/
namespace Go.Proofs.YtmbipadiaggolaaGreatDoor
open Go.RowKit
set_option linter.unusedSimpArgs false

set_option maxRecDepth 100000 in
theorem p_wide (x : Nat) (hx : x < 256) (w : World) :
    Calls Tryz.prog 78 #[.int .u8 x] w fun e w' => e = .returned (.tuple #[.int .i64 (wideS x).1, .int .i32 (wideS x).2.1]) ∧ w = w' := by
  go_enter Tryz.func78, Tryz.ntmps78
  go_wp2_with fail
  all_goals (refine bodyPost_eq (by (simp [results, Tryz.results78, go_sem, *]) <;> rfl) rfl ?_ ⟨rfl, rfl⟩)
  all_goals ((try simp only [beq_iff_eq, beq_eq_false_iff_ne, ne_eq] at *); unfold wideS; (repeat (first | rw [if_pos (by omega)] | rw [if_neg (by omega)])); (try simp only [Value.tuple.injEq, List.toArray_inj])); first | rfl | (congr 3 <;> omega) | (simp; omega)

def fitS (n v : Nat) : Bool := if n = 1 then true else if n = 2 then decide (128 ≤ v) else if n = 3 then decide (2048 ≤ v ∧ (v < 55296 ∨ 57343 < v)) else decide (65536 ≤ v ∧ v ≤ 1114111)

set_option maxRecDepth 100000 in
theorem p_fits (V : Int) (n v : Nat) (hV : V = (v : Int)) (hn : n = 1 ∨ n = 2 ∨ n = 3 ∨ n = 4) (w : World) :
    Calls Tryz.prog 79 #[.int .i32 V, .int .i64 n] w fun e w' => e = .returned (.bool (fitS n v)) ∧ w = w' := by
  have HV := Lib.hid hV
  clear hV
  rcases hn with rfl | rfl | rfl | rfl
  all_goals
    go_enter Tryz.func79, Tryz.ntmps79
    go_wp2_with fail
  all_goals (refine bodyPost_eq (by (simp [results, Tryz.results79, go_sem, *]) <;> rfl) rfl ?_ ⟨rfl, rfl⟩)
  all_goals have hV := HV.out
  all_goals first | rfl | (refine congrArg Value.bool ?_; rw [Bool.eq_iff_iff]; simp [fitS]; omega)

theorem runS_short : ∀ (k v : Nat) (l : List UInt8), l.length < k → runS v k l = none
  | 0, _, _, h => by omega
  | k + 1, _, [], _ => rfl
  | k + 1, v, a :: r, h => by
    simp only [runS]
    split
    · exact runS_short k _ r (by simp at h; omega)
    · rfl
def Bnd2 (j u : Nat) : Prop := (j = 0 ∧ u < 128) ∨ (j = 1 ∧ u < 8192) ∨ (j = 2 ∧ u < 524288) ∨ (j = 3 ∧ u < 33554432)
theorem decOf_fit {x n v0 ls u : Nat} (h : wideS x = (n, v0, ls)) (hn : n ≠ 0) (hb : (n = 1 ∧ u < 128) ∨ (n = 2 ∧ u < 2048) ∨ (n = 3 ∧ u < 65536) ∨ n = 4) : decOf n ls (some u) = if fitS n u = true then (u, n) else badS := by
  have hl : (n = 1 ∧ ls = 0) ∨ (n = 2 ∧ ls = 128) ∨ (n = 3 ∧ ls = 2048) ∨ (n = 4 ∧ ls = 65536) := by
    unfold wideS at h
    repeat' split at h
    all_goals (simp only [Prod.mk.injEq] at h; omega)
  unfold decOf fitS
  rcases hl with ⟨rfl, rfl⟩ | ⟨rfl, rfl⟩ | ⟨rfl, rfl⟩ | ⟨rfl, rfl⟩
  all_goals ((try simp only [Nat.reduceEqDiff, if_true, if_false, Nat.not_lt_zero, false_or, decide_eq_true_eq]); (repeat' split); all_goals first | rfl | (exfalso; omega) | (exfalso; simp_all; done) | (exfalso; simp_all; omega))
theorem wideS_bnd {x n v0 ls : Nat} (hx : x < 256) (h : wideS x = (n, v0, ls)) : (n = 0 ∧ v0 = 0) ∨ (n = 1 ∧ v0 < 128) ∨ (n = 2 ∧ v0 < 32) ∨ (n = 3 ∧ v0 < 16) ∨ (n = 4 ∧ v0 < 8) := by
  unfold wideS at h
  repeat' split at h
  all_goals (simp only [Prod.mk.injEq] at h; omega)
/-- how far the digits have grown -/
def Dig (n j u : Nat) : Prop := (n = 1 ∧ j = 0 ∧ u < 128) ∨ (n = 2 ∧ ((j = 0 ∧ u < 32) ∨ (j = 1 ∧ u < 2048))) ∨ (n = 3 ∧ ((j = 0 ∧ u < 16) ∨ (j = 1 ∧ u < 1024) ∨ (j = 2 ∧ u < 65536))) ∨ (n = 4 ∧ ((j = 0 ∧ u < 8) ∨ (j = 1 ∧ u < 512) ∨ (j = 2 ∧ u < 32768) ∨ (j = 3 ∧ u < 2097152)))

abbrev decV (r n : Int) (g : Bool) : Value := .tuple #[.int .i32 r, .int .i64 n, .bool g]

set_option maxRecDepth 100000 in
set_option maxHeartbeats 1000000 in
theorem p_decode (sa : Option Addr) (cap : Nat) (l : List UInt8) (w : World) (h : BytesAt w sa l) (hi : 0 < l.length) (hcap : l.length ≤ cap) :
    Calls Tryz.prog 64 #[.slice sa l.length cap, .int .i64 0] w fun e w' => (∃ g, e = .returned (decV (decS l).1 (decS l).2 g)) ∧ w' = w := by
  have HB := Lib.hid h
  have hm := h.1
  obtain ⟨b, off, X, rfl, hc, hX, hx0, hx1⟩ := h.byte 0 hi
  rw [Nat.add_zero] at hc
  have hb := cell_lt5 hc
  clear h
  obtain ⟨x, hx⟩ : ∃ x : Nat, x = (l.getD 0 0).toNat := ⟨_, rfl⟩
  rw [← hx] at hX
  subst hX
  rcases hq : wideS x with ⟨n, v0, ls⟩
  have hbd := wideS_bnd (by omega) hq
  have hw := Lib.hid (p_wide x (by omega))
  rw [hq] at hw
  dsimp only at hw
  obtain ⟨len, hlen⟩ : ∃ len, Hid (l.length = len) := ⟨_, rfl⟩
  obtain ⟨d, hd⟩ : ∃ d, Hid (decS l = d) := ⟨_, rfl⟩
  rw [hd.out]
  have HI := Lib.hid hi
  rw [hlen.out] at hi hm hcap ⊢
  have HX := Lib.hid (And.intro hx hq)
  clear hx hq
  by_cases hn : n = 0
  · subst hn
    have hd2 : Hid (d = badS) := by
      unfold Hid
      rw [← hd.out]
      have := decS_none l 0 v0 ls HI.out (by rw [← HX.out.1]; exact HX.out.2)
      simpa using this
    clear hbd
    go_enter Tryz.func64, Tryz.ntmps64
    go_wp2_with (first | (go_at_call 78; refine (hw.out _).mono ?_; rintro e w2 ⟨rfl, rfl⟩))
    refine bodyPost_ret (v := decV 65533 1 false) (by simp [results, Tryz.results64, go_sem, *]) rfl ⟨⟨false, by rw [hd2.out]; rfl⟩, rfl⟩
  · have hD := Lib.hid (decS_wide l 0 n v0 ls HI.out (by rw [← HX.out.1]; exact HX.out.2) hn)
    have hn0 : ¬ (n : Int) = 0 := by omega
    have hn4 : n ≤ 4 := by omega
    by_cases hnl : len < n
    · have hd2 : Hid (d = badS) := by
        unfold Hid
        rw [← hd.out]
        have h1 := hD.out
        rw [runS_short _ _ _ (by rw [List.length_drop, hlen.out]; omega)] at h1
        simpa [decOf] using h1
      have hnl2 : (len : Int) < (n : Int) := by omega
      clear hbd hnl hn
      go_enter Tryz.func64, Tryz.ntmps64
      go_wp2_with (first | (go_at_call 78; refine (hw.out _).mono ?_; rintro e w2 ⟨rfl, rfl⟩))
      refine bodyPost_ret (v := decV 65533 1 false) (by simp [results, Tryz.results64, go_sem, *]) rfl ⟨⟨false, by rw [hd2.out]; rfl⟩, rfl⟩
    · have hnl2 : (n : Int) ≤ (len : Int) := by omega
      have hnl3 : n ≤ len := by omega
      have hn1 : 1 ≤ n := by omega
      have HN := Lib.hid (And.intro hbd (And.intro hn hnl))
      clear hbd hn
      have hnz : ((n : Int) == 0) = false := by simpa using hn0
      by_cases hone : n = 1
      · subst hone
        have hd1 : Hid (d = decOf 1 ls (some v0)) := by
          unfold Hid
          rw [← hd.out]
          simpa [runS] using hD.out
        have hd2 : Hid (d = if fitS 1 v0 = true then (v0, 1) else badS) := by
          unfold Hid
          rw [hd1.out]
          exact decOf_fit HX.out.2 (by omega) (.inl ⟨rfl, by rcases HN.out.1 with h | h | h | h | h <;> omega⟩)
        have hv : Hid (d = (v0, 1)) := hd2.out
        clear hn0 hn4 hnl2 hnl3 hn1 hd1 hd2
        go_enter Tryz.func64, Tryz.ntmps64
        go_wp2_with (first | (go_at_call 78; refine (hw.out _).mono ?_; rintro e w2 ⟨rfl, rfl⟩))
        all_goals
          refine wp_loop_rounds 1 ?_
          rw [rounds_succ]
          go_wp2_with (first | (go_at_call 79; refine (p_fits v0 1 v0 rfl (.inl rfl) _).mono ?_; rintro e w2 ⟨rfl, rfl⟩; rw [show fitS 1 v0 = true from rfl]))
        all_goals refine bodyPost_ret (v := decV v0 1 true) (by simp [results, Tryz.results64, go_sem, *]) rfl ⟨⟨true, by rw [hv.out]; rfl⟩, rfl⟩
      · have hc1 : ¬ cap = 1 := by omega
        go_enter Tryz.func64, Tryz.ntmps64
        go_wp2_with (first | (go_at_call 78; refine (hw.out _).mono ?_; rintro e w2 ⟨rfl, rfl⟩))
        go_loopw [8, 10, 45] (fun r _ i wr => ∃ (j u : Nat), j + 1 ≤ n ∧ r = .int .i32 u ∧ i = .int .i64 j ∧ Hid (runS v0 (n - 1) (l.drop 1) = runS u (n - 1 - j) (l.drop (1 + j))) ∧ Dig n j u ∧ wr = w) (fun _ _ i _ => n - (intOf i).toNat)
        case atStart => exact ⟨0, v0, by omega, rfl, rfl, rfl, by have := HN.out.1; unfold Dig; omega, rfl⟩
        case round =>
          obtain ⟨j, u, hj, rfl, rfl, hrun, hdg, rfl⟩ := hrel
          have hub : u < 33554432 := by unfold Dig at hdg; omega
          have HG := Lib.hid hdg
          clear hdg
          by_cases hlt : j < n - 1
          · obtain ⟨b', off', Z, hbe, hZc, hZ, hz0, hz1⟩ := HB.out.byte (1 + j) (by rw [hlen.out]; omega)
            obtain ⟨rfl, rfl⟩ : b = b' ∧ off = off' := by simpa using hbe
            obtain ⟨z, hz⟩ : ∃ z : Nat, z = (l.getD (1 + j) 0).toNat := ⟨_, rfl⟩
            rw [← hz] at hZ
            subst hZ
            have HZ := Lib.hid hz
            clear hz hbe
            rw [← Nat.add_assoc] at hZc
            by_cases hz2 : z / 64 = 2
            · have hz3 : ((z : Int) / 64 == 2) = true := by simp; omega
              go_wp2_with fail
              go_roundw
              case rel =>
                refine ⟨j + 1, u * 64 + z % 64, by omega, by congr 1, by congr 1, ?_, ?_, trivial⟩
                · unfold Hid
                  have h1 : 128 ≤ (l.getD (1 + j) 0).toNat := by rw [← HZ.out]; omega
                  have h2 : (l.getD (1 + j) 0).toNat ≤ 191 := by rw [← HZ.out]; omega
                  rw [hrun.out, show n - 1 - j = (n - 1 - (j + 1)) + 1 by omega, runS_step u (n - 1 - (j + 1)) (1 + j) l (by rw [hlen.out]; omega) h1 h2, ← HZ.out]
                  congr 1
                  omega
                · have := HG.out
                  unfold Dig at this ⊢
                  omega
              case measure => simp [intOf]; omega
            · have hz3 : ((z : Int) / 64 == 2) = false := by simp; omega
              have hd2 : Hid (d = badS) := by
                unfold Hid
                have h1 := hD.out
                rw [List.drop_zero, hd.out, Nat.zero_add, hrun.out, show n - 1 - j = (n - 1 - (j + 1)) + 1 by omega, runS_stop u (n - 1 - (j + 1)) (1 + j) l (by rw [← HZ.out]; omega)] at h1
                exact h1
              go_wp2_with fail
              refine bodyPost_ret (v := decV 65533 1 false) (by simp [results, Tryz.results64, go_sem, *]) rfl ⟨⟨false, by rw [hd2.out]; rfl⟩, rfl⟩
          · obtain rfl : j = n - 1 := by omega
            have hd2 : Hid (d = if fitS n u = true then (u, n) else badS) := by
              unfold Hid
              have h1 := hD.out
              rw [List.drop_zero, hd.out, Nat.zero_add, hrun.out, Nat.sub_self] at h1
              rw [h1]
              simp only [runS]
              refine decOf_fit HX.out.2 (by omega) ?_
              have := HG.out
              unfold Dig at this
              omega
            cases hft : fitS n u
            · have hd3 : Hid (d = badS) := by unfold Hid; simp [hd2.out, hft]
              go_wp2_with (first | (go_at_call 79; refine (p_fits u n u rfl (by omega) _).mono ?_; rintro e w2 ⟨rfl, rfl⟩; rw [hft]))
              refine bodyPost_ret (v := decV 65533 1 false) (by simp [results, Tryz.results64, go_sem, *]) rfl ⟨⟨false, by rw [hd3.out]; rfl⟩, rfl⟩
            · have hd3 : Hid (d = (u, n)) := by unfold Hid; simp [hd2.out, hft]
              go_wp2_with (first | (go_at_call 79; refine (p_fits u n u rfl (by omega) _).mono ?_; rintro e w2 ⟨rfl, rfl⟩; rw [hft]))
              refine bodyPost_ret (v := decV u n true) (by simp [results, Tryz.results64, go_sem, *]) rfl ⟨⟨true, by rw [hd3.out]⟩, rfl⟩

end Go.Proofs.YtmbipadiaggolaaGreatDoor
