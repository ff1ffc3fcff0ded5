import Derived.Deep.Light
import Derived.Deep.CutRange
import Derived.Deep.DeepCutAuto
import Derived.Outline
import Derived.Test.YtmbipadiaggolaaGreatDoorM01
import Derived.Test.YtmbipadiaggolaaGreatDoorM05
/- YtmbipadiaggolaaGreatDoorM06: lemmas of the proof, in order: TextR. -/
/- Walks: the document's Decode, Runes (shuckref1). -/
namespace Go.Proofs.YtmbipadiaggolaaGreatDoor
open Go.RowKit
set_option linter.unusedSimpArgs false

set_option maxRecDepth 100000 in
theorem r_cont (sa : Option Addr) (cap : Nat) (l : List UInt8) (i : Nat) (w : World) (h : BytesAt w sa l) :
    Calls Tryz.prog 80 #[.slice sa l.length cap, .int .i64 i] w fun e w' => e = .returned (.bool (decide (i < l.length ∧ 128 ≤ (l.getD i 0).toNat ∧ (l.getD i 0).toNat ≤ 191))) ∧ w = w' := by
  obtain ⟨hm, h⟩ := h
  by_cases hlt : i < l.length
  · obtain ⟨b, off, rfl, hc⟩ := h i hlt
    have hb := cell_lt5 hc
    clear h
    obtain ⟨X, hX⟩ : ∃ X : Int, X = ((l.getD i 0).toNat : Int) := ⟨_, rfl⟩
    have hg : Hid ((decide (i < l.length ∧ 128 ≤ (l.getD i 0).toNat ∧ (l.getD i 0).toNat ≤ 191)) = (decide (128 ≤ X) && decide (X ≤ 191))) := by
      unfold Hid; subst hX; generalize (l.getD i 0).toNat = y; rw [← Bool.decide_and]; simp only [decide_eq_decide]; omega
    rw [hg.out]
    rw [← hX] at hc
    clear hX hg
    generalize l.length = len at hlt hm ⊢
    by_cases h1 : 128 ≤ X
    · go_enter Tryz.func80, Tryz.ntmps80
      go_wp2_with fail
      go_ret
      exact ⟨by simp [h1], rfl⟩
    · go_enter Tryz.func80, Tryz.ntmps80
      go_wp2_with fail
      go_ret
      exact ⟨by simp; omega, rfl⟩
  · clear h
    have h2 : ¬ (i : Int) < l.length := by omega
    go_enter Tryz.func80, Tryz.ntmps80
    go_wp2_with fail
    go_ret
    exact ⟨by simp [hlt], rfl⟩

theorem r_cont_at (sa : Option Addr) (cap len : Nat) (l : List UInt8) (hl : l.length = len) (i : Nat) (q : Int) (hq : q = (i : Int)) (w : World) (h : BytesAt w sa l) :
    Calls Tryz.prog 80 #[.slice sa len cap, .int .i64 q] w fun e w' => e = .returned (.bool (decide (i < l.length ∧ 128 ≤ (l.getD i 0).toNat ∧ (l.getD i 0).toNat ≤ 191))) ∧ w = w' := by
  subst hq hl
  exact r_cont sa cap l i w h
def Bnd (j u : Nat) : Prop := (j = 0 ∧ u < 32) ∨ (j = 1 ∧ u < 2048) ∨ (j = 2 ∧ u < 131072) ∨ (j = 3 ∧ u < 8388608)

abbrev rowV (at_ r n : Int) (g : Bool) : Value := .agg #[.int .i64 at_, .int .i32 r, .int .i64 n, .bool g]

set_option maxRecDepth 100000 in
set_option maxHeartbeats 1000000 in
theorem r_decode (sa : Option Addr) (cap : Nat) (l : List UInt8) (at_ : Nat) (w : World) (h : BytesAt w sa l) (hi : at_ < l.length) :
    Calls Tryz.prog 65 #[.slice sa l.length cap, .int .i64 at_] w fun e w' => (∃ g, e = .returned (rowV at_ (decS (l.drop at_)).1 (decS (l.drop at_)).2 g)) ∧ Up w w' := by
  have HB := Lib.hid h
  have hm := h.1
  obtain ⟨b, off, X, rfl, hc, hX, hx0, hx1⟩ := h.byte at_ hi
  have hb := cell_lt5 hc
  clear h
  by_cases h128 : X < 128
  · have hd1 := decS_wide l at_ 1 _ 0 hi (show wideS (l.getD at_ 0).toNat = (1, (l.getD at_ 0).toNat, 0) by unfold wideS; rw [if_pos (by omega)]) (by omega)
    have hd2 : Hid (decS (l.drop at_) = (X.toNat, 1)) := by
      unfold Hid
      rw [hd1, hX]
      simp only [runS, decOf, Nat.sub_self]
      rw [if_neg (by omega)]
      rfl
    rw [hd2.out]
    clear hd1
    obtain ⟨len, hlen⟩ : ∃ len, Hid (l.length = len) := ⟨_, rfl⟩
    rw [hlen.out] at hi hm ⊢
    obtain ⟨Y, hY, hYX⟩ : ∃ Y : Int, Hid (Y = (X.toNat : Int)) ∧ X = Y := ⟨_, rfl, by omega⟩
    rw [← hY.out]
    subst hYX
    have HX := Lib.hid hX
    clear hX hY
    go_enter Tryz.func65, Tryz.ntmps65
    go_wp2_with fail
    refine bodyPost_ret (v := rowV at_ X 1 true) (by simp [results, Tryz.results65, go_sem, *]) rfl ⟨⟨true, rfl⟩, uq⟩
  · by_cases h192 : 192 ≤ X ∧ X ≤ 223
    · obtain ⟨h1, h2⟩ := h192
      have hw : wideS (l.getD at_ 0).toNat = (2, (l.getD at_ 0).toNat - 192, 128) := by
        unfold wideS
        repeat (first | rw [if_neg (by omega)] | rw [if_pos (by omega)])
      have hD := Lib.hid (decS_wide l at_ 2 _ 128 hi hw (by omega))
      obtain ⟨V, hV⟩ : ∃ V : Nat, Hid (V = (l.getD at_ 0).toNat - 192) := ⟨_, rfl⟩
      rw [← hV.out] at hD
      obtain ⟨V0, hV0, hv0⟩ : ∃ V0 : Nat, Hid (V0 = V) ∧ X - 192 = (V0 : Int) := ⟨V, rfl, by rw [hV.out]; omega⟩
      have hvb : V0 < 32 := by omega
      have HI := Lib.hid hi
      obtain ⟨len, hlen⟩ : ∃ len, Hid (l.length = len) := ⟨_, rfl⟩
      rw [hlen.out] at hi hm ⊢
      obtain ⟨d, hd⟩ : ∃ d, Hid (decS (l.drop at_) = d) := ⟨_, rfl⟩
      rw [hd.out]
      have HX := Lib.hid hX
      clear hX hw
      go_enter Tryz.func65, Tryz.ntmps65
      go_wp2_with fail
      go_loopw [8, 10] (fun v i wr => ∃ (j u : Nat), j + 1 ≤ 2 ∧ i = .int .i64 ((j : Int) + 1) ∧ v = .int .i64 u ∧ Hid (runS V 1 (l.drop (at_ + 1)) = runS u (1 - j) (l.drop (at_ + (j + 1)))) ∧ Bnd j u ∧ Up w wr ∧ wr.heap[w.heap.size + 1]? = some (.cells #[.int .i64 at_, .int .i32 65533, .int .i64 1, .bool false] 115 (0, 0)) ∧ wr.heap[w.heap.size]? = some (.cells #[.int .i64 0, .int .i32 0, .int .i64 0, .bool false] 115 (0, 0))) (fun _ i _ => 2 - (intOf i).toNat)
      case atStart => exact ⟨0, V0, by omega, rfl, rfl, by unfold Hid; rw [hV0.out], .inl ⟨rfl, hvb⟩, uq, by first | exact alloc_get _ _ | exact alloc_at _ _ _ (by simp), (by repeat (first | exact alloc_at _ _ _ (by simp) | rw [alloc_old _ _ _ (by (try simp only [World.size_alloc, setCell_size]); omega)] | rw [setCell_other (by omega)] | assumption))⟩
      case round =>
        obtain ⟨j, u, hj, rfl, rfl, hrun, hbd, hup, hbad, hres⟩ := hrel
        have s0 := hbad
        have g3 := cell_of s0 3
        simp only [List.getElem?_toArray, List.getElem?_cons_zero, List.getElem?_cons_succ] at g3
        have a0 := cell_of s0 0; have a1 := cell_of s0 1; have a2 := cell_of s0 2; have f0 := ice_of s0 0; have f1 := ice_of s0 1; have f2 := ice_of s0 2; have a4 := lt_of_heap s0; (try simp only [World.size_alloc, List.getElem?_toArray, List.getElem?_cons_zero, List.getElem?_cons_succ] at a0 a1 a2 f0 f1 f2 a4); clear s0
        have s0 := hres
        have g3' := cell_of s0 3
        have g4 := ice_of s0 3
        simp only [List.getElem?_toArray, List.getElem?_cons_zero, List.getElem?_cons_succ] at g3'
        have a0 := cell_of s0 0; have a1 := cell_of s0 1; have a2 := cell_of s0 2; have f0 := ice_of s0 0; have f1 := ice_of s0 1; have f2 := ice_of s0 2; have a4 := lt_of_heap s0; (try simp only [World.size_alloc, List.getElem?_toArray, List.getElem?_cons_zero, List.getElem?_cons_succ] at a0 a1 a2 f0 f1 f2 a4); clear s0
        have HRS := Lib.hid hres
        clear hres
        have hub : u < 8388608 := by rcases hbd with h | h | h | h <;> omega
        have hj3 : j ≤ 3 := by omega
        have hsz := hup.size
        have HBD := Lib.hid hbd
        have HBX := Lib.hid hbad
        clear hbd hbad
        by_cases hlt : (j : Int) + 1 < 2
        · by_cases hc2 : at_ + (j + 1) < l.length ∧ 128 ≤ (l.getD (at_ + (j + 1)) 0).toNat ∧ (l.getD (at_ + (j + 1)) 0).toNat ≤ 191
          · have hcc : Hid (decide (at_ + (j + 1) < l.length ∧ 128 ≤ (l.getD (at_ + (j + 1)) 0).toNat ∧ (l.getD (at_ + (j + 1)) 0).toNat ≤ 191) = true) := decide_eq_true hc2
            obtain ⟨hc3, hc4, hc5⟩ := hc2
            have hst := Lib.hid (runS_step u (1 - j - 1) (at_ + (j + 1)) l hc3 hc4 hc5)
            obtain ⟨b', off', Z, hbe, hZc, hZ, _, _⟩ := (HB.out.up hup).byte (at_ + (j + 1)) hc3
            obtain ⟨rfl, rfl⟩ : b = b' ∧ off = off' := by simpa using hbe
            have hz1 : 128 ≤ Z := by omega
            have hz2 : Z ≤ 191 := by omega
            have HZ := Lib.hid hZ
            rw [hlen.out] at hc3
            have hlt2 : (j : Int) + 1 + at_ < len := by omega
            clear hc4 hc5 hZ hbe
            go_wp2_with (first | (go_at_call 80; refine (r_cont_at _ cap len l hlen.out (at_ + (j + 1)) _ (by omega) _ (HB.out.up uq)).mono ?_; rintro e w2 ⟨rfl, rfl⟩; rw [hcc.out]))
            go_roundw
            case rel =>
              refine ⟨j + 1, (u * 64 + (Z.toNat - 128)), by omega, by first | rfl | (congr 1; omega), by congr 1; omega, ?_, ?_, uq, HBX.out, HRS.out⟩
              · unfold Hid
                rw [hrun.out, show 1 - j = (1 - j - 1) + 1 by omega, hst.out, show 1 - (j + 1) = 1 - j - 1 by omega, show at_ + (j + 1 + 1) = at_ + (j + 1) + 1 by omega, HZ.out]
                rfl
              · have := HBD.out
                unfold Bnd at this ⊢
                omega
            case measure => simp [intOf]; omega
          · have hcc : Hid (decide (at_ + (j + 1) < l.length ∧ 128 ≤ (l.getD (at_ + (j + 1)) 0).toNat ∧ (l.getD (at_ + (j + 1)) 0).toNat ≤ 191) = false) := decide_eq_false hc2
            have hd2 : Hid (d = badS) := by
              unfold Hid
              rw [← hd.out, hD.out, show 2 - 1 = 1 from rfl, hrun.out, show 1 - j = (1 - j - 1) + 1 by omega, runS_stop _ _ _ l hc2]
              rfl
            clear hc2
            go_wp2_with (first | (go_at_call 80; refine (r_cont_at _ cap len l hlen.out (at_ + (j + 1)) _ (by omega) _ (HB.out.up uq)).mono ?_; rintro e w2 ⟨rfl, rfl⟩; rw [hcc.out]))
            refine bodyPost_ret (v := rowV at_ 65533 1 false) (by simp [results, Tryz.results65, go_sem, *]) rfl (by first | exact ⟨⟨false, by rw [hd2.out]; rfl⟩, uq⟩ | exact ⟨.inl (by rw [hd2.out]; rfl), uq⟩)
        · have hj2 : j = 1 := by omega
          have hd1 : Hid (d = decOf 2 128 (some u)) := by
            unfold Hid
            rw [← hd.out, hD.out, show 2 - 1 = 1 from rfl, hrun.out, hj2]
            simp only [Nat.sub_self, runS]
          clear hj2
          by_cases hbadv : u < 128 ∨ 1114111 < u ∨ (55296 ≤ u ∧ u ≤ 57343)
          · have hd2 : Hid (d = badS) := by unfold Hid; rw [hd1.out]; exact if_pos hbadv
            rcases hbadv with h1 | h1 | ⟨h1, h2⟩
            · go_wp2_with fail
              refine bodyPost_ret (v := rowV at_ 65533 1 false) (by simp [results, Tryz.results65, go_sem, *]) rfl (by first | exact ⟨⟨false, by rw [hd2.out]; rfl⟩, uq⟩ | exact ⟨.inl (by rw [hd2.out]; rfl), uq⟩)
            · go_wp2_with fail
              all_goals refine bodyPost_ret (v := rowV at_ 65533 1 false) (by simp [results, Tryz.results65, go_sem, *]) rfl (by first | exact ⟨⟨false, by rw [hd2.out]; rfl⟩, uq⟩ | exact ⟨.inl (by rw [hd2.out]; rfl), uq⟩)
            · go_wp2_with fail
              all_goals refine bodyPost_ret (v := rowV at_ 65533 1 false) (by simp [results, Tryz.results65, go_sem, *]) rfl (by first | exact ⟨⟨false, by rw [hd2.out]; rfl⟩, uq⟩ | exact ⟨.inl (by rw [hd2.out]; rfl), uq⟩)
          · have hd2 : Hid (d = (u, 2)) := by unfold Hid; rw [hd1.out]; exact if_neg hbadv
            have h3 : ¬ (u : Int) < 128 := by omega
            have h4 : ¬ (1114111 : Int) < u := by omega
            by_cases h5 : 55296 ≤ u
            · have h6 : ¬ (u : Int) ≤ 57343 := by omega
              clear hbadv
              go_wp2_with fail
              refine bodyPost_ret (v := rowV at_ u 2 true) (by simp [results, Tryz.results65, go_sem, *]) rfl (by first | exact ⟨⟨true, by rw [hd2.out]; rfl⟩, uq⟩ | exact ⟨.inr (by rw [hd2.out]; rfl), uq⟩)
            · have h6 : ¬ (55296 : Int) ≤ u := by omega
              clear hbadv h5
              go_wp2_with fail
              refine bodyPost_ret (v := rowV at_ u 2 true) (by simp [results, Tryz.results65, go_sem, *]) rfl (by first | exact ⟨⟨true, by rw [hd2.out]; rfl⟩, uq⟩ | exact ⟨.inr (by rw [hd2.out]; rfl), uq⟩)
    · by_cases h224 : 224 ≤ X ∧ X ≤ 239
      · obtain ⟨h1, h2⟩ := h224
        have h3 : ¬ X ≤ 223 := by omega
        clear h192
        have hw : wideS (l.getD at_ 0).toNat = (3, (l.getD at_ 0).toNat - 224, 2048) := by
          unfold wideS
          repeat (first | rw [if_neg (by omega)] | rw [if_pos (by omega)])
        have hD := Lib.hid (decS_wide l at_ 3 _ 2048 hi hw (by omega))
        obtain ⟨V, hV⟩ : ∃ V : Nat, Hid (V = (l.getD at_ 0).toNat - 224) := ⟨_, rfl⟩
        rw [← hV.out] at hD
        obtain ⟨V0, hV0, hv0⟩ : ∃ V0 : Nat, Hid (V0 = V) ∧ X - 224 = (V0 : Int) := ⟨V, rfl, by rw [hV.out]; omega⟩
        have hvb : V0 < 32 := by omega
        have HI := Lib.hid hi
        obtain ⟨len, hlen⟩ : ∃ len, Hid (l.length = len) := ⟨_, rfl⟩
        rw [hlen.out] at hi hm ⊢
        obtain ⟨d, hd⟩ : ∃ d, Hid (decS (l.drop at_) = d) := ⟨_, rfl⟩
        rw [hd.out]
        have HX := Lib.hid hX
        clear hX hw
        go_enter Tryz.func65, Tryz.ntmps65
        go_wp2_with fail
        go_loopw [8, 10] (fun v i wr => ∃ (j u : Nat), j + 1 ≤ 3 ∧ i = .int .i64 ((j : Int) + 1) ∧ v = .int .i64 u ∧ Hid (runS V 2 (l.drop (at_ + 1)) = runS u (2 - j) (l.drop (at_ + (j + 1)))) ∧ Bnd j u ∧ Up w wr ∧ wr.heap[w.heap.size + 1]? = some (.cells #[.int .i64 at_, .int .i32 65533, .int .i64 1, .bool false] 115 (0, 0)) ∧ wr.heap[w.heap.size]? = some (.cells #[.int .i64 0, .int .i32 0, .int .i64 0, .bool false] 115 (0, 0))) (fun _ i _ => 3 - (intOf i).toNat)
        case atStart => exact ⟨0, V0, by omega, rfl, rfl, by unfold Hid; rw [hV0.out], .inl ⟨rfl, hvb⟩, uq, by first | exact alloc_get _ _ | exact alloc_at _ _ _ (by simp), (by repeat (first | exact alloc_at _ _ _ (by simp) | rw [alloc_old _ _ _ (by (try simp only [World.size_alloc, setCell_size]); omega)] | rw [setCell_other (by omega)] | assumption))⟩
        case round =>
          obtain ⟨j, u, hj, rfl, rfl, hrun, hbd, hup, hbad, hres⟩ := hrel
          have s0 := hbad
          have g3 := cell_of s0 3
          simp only [List.getElem?_toArray, List.getElem?_cons_zero, List.getElem?_cons_succ] at g3
          have a0 := cell_of s0 0; have a1 := cell_of s0 1; have a2 := cell_of s0 2; have f0 := ice_of s0 0; have f1 := ice_of s0 1; have f2 := ice_of s0 2; have a4 := lt_of_heap s0; (try simp only [World.size_alloc, List.getElem?_toArray, List.getElem?_cons_zero, List.getElem?_cons_succ] at a0 a1 a2 f0 f1 f2 a4); clear s0
          have s0 := hres
          have g3' := cell_of s0 3
          have g4 := ice_of s0 3
          simp only [List.getElem?_toArray, List.getElem?_cons_zero, List.getElem?_cons_succ] at g3'
          have a0 := cell_of s0 0; have a1 := cell_of s0 1; have a2 := cell_of s0 2; have f0 := ice_of s0 0; have f1 := ice_of s0 1; have f2 := ice_of s0 2; have a4 := lt_of_heap s0; (try simp only [World.size_alloc, List.getElem?_toArray, List.getElem?_cons_zero, List.getElem?_cons_succ] at a0 a1 a2 f0 f1 f2 a4); clear s0
          have HRS := Lib.hid hres
          clear hres
          have hub : u < 8388608 := by rcases hbd with h | h | h | h <;> omega
          have hj3 : j ≤ 3 := by omega
          have hsz := hup.size
          have HBD := Lib.hid hbd
          have HBX := Lib.hid hbad
          clear hbd hbad
          by_cases hlt : (j : Int) + 1 < 3
          · by_cases hc2 : at_ + (j + 1) < l.length ∧ 128 ≤ (l.getD (at_ + (j + 1)) 0).toNat ∧ (l.getD (at_ + (j + 1)) 0).toNat ≤ 191
            · have hcc : Hid (decide (at_ + (j + 1) < l.length ∧ 128 ≤ (l.getD (at_ + (j + 1)) 0).toNat ∧ (l.getD (at_ + (j + 1)) 0).toNat ≤ 191) = true) := decide_eq_true hc2
              obtain ⟨hc3, hc4, hc5⟩ := hc2
              have hst := Lib.hid (runS_step u (2 - j - 1) (at_ + (j + 1)) l hc3 hc4 hc5)
              obtain ⟨b', off', Z, hbe, hZc, hZ, _, _⟩ := (HB.out.up hup).byte (at_ + (j + 1)) hc3
              obtain ⟨rfl, rfl⟩ : b = b' ∧ off = off' := by simpa using hbe
              have hz1 : 128 ≤ Z := by omega
              have hz2 : Z ≤ 191 := by omega
              have HZ := Lib.hid hZ
              rw [hlen.out] at hc3
              have hlt2 : (j : Int) + 1 + at_ < len := by omega
              clear hc4 hc5 hZ hbe
              go_wp2_with (first | (go_at_call 80; refine (r_cont_at _ cap len l hlen.out (at_ + (j + 1)) _ (by omega) _ (HB.out.up uq)).mono ?_; rintro e w2 ⟨rfl, rfl⟩; rw [hcc.out]))
              go_roundw
              case rel =>
                refine ⟨j + 1, (u * 64 + (Z.toNat - 128)), by omega, by first | rfl | (congr 1; omega), by congr 1; omega, ?_, ?_, uq, HBX.out, HRS.out⟩
                · unfold Hid
                  rw [hrun.out, show 2 - j = (2 - j - 1) + 1 by omega, hst.out, show 2 - (j + 1) = 2 - j - 1 by omega, show at_ + (j + 1 + 1) = at_ + (j + 1) + 1 by omega, HZ.out]
                  rfl
                · have := HBD.out
                  unfold Bnd at this ⊢
                  omega
              case measure => simp [intOf]; omega
            · have hcc : Hid (decide (at_ + (j + 1) < l.length ∧ 128 ≤ (l.getD (at_ + (j + 1)) 0).toNat ∧ (l.getD (at_ + (j + 1)) 0).toNat ≤ 191) = false) := decide_eq_false hc2
              have hd2 : Hid (d = badS) := by
                unfold Hid
                rw [← hd.out, hD.out, show 3 - 1 = 2 from rfl, hrun.out, show 2 - j = (2 - j - 1) + 1 by omega, runS_stop _ _ _ l hc2]
                rfl
              clear hc2
              go_wp2_with (first | (go_at_call 80; refine (r_cont_at _ cap len l hlen.out (at_ + (j + 1)) _ (by omega) _ (HB.out.up uq)).mono ?_; rintro e w2 ⟨rfl, rfl⟩; rw [hcc.out]))
              refine bodyPost_ret (v := rowV at_ 65533 1 false) (by simp [results, Tryz.results65, go_sem, *]) rfl (by first | exact ⟨⟨false, by rw [hd2.out]; rfl⟩, uq⟩ | exact ⟨.inl (by rw [hd2.out]; rfl), uq⟩)
          · have hj2 : j = 2 := by omega
            have hd1 : Hid (d = decOf 3 2048 (some u)) := by
              unfold Hid
              rw [← hd.out, hD.out, show 3 - 1 = 2 from rfl, hrun.out, hj2]
              simp only [Nat.sub_self, runS]
            clear hj2
            by_cases hbadv : u < 2048 ∨ 1114111 < u ∨ (55296 ≤ u ∧ u ≤ 57343)
            · have hd2 : Hid (d = badS) := by unfold Hid; rw [hd1.out]; exact if_pos hbadv
              rcases hbadv with h1 | h1 | ⟨h1, h2⟩
              · go_wp2_with fail
                refine bodyPost_ret (v := rowV at_ 65533 1 false) (by simp [results, Tryz.results65, go_sem, *]) rfl (by first | exact ⟨⟨false, by rw [hd2.out]; rfl⟩, uq⟩ | exact ⟨.inl (by rw [hd2.out]; rfl), uq⟩)
              · go_wp2_with fail
                all_goals refine bodyPost_ret (v := rowV at_ 65533 1 false) (by simp [results, Tryz.results65, go_sem, *]) rfl (by first | exact ⟨⟨false, by rw [hd2.out]; rfl⟩, uq⟩ | exact ⟨.inl (by rw [hd2.out]; rfl), uq⟩)
              · go_wp2_with fail
                all_goals refine bodyPost_ret (v := rowV at_ 65533 1 false) (by simp [results, Tryz.results65, go_sem, *]) rfl (by first | exact ⟨⟨false, by rw [hd2.out]; rfl⟩, uq⟩ | exact ⟨.inl (by rw [hd2.out]; rfl), uq⟩)
            · have hd2 : Hid (d = (u, 3)) := by unfold Hid; rw [hd1.out]; exact if_neg hbadv
              have h3 : ¬ (u : Int) < 2048 := by omega
              have h4 : ¬ (1114111 : Int) < u := by omega
              by_cases h5 : 55296 ≤ u
              · have h6 : ¬ (u : Int) ≤ 57343 := by omega
                clear hbadv
                go_wp2_with fail
                refine bodyPost_ret (v := rowV at_ u 3 true) (by simp [results, Tryz.results65, go_sem, *]) rfl (by first | exact ⟨⟨true, by rw [hd2.out]; rfl⟩, uq⟩ | exact ⟨.inr (by rw [hd2.out]; rfl), uq⟩)
              · have h6 : ¬ (55296 : Int) ≤ u := by omega
                clear hbadv h5
                go_wp2_with fail
                refine bodyPost_ret (v := rowV at_ u 3 true) (by simp [results, Tryz.results65, go_sem, *]) rfl (by first | exact ⟨⟨true, by rw [hd2.out]; rfl⟩, uq⟩ | exact ⟨.inr (by rw [hd2.out]; rfl), uq⟩)
      · by_cases h240 : 240 ≤ X ∧ X ≤ 247
        · obtain ⟨h1, h2⟩ := h240
          have h3 : ¬ X ≤ 223 := by omega
          have h4 : ¬ X ≤ 239 := by omega
          clear h192 h224
          have hw : wideS (l.getD at_ 0).toNat = (4, (l.getD at_ 0).toNat - 240, 65536) := by
            unfold wideS
            repeat (first | rw [if_neg (by omega)] | rw [if_pos (by omega)])
          have hD := Lib.hid (decS_wide l at_ 4 _ 65536 hi hw (by omega))
          obtain ⟨V, hV⟩ : ∃ V : Nat, Hid (V = (l.getD at_ 0).toNat - 240) := ⟨_, rfl⟩
          rw [← hV.out] at hD
          obtain ⟨V0, hV0, hv0⟩ : ∃ V0 : Nat, Hid (V0 = V) ∧ X - 240 = (V0 : Int) := ⟨V, rfl, by rw [hV.out]; omega⟩
          have hvb : V0 < 32 := by omega
          have HI := Lib.hid hi
          obtain ⟨len, hlen⟩ : ∃ len, Hid (l.length = len) := ⟨_, rfl⟩
          rw [hlen.out] at hi hm ⊢
          obtain ⟨d, hd⟩ : ∃ d, Hid (decS (l.drop at_) = d) := ⟨_, rfl⟩
          rw [hd.out]
          have HX := Lib.hid hX
          clear hX hw
          go_enter Tryz.func65, Tryz.ntmps65
          go_wp2_with fail
          go_loopw [8, 10] (fun v i wr => ∃ (j u : Nat), j + 1 ≤ 4 ∧ i = .int .i64 ((j : Int) + 1) ∧ v = .int .i64 u ∧ Hid (runS V 3 (l.drop (at_ + 1)) = runS u (3 - j) (l.drop (at_ + (j + 1)))) ∧ Bnd j u ∧ Up w wr ∧ wr.heap[w.heap.size + 1]? = some (.cells #[.int .i64 at_, .int .i32 65533, .int .i64 1, .bool false] 115 (0, 0)) ∧ wr.heap[w.heap.size]? = some (.cells #[.int .i64 0, .int .i32 0, .int .i64 0, .bool false] 115 (0, 0))) (fun _ i _ => 4 - (intOf i).toNat)
          case atStart => exact ⟨0, V0, by omega, rfl, rfl, by unfold Hid; rw [hV0.out], .inl ⟨rfl, hvb⟩, uq, by first | exact alloc_get _ _ | exact alloc_at _ _ _ (by simp), (by repeat (first | exact alloc_at _ _ _ (by simp) | rw [alloc_old _ _ _ (by (try simp only [World.size_alloc, setCell_size]); omega)] | rw [setCell_other (by omega)] | assumption))⟩
          case round =>
            obtain ⟨j, u, hj, rfl, rfl, hrun, hbd, hup, hbad, hres⟩ := hrel
            have s0 := hbad
            have g3 := cell_of s0 3
            simp only [List.getElem?_toArray, List.getElem?_cons_zero, List.getElem?_cons_succ] at g3
            have a0 := cell_of s0 0; have a1 := cell_of s0 1; have a2 := cell_of s0 2; have f0 := ice_of s0 0; have f1 := ice_of s0 1; have f2 := ice_of s0 2; have a4 := lt_of_heap s0; (try simp only [World.size_alloc, List.getElem?_toArray, List.getElem?_cons_zero, List.getElem?_cons_succ] at a0 a1 a2 f0 f1 f2 a4); clear s0
            have s0 := hres
            have g3' := cell_of s0 3
            have g4 := ice_of s0 3
            simp only [List.getElem?_toArray, List.getElem?_cons_zero, List.getElem?_cons_succ] at g3'
            have a0 := cell_of s0 0; have a1 := cell_of s0 1; have a2 := cell_of s0 2; have f0 := ice_of s0 0; have f1 := ice_of s0 1; have f2 := ice_of s0 2; have a4 := lt_of_heap s0; (try simp only [World.size_alloc, List.getElem?_toArray, List.getElem?_cons_zero, List.getElem?_cons_succ] at a0 a1 a2 f0 f1 f2 a4); clear s0
            have HRS := Lib.hid hres
            clear hres
            have hub : u < 8388608 := by rcases hbd with h | h | h | h <;> omega
            have hj3 : j ≤ 3 := by omega
            have hsz := hup.size
            have HBD := Lib.hid hbd
            have HBX := Lib.hid hbad
            clear hbd hbad
            by_cases hlt : (j : Int) + 1 < 4
            · by_cases hc2 : at_ + (j + 1) < l.length ∧ 128 ≤ (l.getD (at_ + (j + 1)) 0).toNat ∧ (l.getD (at_ + (j + 1)) 0).toNat ≤ 191
              · have hcc : Hid (decide (at_ + (j + 1) < l.length ∧ 128 ≤ (l.getD (at_ + (j + 1)) 0).toNat ∧ (l.getD (at_ + (j + 1)) 0).toNat ≤ 191) = true) := decide_eq_true hc2
                obtain ⟨hc3, hc4, hc5⟩ := hc2
                have hst := Lib.hid (runS_step u (3 - j - 1) (at_ + (j + 1)) l hc3 hc4 hc5)
                obtain ⟨b', off', Z, hbe, hZc, hZ, _, _⟩ := (HB.out.up hup).byte (at_ + (j + 1)) hc3
                obtain ⟨rfl, rfl⟩ : b = b' ∧ off = off' := by simpa using hbe
                have hz1 : 128 ≤ Z := by omega
                have hz2 : Z ≤ 191 := by omega
                have HZ := Lib.hid hZ
                rw [hlen.out] at hc3
                have hlt2 : (j : Int) + 1 + at_ < len := by omega
                clear hc4 hc5 hZ hbe
                go_wp2_with (first | (go_at_call 80; refine (r_cont_at _ cap len l hlen.out (at_ + (j + 1)) _ (by omega) _ (HB.out.up uq)).mono ?_; rintro e w2 ⟨rfl, rfl⟩; rw [hcc.out]))
                go_roundw
                case rel =>
                  refine ⟨j + 1, (u * 64 + (Z.toNat - 128)), by omega, by first | rfl | (congr 1; omega), by congr 1; omega, ?_, ?_, uq, HBX.out, HRS.out⟩
                  · unfold Hid
                    rw [hrun.out, show 3 - j = (3 - j - 1) + 1 by omega, hst.out, show 3 - (j + 1) = 3 - j - 1 by omega, show at_ + (j + 1 + 1) = at_ + (j + 1) + 1 by omega, HZ.out]
                    rfl
                  · have := HBD.out
                    unfold Bnd at this ⊢
                    omega
                case measure => simp [intOf]; omega
              · have hcc : Hid (decide (at_ + (j + 1) < l.length ∧ 128 ≤ (l.getD (at_ + (j + 1)) 0).toNat ∧ (l.getD (at_ + (j + 1)) 0).toNat ≤ 191) = false) := decide_eq_false hc2
                have hd2 : Hid (d = badS) := by
                  unfold Hid
                  rw [← hd.out, hD.out, show 4 - 1 = 3 from rfl, hrun.out, show 3 - j = (3 - j - 1) + 1 by omega, runS_stop _ _ _ l hc2]
                  rfl
                clear hc2
                go_wp2_with (first | (go_at_call 80; refine (r_cont_at _ cap len l hlen.out (at_ + (j + 1)) _ (by omega) _ (HB.out.up uq)).mono ?_; rintro e w2 ⟨rfl, rfl⟩; rw [hcc.out]))
                refine bodyPost_ret (v := rowV at_ 65533 1 false) (by simp [results, Tryz.results65, go_sem, *]) rfl (by first | exact ⟨⟨false, by rw [hd2.out]; rfl⟩, uq⟩ | exact ⟨.inl (by rw [hd2.out]; rfl), uq⟩)
            · have hj2 : j = 3 := by omega
              have hd1 : Hid (d = decOf 4 65536 (some u)) := by
                unfold Hid
                rw [← hd.out, hD.out, show 4 - 1 = 3 from rfl, hrun.out, hj2]
                simp only [Nat.sub_self, runS]
              clear hj2
              by_cases hbadv : u < 65536 ∨ 1114111 < u ∨ (55296 ≤ u ∧ u ≤ 57343)
              · have hd2 : Hid (d = badS) := by unfold Hid; rw [hd1.out]; exact if_pos hbadv
                rcases hbadv with h1 | h1 | ⟨h1, h2⟩
                · go_wp2_with fail
                  refine bodyPost_ret (v := rowV at_ 65533 1 false) (by simp [results, Tryz.results65, go_sem, *]) rfl (by first | exact ⟨⟨false, by rw [hd2.out]; rfl⟩, uq⟩ | exact ⟨.inl (by rw [hd2.out]; rfl), uq⟩)
                · go_wp2_with fail
                  all_goals refine bodyPost_ret (v := rowV at_ 65533 1 false) (by simp [results, Tryz.results65, go_sem, *]) rfl (by first | exact ⟨⟨false, by rw [hd2.out]; rfl⟩, uq⟩ | exact ⟨.inl (by rw [hd2.out]; rfl), uq⟩)
                · go_wp2_with fail
                  all_goals refine bodyPost_ret (v := rowV at_ 65533 1 false) (by simp [results, Tryz.results65, go_sem, *]) rfl (by first | exact ⟨⟨false, by rw [hd2.out]; rfl⟩, uq⟩ | exact ⟨.inl (by rw [hd2.out]; rfl), uq⟩)
              · have hd2 : Hid (d = (u, 4)) := by unfold Hid; rw [hd1.out]; exact if_neg hbadv
                have h3 : ¬ (u : Int) < 65536 := by omega
                have h4 : ¬ (1114111 : Int) < u := by omega
                have h5 : (55296 : Int) ≤ u := by omega
                have h6 : ¬ (u : Int) ≤ 57343 := by omega
                clear hbadv
                go_wp2_with fail
                refine bodyPost_ret (v := rowV at_ u 4 true) (by simp [results, Tryz.results65, go_sem, *]) rfl (by first | exact ⟨⟨true, by rw [hd2.out]; rfl⟩, uq⟩ | exact ⟨.inr (by rw [hd2.out]; rfl), uq⟩)
        · have hd2 : Hid (decS (l.drop at_) = badS) := by
            refine decS_none l at_ 0 0 hi ?_
            unfold wideS
            repeat (first | rw [if_neg (by omega)] | rw [if_pos (by omega)])
          rw [hd2.out]
          obtain ⟨len, hlen⟩ : ∃ len, Hid (l.length = len) := ⟨_, rfl⟩
          rw [hlen.out] at hi hm ⊢
          have HX := Lib.hid hX
          clear hX
          by_cases q1 : X < 192
          · have q2 : ¬ 192 ≤ X := by omega
            have q3 : ¬ 224 ≤ X := by omega
            have q4 : ¬ 240 ≤ X := by omega
            clear h192 h224 h240 q1
            go_enter Tryz.func65, Tryz.ntmps65
            go_wp2_with fail
            refine bodyPost_ret (v := rowV at_ 65533 1 false) (by simp [results, Tryz.results65, go_sem, *]) rfl (by first | exact ⟨⟨false, rfl⟩, uq⟩ | exact ⟨.inl rfl, uq⟩)
          · have q2 : ¬ X ≤ 223 := by omega
            have q3 : ¬ X ≤ 239 := by omega
            have q4 : ¬ X ≤ 247 := by omega
            clear h192 h224 h240 q1
            go_enter Tryz.func65, Tryz.ntmps65
            go_wp2_with fail
            refine bodyPost_ret (v := rowV at_ 65533 1 false) (by simp [results, Tryz.results65, go_sem, *]) rfl (by first | exact ⟨⟨false, rfl⟩, uq⟩ | exact ⟨.inl rfl, uq⟩)

end Go.Proofs.YtmbipadiaggolaaGreatDoor
