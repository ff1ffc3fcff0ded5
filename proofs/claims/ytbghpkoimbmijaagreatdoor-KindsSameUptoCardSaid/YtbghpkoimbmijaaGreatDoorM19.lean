import Derived.Shelf.Strings.Builder1
import Derived.Shelf.Strings.Builder2
import Derived.Shelf.Strings.OnBuilder
import Derived.Shelf.Strings.BuilderF
import Derived.Shelf.Strings.BuilderK
import Derived.Shelf.Strings.BuilderRune
import Derived.Shelf.Utf8.AppendRunePlain
import Derived.Shelf.Strings.Builder2Cap
import Derived.Shelf.Strconv.Itoa0
import Derived.Shelf.Strconv.Itoa1
import Derived.Shelf.LaysM
import Derived.Shelf.Strconv.Itoa2
import Derived.Shelf.Strconv.Itoa3
import Derived.Shelf.Strconv.Itoa4
import Derived.Shelf.Strings.Search1
import Derived.Shelf.Strings.Search2
import Derived.Shelf.Strings.Search3
import Derived.Shelf.Strings.Shaped
import Derived.Shelf.Strings.BuilderCap
import Derived.Shelf.Slices.Turned
import Derived.Ground.Names2Prog
import Derived.Shelf.Slices.Clone
import Derived.Ground.SlgnProg
import Derived.Shelf.SlicesE.Clone
import Derived.Test.YtbghpkoimbmijaaGreatDoorProg
import Derived.Deep.Light
import Derived.Deep.CutRange
import Derived.Deep.DeepCutAuto
import Derived.Outline
import Derived.Laws.IdiomStrings
import Derived.Laws.Externs
import Derived.Lib.UnsafeStr
import Derived.Lib.AppendStr
import Derived.Lib.Builder
import Derived.Lib.OthersKept
import Derived.Lib.OwnKind
import Derived.Lib.RuneBytes
import Derived.Test.YtbghpkoimbmijaaGreatDoorM07
import Derived.Test.YtbghpkoimbmijaaGreatDoorM01
import Derived.Test.YtbghpkoimbmijaaGreatDoorM03
import Derived.Test.YtbghpkoimbmijaaGreatDoorM08
/- YtbghpkoimbmijaaGreatDoorM19: lemmas of the proof, in order: ShelfB, QP, QI, QB. -/
/- Contracts of the library at this dump, in plain words (printed by the kit's lay-shelf.mjs, lay-plain.mjs; those that are used). -/
namespace Go.Proofs
open Go.Shelf
def Tryz.lays242_ren : Go.Shelf.Ren := ⟨fun | 242 => 102 | 278 => 112 | n => n, fun | 37 => 119 | 21 => 21 | 51 => 169 | 4 => 4 | 5 => 5 | 46 => 135 | n => n, fun | n => n⟩
theorem Tryz.lays242 : Go.Proofs.Lays.n242 Tryz.prog Tryz.lays242_ren := {
  mixed := by kernel_rfl
  f242 := Tryz.func102.trans (congrArg some (by kernel_rfl))
  f278 := Tryz.func112.trans (congrArg some (by kernel_rfl))
  t4 := Tryz.underlying4
  a4 := Tryz.isAgg4
  z4 := Tryz.sizeOf4
  v4 := Tryz.zeroValue4
  t5 := Tryz.underlying5
  a5 := Tryz.isAgg5
  z5 := Tryz.sizeOf5
  v5 := Tryz.zeroValue5
  t21 := Tryz.underlying21
  a21 := Tryz.isAgg21
  z21 := Tryz.sizeOf21
  v21 := Tryz.zeroValue21
  t37 := Tryz.underlying119
  a37 := Tryz.isAgg119
  z37 := Tryz.sizeOf119
  v37 := Tryz.zeroValue119
  t46 := Tryz.underlying135
  a46 := Tryz.isAgg135
  z46 := Tryz.sizeOf135
  v46 := Tryz.zeroValue135
  t51 := Tryz.underlying169
  a51 := Tryz.isAgg169
  z51 := Tryz.sizeOf169
  v51 := Tryz.zeroValue169 }
open Go.RowKit in
/-- unicode/utf8.AppendRune: "AppendRune appends the UTF-8 encoding of r to the end of p and returns the extended buffer. If the rune is out of range, it appends the encoding of RuneError.": ONTO A ROW OF BYTES THAT THE CALL OWNS (its head frozen or not): EVERY int32: 'Lib.runeCells r' goes in behind what the row holds; the world: one new block (the bytes as the call's variadic argument), then what 'append' does to the row. (LAID: no walk: one application.) -/
theorem Tryz.utf8_AppendRune_plain (B : Nat) (v : Value) (n : Nat) (xs : List Value) (r : Int) (hr0 : -2147483648 ≤ r) (hr1 : r ≤ 2147483647) (w : World) (hown : w.ownsRow B 5 1 v n xs) (hlen : n + 4 ≤ 140737488355328) (hBw : B ≤ w.heap.size) :
    Calls Tryz.prog 102 #[v, .int .i32 r] w fun e w' => ∃ v', e = .returned v' ∧ w'.ownsRow B 5 1 v' (n + (Lib.runeCells r).length) (xs ++ Lib.runeCells r) ∧ ∃ o, (w.alloc o).grownBy w' v.ownBlock := Any.utf8_AppendRune_plain Tryz.lays242 (by kernel_rfl) B v n xs r hr0 hr1 w hown hlen hBw
end Go.Proofs

/- Walks: the program's Decode (package text), its Runes. -/
namespace Go.Proofs.YtbghpkoimbmijaaGreatDoor
open Go.RowKit
set_option linter.unusedSimpArgs false

set_option maxRecDepth 100000 in
theorem p_wide (x : Nat) (hx : x < 256) (w : World) :
    Calls Tryz.prog 81 #[.int .u8 x] w fun e w' => e = .returned (.tuple #[.int .i64 (wideS x).1, .int .i32 (wideS x).2.1]) ∧ w = w' := by
  go_enter Tryz.func81, Tryz.ntmps81
  go_wp2_with fail
  all_goals (refine bodyPost_eq (by (simp [results, Tryz.results81, go_sem, *]) <;> rfl) rfl ?_ ⟨rfl, rfl⟩)
  all_goals ((try simp only [beq_iff_eq, beq_eq_false_iff_ne, ne_eq] at *); unfold wideS; (repeat (first | rw [if_pos (by omega)] | rw [if_neg (by omega)])); (try simp only [Value.tuple.injEq, List.toArray_inj])); first | rfl | (congr 3 <;> omega) | (simp; omega)

def fitS (n v : Nat) : Bool := if n = 1 then true else if n = 2 then decide (128 ≤ v) else if n = 3 then decide (2048 ≤ v ∧ (v < 55296 ∨ 57343 < v)) else decide (65536 ≤ v ∧ v ≤ 1114111)

set_option maxRecDepth 100000 in
theorem p_fits (V : Int) (n v : Nat) (hV : V = (v : Int)) (hn : n = 1 ∨ n = 2 ∨ n = 3 ∨ n = 4) (w : World) :
    Calls Tryz.prog 82 #[.int .i32 V, .int .i64 n] w fun e w' => e = .returned (.bool (fitS n v)) ∧ w = w' := by
  have HV := Lib.hid hV
  clear hV
  rcases hn with rfl | rfl | rfl | rfl
  all_goals
    go_enter Tryz.func82, Tryz.ntmps82
    go_wp2_with fail
  all_goals (refine bodyPost_eq (by (simp [results, Tryz.results82, go_sem, *]) <;> rfl) rfl ?_ ⟨rfl, rfl⟩)
  all_goals have hV := HV.out
  all_goals first | rfl | (refine congrArg Value.bool ?_; rw [Bool.eq_iff_iff]; simp [fitS]; omega)

theorem runS_short : ∀ (k v : Nat) (l : List UInt8), l.length < k → runS v k l = none
  | 0, _, _, h => by omega
  | k + 1, _, [], _ => rfl
  | k + 1, v, a :: r, h => by
    simp only [runS]
    split
    · exact runS_short k _ r (by simp at h; omega)
    · rfl
def Bnd2 (j u : Nat) : Prop := (j = 0 ∧ u < 128) ∨ (j = 1 ∧ u < 8192) ∨ (j = 2 ∧ u < 524288) ∨ (j = 3 ∧ u < 33554432)
theorem decOf_fit {x n v0 ls u : Nat} (h : wideS x = (n, v0, ls)) (hn : n ≠ 0) (hb : (n = 1 ∧ u < 128) ∨ (n = 2 ∧ u < 2048) ∨ (n = 3 ∧ u < 65536) ∨ n = 4) : decOf n ls (some u) = if fitS n u = true then (u, n) else badS := by
  have hl : (n = 1 ∧ ls = 0) ∨ (n = 2 ∧ ls = 128) ∨ (n = 3 ∧ ls = 2048) ∨ (n = 4 ∧ ls = 65536) := by
    unfold wideS at h
    repeat' split at h
    all_goals (simp only [Prod.mk.injEq] at h; omega)
  unfold decOf fitS
  rcases hl with ⟨rfl, rfl⟩ | ⟨rfl, rfl⟩ | ⟨rfl, rfl⟩ | ⟨rfl, rfl⟩
  all_goals ((try simp only [Nat.reduceEqDiff, if_true, if_false, Nat.not_lt_zero, false_or, decide_eq_true_eq]); (repeat' split); all_goals first | rfl | (exfalso; omega) | (exfalso; simp_all; done) | (exfalso; simp_all; omega))
theorem wideS_bnd {x n v0 ls : Nat} (hx : x < 256) (h : wideS x = (n, v0, ls)) : (n = 0 ∧ v0 = 0) ∨ (n = 1 ∧ v0 < 128) ∨ (n = 2 ∧ v0 < 32) ∨ (n = 3 ∧ v0 < 16) ∨ (n = 4 ∧ v0 < 8) := by
  unfold wideS at h
  repeat' split at h
  all_goals (simp only [Prod.mk.injEq] at h; omega)
/-- how far the digits have grown -/
def Dig (n j u : Nat) : Prop := (n = 1 ∧ j = 0 ∧ u < 128) ∨ (n = 2 ∧ ((j = 0 ∧ u < 32) ∨ (j = 1 ∧ u < 2048))) ∨ (n = 3 ∧ ((j = 0 ∧ u < 16) ∨ (j = 1 ∧ u < 1024) ∨ (j = 2 ∧ u < 65536))) ∨ (n = 4 ∧ ((j = 0 ∧ u < 8) ∨ (j = 1 ∧ u < 512) ∨ (j = 2 ∧ u < 32768) ∨ (j = 3 ∧ u < 2097152)))

abbrev decV (r n : Int) (g : Bool) : Value := .tuple #[.int .i32 r, .int .i64 n, .bool g]

set_option maxRecDepth 100000 in
set_option maxHeartbeats 1000000 in
theorem p_decode (sa : Option Addr) (cap : Nat) (l : List UInt8) (w : World) (h : BytesAt w sa l) (hi : 0 < l.length) (hcap : l.length ≤ cap) :
    Calls Tryz.prog 63 #[.slice sa l.length cap, .int .i64 0] w fun e w' => (∃ g, e = .returned (decV (decS l).1 (decS l).2 g)) ∧ w' = w := by
  have HB := Lib.hid h
  have hm := h.1
  obtain ⟨b, off, X, rfl, hc, hX, hx0, hx1⟩ := h.byte 0 hi
  rw [Nat.add_zero] at hc
  have hb := cell_lt5 hc
  clear h
  obtain ⟨x, hx⟩ : ∃ x : Nat, x = (l.getD 0 0).toNat := ⟨_, rfl⟩
  rw [← hx] at hX
  subst hX
  rcases hq : wideS x with ⟨n, v0, ls⟩
  have hbd := wideS_bnd (by omega) hq
  have hw := Lib.hid (p_wide x (by omega))
  rw [hq] at hw
  dsimp only at hw
  obtain ⟨len, hlen⟩ : ∃ len, Hid (l.length = len) := ⟨_, rfl⟩
  obtain ⟨d, hd⟩ : ∃ d, Hid (decS l = d) := ⟨_, rfl⟩
  rw [hd.out]
  have HI := Lib.hid hi
  rw [hlen.out] at hi hm hcap ⊢
  have HX := Lib.hid (And.intro hx hq)
  clear hx hq
  by_cases hn : n = 0
  · subst hn
    have hd2 : Hid (d = badS) := by
      unfold Hid
      rw [← hd.out]
      have := decS_none l 0 v0 ls HI.out (by rw [← HX.out.1]; exact HX.out.2)
      simpa using this
    clear hbd
    go_enter Tryz.func63, Tryz.ntmps63
    go_wp2_with (first | (go_at_call 81; refine (hw.out _).mono ?_; rintro e w2 ⟨rfl, rfl⟩))
    refine bodyPost_ret (v := decV 65533 1 false) (by simp [results, Tryz.results63, go_sem, *]) rfl ⟨⟨false, by rw [hd2.out]; rfl⟩, rfl⟩
  · have hD := Lib.hid (decS_wide l 0 n v0 ls HI.out (by rw [← HX.out.1]; exact HX.out.2) hn)
    have hn0 : ¬ (n : Int) = 0 := by omega
    have hn4 : n ≤ 4 := by omega
    by_cases hnl : len < n
    · have hd2 : Hid (d = badS) := by
        unfold Hid
        rw [← hd.out]
        have h1 := hD.out
        rw [runS_short _ _ _ (by rw [List.length_drop, hlen.out]; omega)] at h1
        simpa [decOf] using h1
      have hnl2 : (len : Int) < (n : Int) := by omega
      clear hbd hnl hn
      go_enter Tryz.func63, Tryz.ntmps63
      go_wp2_with (first | (go_at_call 81; refine (hw.out _).mono ?_; rintro e w2 ⟨rfl, rfl⟩))
      refine bodyPost_ret (v := decV 65533 1 false) (by simp [results, Tryz.results63, go_sem, *]) rfl ⟨⟨false, by rw [hd2.out]; rfl⟩, rfl⟩
    · have hnl2 : (n : Int) ≤ (len : Int) := by omega
      have hnl3 : n ≤ len := by omega
      have hn1 : 1 ≤ n := by omega
      have HN := Lib.hid (And.intro hbd (And.intro hn hnl))
      clear hbd hn
      have hnz : ((n : Int) == 0) = false := by simpa using hn0
      by_cases hone : n = 1
      · subst hone
        have hd1 : Hid (d = decOf 1 ls (some v0)) := by
          unfold Hid
          rw [← hd.out]
          simpa [runS] using hD.out
        have hd2 : Hid (d = if fitS 1 v0 = true then (v0, 1) else badS) := by
          unfold Hid
          rw [hd1.out]
          exact decOf_fit HX.out.2 (by omega) (.inl ⟨rfl, by rcases HN.out.1 with h | h | h | h | h <;> omega⟩)
        have hv : Hid (d = (v0, 1)) := hd2.out
        clear hn0 hn4 hnl2 hnl3 hn1 hd1 hd2
        go_enter Tryz.func63, Tryz.ntmps63
        go_wp2_with (first | (go_at_call 81; refine (hw.out _).mono ?_; rintro e w2 ⟨rfl, rfl⟩))
        all_goals
          refine wp_loop_rounds 1 ?_
          rw [rounds_succ]
          go_wp2_with (first | (go_at_call 82; refine (p_fits v0 1 v0 rfl (.inl rfl) _).mono ?_; rintro e w2 ⟨rfl, rfl⟩; rw [show fitS 1 v0 = true from rfl]))
        all_goals refine bodyPost_ret (v := decV v0 1 true) (by simp [results, Tryz.results63, go_sem, *]) rfl ⟨⟨true, by rw [hv.out]; rfl⟩, rfl⟩
      · have hc1 : ¬ cap = 1 := by omega
        go_enter Tryz.func63, Tryz.ntmps63
        go_wp2_with (first | (go_at_call 81; refine (hw.out _).mono ?_; rintro e w2 ⟨rfl, rfl⟩))
        go_loopw [8, 10, 45] (fun r _ i wr => ∃ (j u : Nat), j + 1 ≤ n ∧ r = .int .i32 u ∧ i = .int .i64 j ∧ Hid (runS v0 (n - 1) (l.drop 1) = runS u (n - 1 - j) (l.drop (1 + j))) ∧ Dig n j u ∧ wr = w) (fun _ _ i _ => n - (intOf i).toNat)
        case atStart => exact ⟨0, v0, by omega, rfl, rfl, rfl, by have := HN.out.1; unfold Dig; omega, rfl⟩
        case round =>
          obtain ⟨j, u, hj, rfl, rfl, hrun, hdg, rfl⟩ := hrel
          have hub : u < 33554432 := by unfold Dig at hdg; omega
          have HG := Lib.hid hdg
          clear hdg
          by_cases hlt : j < n - 1
          · obtain ⟨b', off', Z, hbe, hZc, hZ, hz0, hz1⟩ := HB.out.byte (1 + j) (by rw [hlen.out]; omega)
            obtain ⟨rfl, rfl⟩ : b = b' ∧ off = off' := by simpa using hbe
            obtain ⟨z, hz⟩ : ∃ z : Nat, z = (l.getD (1 + j) 0).toNat := ⟨_, rfl⟩
            rw [← hz] at hZ
            subst hZ
            have HZ := Lib.hid hz
            clear hz hbe
            rw [← Nat.add_assoc] at hZc
            by_cases hz2 : z / 64 = 2
            · have hz3 : ((z : Int) / 64 == 2) = true := by simp; omega
              go_wp2_with fail
              go_roundw
              case rel =>
                refine ⟨j + 1, u * 64 + z % 64, by omega, by congr 1, by congr 1, ?_, ?_, trivial⟩
                · unfold Hid
                  have h1 : 128 ≤ (l.getD (1 + j) 0).toNat := by rw [← HZ.out]; omega
                  have h2 : (l.getD (1 + j) 0).toNat ≤ 191 := by rw [← HZ.out]; omega
                  rw [hrun.out, show n - 1 - j = (n - 1 - (j + 1)) + 1 by omega, runS_step u (n - 1 - (j + 1)) (1 + j) l (by rw [hlen.out]; omega) h1 h2, ← HZ.out]
                  congr 1
                  omega
                · have := HG.out
                  unfold Dig at this ⊢
                  omega
              case measure => simp [intOf]; omega
            · have hz3 : ((z : Int) / 64 == 2) = false := by simp; omega
              have hd2 : Hid (d = badS) := by
                unfold Hid
                have h1 := hD.out
                rw [List.drop_zero, hd.out, Nat.zero_add, hrun.out, show n - 1 - j = (n - 1 - (j + 1)) + 1 by omega, runS_stop u (n - 1 - (j + 1)) (1 + j) l (by rw [← HZ.out]; omega)] at h1
                exact h1
              go_wp2_with fail
              refine bodyPost_ret (v := decV 65533 1 false) (by simp [results, Tryz.results63, go_sem, *]) rfl ⟨⟨false, by rw [hd2.out]; rfl⟩, rfl⟩
          · obtain rfl : j = n - 1 := by omega
            have hd2 : Hid (d = if fitS n u = true then (u, n) else badS) := by
              unfold Hid
              have h1 := hD.out
              rw [List.drop_zero, hd.out, Nat.zero_add, hrun.out, Nat.sub_self] at h1
              rw [h1]
              simp only [runS]
              refine decOf_fit HX.out.2 (by omega) ?_
              have := HG.out
              unfold Dig at this
              omega
            cases hft : fitS n u
            · have hd3 : Hid (d = badS) := by unfold Hid; simp [hd2.out, hft]
              go_wp2_with (first | (go_at_call 82; refine (p_fits u n u rfl (by omega) _).mono ?_; rintro e w2 ⟨rfl, rfl⟩; rw [hft]))
              refine bodyPost_ret (v := decV 65533 1 false) (by simp [results, Tryz.results63, go_sem, *]) rfl ⟨⟨false, by rw [hd3.out]; rfl⟩, rfl⟩
            · have hd3 : Hid (d = (u, n)) := by unfold Hid; simp [hd2.out, hft]
              go_wp2_with (first | (go_at_call 82; refine (p_fits u n u rfl (by omega) _).mono ?_; rintro e w2 ⟨rfl, rfl⟩; rw [hft]))
              refine bodyPost_ret (v := decV u n true) (by simp [results, Tryz.results63, go_sem, *]) rfl ⟨⟨true, by rw [hd3.out]⟩, rfl⟩

end Go.Proofs.YtbghpkoimbmijaaGreatDoor

/- Walks: the program's Runes: an iterator over the runes of a text. -/
namespace Go.Proofs.YtbghpkoimbmijaaGreatDoor
open Go.RowKit
set_option linter.unusedSimpArgs false
attribute [local go_sem] Oper.semAt_some

/-- what a text converted to bytes leaves -/
def bytesLaid (w : World) (s : ByteArray) : World := w.drew.alloc (.cells (bytesRow s (grownCap w s.size 0 5)) 5 ((bytesRow s (grownCap w s.size 0 5)).size, (bytesRow s (grownCap w s.size 0 5)).size + 1))
theorem bytesLaid_up (w : World) (s : ByteArray) : Up w (bytesLaid w s) := (Up.refl w).drew.alloc _
theorem bytesLaid_size (w : World) (s : ByteArray) : (bytesLaid w s).heap.size = w.heap.size + 1 := by simp [bytesLaid]
theorem conv_sb (s : ByteArray) (w : World) : (convert 9 119 (.string s)).run Tryz.prog w = .ok (.slice (some ⟨w.heap.size, 0, none⟩) s.size (grownCap w s.size 0 5)) (bytesLaid w s) :=
  run_bytes_of_string w _ _ 5 s Tryz.underlying9 Tryz.underlying119 Tryz.underlying5
theorem bytesLaid_at (w : World) (s : ByteArray) (h : s.size ≤ 1000000000) : BytesAt (bytesLaid w s) (some ⟨w.heap.size, 0, none⟩) s.data.toList := by
  refine ⟨by simpa using h, fun k hk => ⟨_, 0, rfl, ?_⟩⟩
  have hk' : k < s.data.size := by simpa using hk
  have := World.cell?_alloc_mark w.drew (bytesRow s (grownCap w s.size 0 5)) 5 ((bytesRow s (grownCap w s.size 0 5)).size, (bytesRow s (grownCap w s.size 0 5)).size + 1) (0 + k)
  rw [Nat.zero_add] at this ⊢
  rw [bytesRow_at s _ k hk'] at this
  refine Eq.trans this ?_
  simp [List.getD, Array.getElem?_eq_getElem hk']

theorem conv_bs (b cap : Nat) (l : List UInt8) (w : World) (h : BytesAt w (some ⟨b, 0, none⟩) l) : (convert 119 9 (.slice (some ⟨b, 0, none⟩) l.length cap)).run Tryz.prog w = .ok (.string ⟨l.toArray⟩) w :=
  run_convert_bytes_back w _ _ 5 ⟨b, 0, none⟩ cap l Tryz.underlying119 Tryz.underlying5 Tryz.underlying9 fun j hj => by
    obtain ⟨b', off, h1, h2⟩ := h.2 j hj
    cases h1
    rw [Addr.add_lit]
    simpa [List.getD, List.getElem?_eq_getElem hj] using h2

/-- Runes: its closure holds the text in a box -/
theorem p_runes (b cap : Nat) (l : List UInt8) (w : World) (h : BytesAt w (some ⟨b, 0, none⟩) l) :
    Calls Tryz.prog 88 #[.slice (some ⟨b, 0, none⟩) l.length cap] w fun e w' => e = .returned (.func (.func 101) #[] #[.pointer (some ⟨w.heap.size, 0, none⟩)]) ∧ w' = w.alloc (.cells #[.string ⟨l.toArray⟩] 9) := by
  have hc := conv_bs b cap l w h
  clear h
  go_enter Tryz.func88, Tryz.ntmps88
  go_wp2_with fail
  go_ret
  exact ⟨rfl, rfl⟩

def encR (x : Nat × Nat) : Array Value := #[.int .i64 x.1, .int .i32 x.2]

theorem extract_list (s : ByteArray) (a m : Nat) : (s.extract a m).data.toList = (s.data.toList.drop a).take (m - a) := by
  simp [ByteArray.data_extract, Array.toList_extract, List.extract_eq_take_drop]

/-- Decode of a text's bytes -/
theorem p_decode_s (q : Nat) (cap : Nat) (s : ByteArray) (w : World) (h : BytesAt w (some ⟨q, 0, none⟩) s.data.toList) (hi : 0 < s.size) (hcap : s.size ≤ cap) :
    Calls Tryz.prog 63 #[.slice (some ⟨q, 0, none⟩) s.size cap, .int .i64 0] w fun e w' => (∃ g, e = .returned (decV (decS s.data.toList).1 (decS s.data.toList).2 g)) ∧ w' = w := by
  have e : s.data.toList.length = s.size := by simp
  have := p_decode (some ⟨q, 0, none⟩) cap s.data.toList w h (by omega) (by omega)
  rw [e] at this
  exact this
attribute [local go_sem] conv_sb


/-- what a round that turns one block of its own keeps -/
structure OneKeep (n : Nat) (a b : World) : Prop where
  size : a.heap.size ≤ b.heap.size
  same : ∀ x o, x ≠ n → a.heap[x]? = some o → (o.isCells = true) → b.heap[x]? = some o
theorem OneKeep.refl (n : Nat) (w : World) : OneKeep n w w := ⟨Nat.le_refl _, fun _ _ _ h _ => h⟩
theorem OneKeep.trans {n : Nat} {a b c : World} (h : OneKeep n a b) (k : OneKeep n b c) : OneKeep n a c := ⟨Nat.le_trans h.size k.size, fun x o hx h1 h2 => k.same x o hx (h.same x o hx h1 h2) h2⟩
theorem OneKeep.up {n : Nat} {a b c : World} (h : OneKeep n a b) (k : Up b c) : OneKeep n a c := ⟨Nat.le_trans h.size k.size, fun x o hx h1 h2 => k.get (h.same x o hx h1 h2)⟩
theorem OneKeep.putObj (n : Nat) (W : World) (l : Nat) (o o' : Obj) (h : W.heap[l]? = some o) (hc : o.isCells = false) : OneKeep n W (W.putObj l o') where
  size := by simp
  same := fun x u _ hx hu => by
    rw [World.putObj_heap_other (fun e => by subst e; rw [h] at hx; cases hx; rw [hc] at hu; cases hu)]
    exact hx
theorem OneKeep.setCell (n i : Nat) (W : World) (v : Value) : OneKeep n W (W.setCell ⟨n, i, none⟩ v) := ⟨by rw [setCell_size]; exact Nat.le_refl _, fun x o hx h _ => by rw [setCell_other hx]; exact h⟩

end Go.Proofs.YtbghpkoimbmijaaGreatDoor

/- Walks: a strings.Builder in a block of its own. -/
namespace Go.Proofs.YtbghpkoimbmijaaGreatDoor
open Go.RowKit
set_option linter.unusedSimpArgs false

abbrev ByT : TypeId := 5
abbrev BuT : TypeId := 141
theorem infoByte : (Tryz.prog.info? ByT).map (fun i => (i.zero, i.size, i.bytes)) = some (some (.int .u8 0), 1, 1) := by kernel_rfl
theorem infoB : (Tryz.prog.info? 141).map (·.size) = some 2 := by kernel_rfl
theorem liesBu : liesAt Tryz.prog Tryz.prog.depth BuT (2 / Tryz.prog.cellsOf BuT) 0 BuT 1 = true := by kernel_rfl

/-- what a call on the builder at b leaves -/
structure Built (b : Nat) (bs : List UInt8) (w w' : World) : Prop where
  at_ : Lib.BuilderAt BuT ByT b b (.pointer (some ⟨b, 0, none⟩)) (Lib.byteCells bs) w'
  low : Below b w w'
  others : Lib.OthersKept ByT (some b) w w'
abbrev IsB (b : Nat) (bs : List UInt8) (w : World) : Prop := Lib.IsBuilder BuT ByT b b (Lib.byteCells bs) w
theorem Built.is {b : Nat} {bs : List UInt8} {w w' : World} (h : Built b bs w w') : IsB b bs w' := .inr h.at_

theorem IsB.lt {b : Nat} {bs : List UInt8} {w : World} (h : IsB b bs w) : b < w.heap.size := by
  rcases h with h | h
  · exact h.lt
  · exact h.lt
theorem BuilderAt.kept {b : Nat} {p : Value} {bs : List Value} {w w' : World} (h : Lib.BuilderAt BuT ByT b b p bs w) (hk : ∀ (x : Nat) (cs : Array Value) (t : TypeId) (fz : Nat × Nat), w.heap[x]? = some (.cells cs t fz) → w'.heap[x]? = some (.cells cs t fz)) : Lib.BuilderAt BuT ByT b b p bs w' := by
  obtain ⟨hB, v, h1, h2, h3⟩ := h
  refine ⟨hB, v, hk _ _ _ _ h1, ⟨h2.1, ?_⟩, h3⟩
  rcases h2.2 with h5 | ⟨g, cap, cur, hv, hg, hc, r⟩
  · exact .inl h5
  · exact .inr ⟨g, cap, cur, hv, hg, hk _ _ _ _ hc, r⟩
theorem IsB.kept {b : Nat} {bs : List UInt8} {w w' : World} (h : IsB b bs w) (hk : ∀ (x : Nat) (cs : Array Value) (t : TypeId) (fz : Nat × Nat), w.heap[x]? = some (.cells cs t fz) → w'.heap[x]? = some (.cells cs t fz)) : IsB b bs w' := by
  rcases h with h | h
  · exact .inl (BuilderAt.kept h hk)
  · exact .inr (BuilderAt.kept h hk)
theorem IsB.up {b : Nat} {bs : List UInt8} {w w' : World} (h : IsB b bs w) (k : Up w w')   : IsB b bs w' := IsB.kept h fun _ _ _ _ hx => k.get hx
theorem IsB.new (w : World) : IsB w.heap.size [] (w.alloc (.cells #[.pointer none, .slice none 0 0] BuT)) :=
  .inl ⟨Nat.le_refl _, _, alloc_get _ _, ⟨rfl, .inl ⟨rfl, rfl⟩⟩, by simp [Value.ownBlock]⟩

set_option maxRecDepth 100000 in
set_option maxHeartbeats 1000000 in
theorem cc_used (b : Nat) (w : World) (h0 : w.cell? ⟨b, 0, none⟩ = some (.pointer (some ⟨b, 0, none⟩))) :
    Calls Tryz.prog 100 #[.pointer (some ⟨b, 0, none⟩)] w fun e w' => e = .returned (.tuple #[]) ∧ w' = w := by
  obtain ⟨j, hj, _⟩ := Option.map_eq_some_iff.1 infoB
  go_enter Tryz.func100, Tryz.ntmps100
  go_wp2
  rw [Lib.run_neq_ptr_same w _ Tryz.underlying139 hj]
  go_wp2
  go_end0
  exact ⟨rfl, rfl⟩

set_option maxRecDepth 100000 in
set_option maxHeartbeats 1000000 in
theorem cc_fresh (b : Nat) (w : World) (h0 : w.cell? ⟨b, 0, none⟩ = some (.pointer none)) (hsh : w.shape? b = some (BuT, 2)) (hfz : w.frozen? ⟨b, 0, none⟩ = false) :
    Calls Tryz.prog 100 #[.pointer (some ⟨b, 0, none⟩)] w fun e w' => e = .returned (.tuple #[]) ∧ w' = w.setCell ⟨b, 0, none⟩ (.pointer (some ⟨b, 0, none⟩)) := by
  obtain ⟨j, hj, hjs⟩ := Option.map_eq_some_iff.1 infoB
  go_enter Tryz.func100, Tryz.ntmps100
  go_wp2
  rw [Lib.run_to_unsafe w ⟨b, 0, none⟩ Tryz.underlying139 Tryz.underlying167 hj (by rw [hjs]; decide) hsh (by simp)]
  simp only [Result.andThen]
  rw [Oper.upon_value]
  go_wp2
  rw [run_callFunc_extern Tryz.func111 (by kernel_rfl) (by kernel_rfl) (by kernel_rfl) (e := Extern.AbiNoEscape.same) (by kernel_rfl)]
  rw [Lib.run_noEscape]
  simp only [Result.andThen]
  rw [Oper.upon_value]
  go_wp2
  rw [Lib.run_from_unsafe w ⟨b, 0, none⟩ Tryz.underlying167 Tryz.underlying139 hj hsh liesBu]
  simp only [Result.andThen]
  rw [Oper.upon_value]
  go_wp2
  go_end0
  exact ⟨rfl, rfl⟩

theorem cc_any (b : Nat) (bs : List UInt8) (w : World) (h : IsB b bs w) :
    Calls Tryz.prog 100 #[.pointer (some ⟨b, 0, none⟩)] w fun e w' => e = .returned (.tuple #[]) ∧ Built b bs w w' := by
  rcases h with h | h
  · refine (cc_fresh b w h.cell0 h.shape h.frozen0).mono ?_
    rintro e w' ⟨rfl, rfl⟩
    exact ⟨rfl, h.used _, (Below.refl b w).setCell (p := ⟨b, 0, none⟩) h.1 _, (Lib.OthersKept.refl _ _ w).setCell ⟨b, 0, none⟩ rfl _⟩
  · refine (cc_used b w h.cell0).mono ?_
    rintro e w' ⟨rfl, rfl⟩
    exact ⟨rfl, h, Below.refl b _, Lib.OthersKept.refl _ _ _⟩

theorem neBu : BuT ≠ ByT := by decide

set_option maxRecDepth 100000 in
set_option maxHeartbeats 2000000 in
theorem WriteByte_b (b : Nat) (bs : List UInt8) (c : UInt8) (w : World) (h : IsB b bs w) (hlen : bs.length + 1 ≤ 140737488355328) :
    Calls Tryz.prog 87 #[.pointer (some ⟨b, 0, none⟩), .int .u8 c.toNat] w fun e w' => e = .returned .nilIface ∧ Built b (bs ++ [c]) w w' := by
  obtain ⟨i0, hi, hz0, hz1, hz2⟩ := info_parts infoByte
  have hh := Lib.hid h
  have hL := Lib.hid hlen
  have hbw := Nat.le_of_lt h.lt
  clear h hlen
  go_enter Tryz.func87, Tryz.ntmps87
  go_wp2_with (go_at_call 100; refine (cc_any b bs _ hh.out).mono ?_)
  rintro e w1 ⟨rfl, h1, hb1, hk1⟩
  obtain ⟨hB, v, hbk, hown, hne⟩ := h1
  have c0 := cell_of hbk 0
  have c1 := cell_of hbk 1
  simp only [List.getElem?_toArray, List.getElem?_cons_zero, List.getElem?_cons_succ] at c0 c1
  rw [Lib.byteCells_length] at hown
  have HX := Lib.hid (And.intro hb1 (And.intro hbk (And.intro hown (And.intro hne hk1))))
  clear hb1 hbk hown hne hk1
  go_wp2_with (at_builtin; refine wpList_append_own _ rfl _ _ 119 rfl b ByT i0 (.int .u8 0) 1 1 Tryz.underlying119 hi hz0 hz1 hz2 rfl (by decide) _ _ _ rfl (HX.out.2.2.1.alloc _) ⟨w1.heap.size, 0, none⟩ 1 1 [.int .u8 c.toNat] rfl rfl ?c1 ?c2 ?c3 ?c4 ?c5 ?_)
  case c1 =>
    intro j u hj
    match j, hj with
    | 0, hj => simp at hj; subst hj; simp [Addr.add]
  case c2 => intro u hu; simp at hu; subst hu; rfl
  case c3 => have := hL.out; unfold maxLen; omega
  case c4 => have := hL.out; omega
  case c5 => have := HX.out.1.size; simp; omega
  intro v' w2 hown' hgrow _
  obtain ⟨hb1, hbk, hown, hne, hk1⟩ := HX.out
  have hlt := lt_of_heap hbk
  have hb2 : w2.heap[b]? = some (.cells #[.pointer (some ⟨b, 0, none⟩), v] BuT (0, 0)) := by
    rw [hgrow.block b (by simp; omega) (fun e => hne e.symm)]
    exact alloc_keep hbk
  obtain ⟨ao, cap, rfl⟩ := slice_form hown'
  have d0 := cell_of hb2 0
  have d1 := cell_of hb2 1
  have f1 := ice_of hb2 1
  simp only [List.getElem?_toArray, List.getElem?_cons_zero, List.getElem?_cons_succ] at d0 d1
  have HY := Lib.hid (And.intro hown' (And.intro hgrow hb2))
  clear hown' hgrow hb2 hb1 hbk hown hne hk1
  go_wp2
  go_ret
  obtain ⟨hb1, hbk, hown, hne, hk1⟩ := HX.out
  obtain ⟨hown', hgrow, hb2⟩ := HY.out
  refine ⟨rfl, ?_, ?_, ?_⟩
  · exact Lib.BuilderAt.put (T := BuT) (e := ByT) hB hb2 (bs' := Lib.byteCells (bs ++ [c])) (by simpa [Lib.byteCells] using hown') neBu
  · exact ((hb1.alloc (by have := hb1.size; omega) _).grown hgrow (by have := hb1.size; simp; omega) (fun k hk => (hown.lt k hk).1)).setCell (p := ⟨b, 1, none⟩) hB _
  · exact ((hk1.alloc _).grown hgrow (Lib.ownsRow_kind (hown.alloc _))).setCell ⟨b, 1, none⟩ rfl _

set_option maxRecDepth 100000 in
set_option maxHeartbeats 2000000 in
theorem WriteString_b (b : Nat) (bs : List UInt8) (s : ByteArray) (w : World) (h : IsB b bs w) (hlen : bs.length + s.size ≤ 140737488355328) :
    Calls Tryz.prog 90 #[.pointer (some ⟨b, 0, none⟩), .string s] w fun e w' => e = .returned (.tuple #[.int .i64 s.size, .nilIface]) ∧ Built b (bs ++ s.data.toList) w w' := by
  obtain ⟨i0, hi, hz0, hz1, hz2⟩ := info_parts infoByte
  have hh := Lib.hid h
  have hL := Lib.hid hlen
  have hbw := Nat.le_of_lt h.lt
  clear h hlen
  go_enter Tryz.func90, Tryz.ntmps90
  go_wp2_with (go_at_call 100; refine (cc_any b bs _ hh.out).mono ?_)
  rintro e w1 ⟨rfl, h1, hb1, hk1⟩
  obtain ⟨hB, v, hbk, hown, hne⟩ := h1
  have c0 := cell_of hbk 0
  have c1 := cell_of hbk 1
  simp only [List.getElem?_toArray, List.getElem?_cons_zero, List.getElem?_cons_succ] at c0 c1
  rw [Lib.byteCells_length] at hown
  have HX := Lib.hid (And.intro hb1 (And.intro hbk (And.intro hown (And.intro hne hk1))))
  clear hb1 hbk hown hne hk1
  go_wp2_with (at_builtin; refine Lib.wpList_append_own_string _ rfl _ _ 119 9 rfl b ByT i0 Tryz.underlying119 Tryz.underlying9 hi hz0 hz1 hz2 _ _ _ rfl HX.out.2.2.1 s rfl ?c3 ?c4 ?c5 ?_)
  case c3 => have := hL.out; unfold maxLen; omega
  case c4 => have := hL.out; omega
  case c5 => have := HX.out.1.size; omega
  intro v' w2 hown' hgrow _
  obtain ⟨hb1, hbk, hown, hne, hk1⟩ := HX.out
  have hlt := lt_of_heap hbk
  have hb2 : w2.heap[b]? = some (.cells #[.pointer (some ⟨b, 0, none⟩), v] BuT (0, 0)) := by
    rw [hgrow.block b hlt (fun e => hne e.symm)]
    exact hbk
  obtain ⟨ao, cap, rfl⟩ := slice_form hown'
  have d0 := cell_of hb2 0
  have d1 := cell_of hb2 1
  have f1 := ice_of hb2 1
  simp only [List.getElem?_toArray, List.getElem?_cons_zero, List.getElem?_cons_succ] at d0 d1
  have HY := Lib.hid (And.intro hown' (And.intro hgrow hb2))
  clear hown' hgrow hb2 hb1 hbk hown hne hk1
  go_wp2
  go_ret2
  obtain ⟨hb1, hbk, hown, hne, hk1⟩ := HX.out
  obtain ⟨hown', hgrow, hb2⟩ := HY.out
  refine ⟨rfl, ?_, ?_, ?_⟩
  · exact Lib.BuilderAt.put (T := BuT) (e := ByT) hB hb2 (bs' := Lib.byteCells (bs ++ s.data.toList)) (by simpa [Lib.byteCells, Lib.strCells] using hown') neBu
  · exact (hb1.grown hgrow (by have := hb1.size; omega) (fun k hk => (hown.lt k hk).1)).setCell (p := ⟨b, 1, none⟩) hB _
  · exact (hk1.grown hgrow (Lib.ownsRow_kind hown)).setCell ⟨b, 1, none⟩ rfl _

theorem enc_eq (r : Nat) (h : r ≤ 1114111) : Lib.encodeRune (r : Int) = (Utf8.encode r).data.toList := by
  unfold Lib.encodeRune Utf8.encode
  by_cases h1 : r ≤ 127
  · rw [Lib.encodeRuneZ_one (by omega) (by omega)]
    have hv : Utf8.valid (r : Int) = true := by unfold Utf8.valid; simp; omega
    simp only [hv, if_true, Int.toNat_natCast]
    rw [if_pos (by omega)]
    rfl
  by_cases h2 : r ≤ 2047
  · rw [Lib.encodeRuneZ_two (by omega) (by omega)]
    have hv : Utf8.valid (r : Int) = true := by unfold Utf8.valid; simp; omega
    simp only [hv, if_true, Int.toNat_natCast]
    rw [if_neg (by omega), if_pos (by omega)]
    have e1 : ((192 : Int) + (r : Int) / 64).toNat = 0xC0 + r / 64 := by omega
    have e2 : ((128 : Int) + (r : Int) % 64).toNat = 0x80 + r % 64 := by omega
    simp only [List.map_cons, List.map_nil, e1, e2]
  by_cases h3 : r < 55296 ∨ (57343 < r ∧ r ≤ 65535)
  · rw [Lib.encodeRuneZ_three (by omega)]
    have hv : Utf8.valid (r : Int) = true := by unfold Utf8.valid; simp; omega
    simp only [hv, if_true, Int.toNat_natCast]
    rw [if_neg (by omega), if_neg (by omega), if_pos (by omega)]
    have e1 : ((224 : Int) + (r : Int) / 4096).toNat = 0xE0 + r / 4096 := by omega
    have e2 : ((128 : Int) + (r : Int) / 64 % 64).toNat = 0x80 + r / 64 % 64 := by omega
    have e3 : ((128 : Int) + (r : Int) % 64).toNat = 0x80 + r % 64 := by omega
    simp only [List.map_cons, List.map_nil, e1, e2, e3]
  by_cases h4 : 65536 ≤ r
  · rw [Lib.encodeRuneZ_four (by omega) (by omega)]
    have hv : Utf8.valid (r : Int) = true := by unfold Utf8.valid; simp; omega
    simp only [hv, if_true, Int.toNat_natCast]
    rw [if_neg (by omega), if_neg (by omega), if_neg (by omega)]
    have e1 : ((240 : Int) + (r : Int) / 262144).toNat = 0xF0 + r / 262144 := by omega
    have e4 : ((128 : Int) + (r : Int) / 4096 % 64).toNat = 0x80 + r / 4096 % 64 := by omega
    have e2 : ((128 : Int) + (r : Int) / 64 % 64).toNat = 0x80 + r / 64 % 64 := by omega
    have e3 : ((128 : Int) + (r : Int) % 64).toNat = 0x80 + r % 64 := by omega
    simp only [List.map_cons, List.map_nil, e1, e2, e3, e4]
  · rw [Lib.encodeRuneZ_bad (by omega)]
    have hv : Utf8.valid (r : Int) = false := by unfold Utf8.valid; simp; omega
    simp only [hv, Bool.false_eq_true, if_false]
    decide

set_option maxRecDepth 100000 in
set_option maxHeartbeats 2000000 in
theorem WriteRune_b (b : Nat) (bs : List UInt8) (r : Nat) (hr : r ≤ 1114111) (w : World) (h : IsB b bs w) (hlen : bs.length + 4 ≤ 140737488355328) :
    Calls Tryz.prog 89 #[.pointer (some ⟨b, 0, none⟩), .int .i32 r] w fun e w' => (∃ n, e = .returned (.tuple #[.int .i64 n, .nilIface])) ∧ Built b (bs ++ (Utf8.encode r).data.toList) w w' := by
  have hh := Lib.hid h
  have hL := Lib.hid hlen
  have hbw := Nat.le_of_lt h.lt
  have hk4 := Lib.runeCells_le (r : Int)
  have hre : Lib.runeCells (r : Int) = Lib.byteCells (Utf8.encode r).data.toList := by rw [← Lib.byteCells_encodeRune, enc_eq r hr]
  have hll : (Lib.runeCells (r : Int)).length = (Utf8.encode r).data.toList.length := by rw [hre, Lib.byteCells_length]
  have HE := Lib.hid hre
  clear h hlen hre
  go_enter Tryz.func89, Tryz.ntmps89
  go_wp2_with (go_at_call 100; refine (cc_any b bs _ hh.out).mono ?_)
  rintro e w1 ⟨rfl, h1, hb1, hk1⟩
  obtain ⟨hB, v, hbk, hown, hne⟩ := h1
  rw [Lib.byteCells_length] at hown
  obtain ⟨ao, cap, rfl⟩ := slice_form hown
  have c0 := cell_of hbk 0
  have c1 := cell_of hbk 1
  simp only [List.getElem?_toArray, List.getElem?_cons_zero, List.getElem?_cons_succ] at c0 c1
  have HX := Lib.hid (And.intro hb1 (And.intro hbk (And.intro hown (And.intro hne hk1))))
  clear hb1 hbk hown hne hk1
  go_wp2_with (go_at_call 102; refine (Tryz.utf8_AppendRune_plain b _ bs.length _ r (by omega) (by omega) _ HX.out.2.2.1 hL.out (by have := HX.out.1.size; omega)).mono ?_)
  rintro e w2 ⟨v', rfl, hown', o, hgrow⟩
  obtain ⟨hb1, hbk, hown, hne, hk1⟩ := HX.out
  have hlt := lt_of_heap hbk
  have hb2 : w2.heap[b]? = some (.cells #[.pointer (some ⟨b, 0, none⟩), .slice ao bs.length cap] BuT (0, 0)) := by
    rw [hgrow.block b (by simp; omega) (fun e => hne e.symm)]
    exact alloc_keep hbk
  obtain ⟨g, cap', rfl⟩ := slice_form hown'
  have d0 := cell_of hb2 0
  have d1 := cell_of hb2 1
  have f1 := ice_of hb2 1
  simp only [List.getElem?_toArray, List.getElem?_cons_zero, List.getElem?_cons_succ] at d0 d1
  have HY := Lib.hid (And.intro hown' (And.intro hgrow hb2))
  clear hown' hgrow hb2 hb1 hbk hown hne hk1
  have hL2 := hL.out
  have hL3 : (bs.length : Int) ≤ 140737488355328 := by omega
  have hL4 : ((Lib.runeCells (r : Int)).length : Int) ≤ 4 := by omega
  go_wp2
  go_ret2
  obtain ⟨hb1, hbk, hown, hne, hk1⟩ := HX.out
  obtain ⟨hown', hgrow, hb2⟩ := HY.out
  refine ⟨⟨_, rfl⟩, ?_, ?_, ?_⟩
  · refine Lib.BuilderAt.put (T := BuT) (e := ByT) hB hb2 (bs' := Lib.byteCells (bs ++ (Utf8.encode r).data.toList)) ?_ neBu
    have e3 : Lib.byteCells (bs ++ (Utf8.encode r).data.toList) = Lib.byteCells bs ++ Lib.runeCells (r : Int) := by rw [Lib.byteCells_append, HE.out]
    have e4 : (Lib.byteCells bs ++ Lib.runeCells (r : Int)).length = bs.length + (Lib.runeCells (r : Int)).length := by rw [List.length_append, Lib.byteCells_length]
    have e5 : (Lib.runeCells (r : Int)).length = (Utf8.encode (r : Int)).size := by rw [hll]; simp
    rw [e5] at hown'
    rw [e3, e4, e5]
    exact hown'
  · exact ((hb1.alloc (by have := hb1.size; omega) _).grown hgrow (by have := hb1.size; simp; omega) (fun k hk => (hown.lt k hk).1)).setCell (p := ⟨b, 1, none⟩) hB _
  · exact ((hk1.alloc _).grown hgrow (Lib.ownsRow_kind (hown.alloc _))).setCell ⟨b, 1, none⟩ rfl _

end Go.Proofs.YtbghpkoimbmijaaGreatDoor
