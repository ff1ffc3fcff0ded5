import Derived.Test.YtbghpkoimbmijaaGreatDoorM09
/- YtbghpkoimbmijaaGreatDoorM20: lemmas of the proof, in order: QH. -/
/- Walks: hexadecimal digits. -/
namespace Go.Proofs.YtbghpkoimbmijaaGreatDoor
open Go.RowKit
set_option linter.unusedSimpArgs false

theorem Bru.up {w w' : World} (h : Bru w) (k : Up w w') : Bru w' := by
  unfold Bru at *
  rw [k.cells _ _ (cell_lt3 h)]; exact h

theorem pow2_16 (w : World) : Calls Tryz.prog 123 #[.int .i64 16] w fun e w' => e = .returned (.bool true) ∧ w = w' := by
  go_enter Tryz.func123, Tryz.ntmps123
  go_wp2_with fail
  go_ret
  exact ⟨rfl, rfl⟩
theorem tz64_16 (w : World) (h : Bru w) : Calls Tryz.prog 128 #[.int .u64 16] w fun e w' => e = .returned (.int .i64 4) ∧ w = w' := by
  unfold Bru at h
  have e1 : IntKind.u64.wrap (bits BinOp.and IntKind.u64 16 (IntKind.u64.wrap (-16)) * 285870213051353865) / 288230376151711744 = 15 := by decide
  go_enter Tryz.func128, Tryz.ntmps128
  go_wp2_with fail
  go_ret
  exact ⟨rfl, rfl⟩
theorem tz_16 (w : World) (h : Bru w) : Calls Tryz.prog 124 #[.int .u64 16] w fun e w' => e = .returned (.int .i64 4) ∧ w = w' := by
  go_enter Tryz.func124, Tryz.ntmps124
  go_wp2_with (first | (go_at_call 128; refine (tz64_16 _ h).mono ?_; rintro e w2 ⟨rfl, rfl⟩))
  go_ret
  exact ⟨rfl, rfl⟩

theorem zero160_eq : Tryz.zeroCells175 = Array.replicate 65 (.int .u8 0) := by kernel_rfl
theorem zero160 (w : World) (j : Nat) (hj : j < 65) : (w.alloc (.cells Tryz.zeroCells175 175)).cell? ⟨w.heap.size, j, none⟩ = some (.int .u8 0) := by
  rw [cell_of (alloc_get w _) j, zero160_eq]
  simp [hj]
theorem conv1 (c : UInt8) (W : World) (b off cap : Nat) (h : W.cell? ⟨b, off, none⟩ = some (.int .u8 c.toNat)) : (convert 119 9 (.slice (some ⟨b, off, none⟩) 1 cap)).run Tryz.prog W = .ok (.string ⟨#[c]⟩) W :=
  run_convert_bytes_back W _ _ 5 ⟨b, off, none⟩ cap [c] Tryz.underlying119 Tryz.underlying5 Tryz.underlying9 fun j hj => by
    obtain rfl : j = 0 := by simpa using hj
    rw [Addr.add_lit]
    simpa using h
theorem conv2 (c d : UInt8) (W : World) (b off cap : Nat) (h : W.cell? ⟨b, off, none⟩ = some (.int .u8 c.toNat)) (h2 : W.cell? ⟨b, off + 1, none⟩ = some (.int .u8 d.toNat)) : (convert 119 9 (.slice (some ⟨b, off, none⟩) 2 cap)).run Tryz.prog W = .ok (.string ⟨#[c, d]⟩) W :=
  run_convert_bytes_back W _ _ 5 ⟨b, off, none⟩ cap [c, d] Tryz.underlying119 Tryz.underlying5 Tryz.underlying9 fun j hj => by
    rw [Addr.add_lit]
    match j, hj with
    | 0, _ => simpa using h
    | 1, _ => simpa using h2

set_option maxRecDepth 100000 in
theorem p_bits_0 (w : World) (hb : Bru w) : Calls Tryz.prog 110 #[.slice none 0 0, .int .u64 0, .int .i64 16, .bool false, .bool false] w fun e w' => e = .returned (.tuple #[.slice none 0 0, .string ⟨#[48]⟩]) ∧ Up w w' := by
  have HB := Lib.hid hb
  clear hb
  have z0 := zero160 w 64 (by omega)
  have z1 := zero160 w 63 (by omega)
  go_enter Tryz.func110, Tryz.ntmps110
  go_wp2_with (first | (go_at_call 123; refine (pow2_16 _).mono ?_; rintro e w2 ⟨rfl, rfl⟩) | (go_at_call 124; refine (tz_16 _ (HB.out.up uq)).mono ?_; rintro e w2 ⟨rfl, rfl⟩))
  refine wp_loop_rounds 2 ?_
  rw [rounds_succ]
  go_wp2_with (fail)
  rw [conv1 48 _ w.heap.size 64 1 (by rw [cell_of (alloc_get w _) 64, zero160_eq]; rfl)]
  go_wp2_with (fail)
  exact bodyPost_ret (v := .tuple #[.slice none 0 0, .string ⟨#[48]⟩]) (by simp [results, Tryz.results110, go_sem]) rfl ⟨rfl, uq⟩
theorem p_iint_0 (w : World) (hb : Bru w) : Calls Tryz.prog 99 #[.int .i64 0, .int .i64 16] w fun e w' => e = .returned (.string ⟨#[48]⟩) ∧ Up w w' := by
  have HB := Lib.hid hb
  clear hb
  go_enter Tryz.func99, Tryz.ntmps99
  go_wp2_with (first | (go_at_call 110; refine (p_bits_0 _ HB.out).mono ?_; rintro e w2 ⟨rfl, hu2⟩))
  go_ret
  exact ⟨rfl, uq⟩
theorem p_int_0 (w : World) (hb : Bru w) : Calls Tryz.prog 91 #[.int .i64 0, .int .i64 16] w fun e w' => e = .returned (.string ⟨#[48]⟩) ∧ Up w w' := by
  have HB := Lib.hid hb
  clear hb
  go_enter Tryz.func91, Tryz.ntmps91
  go_wp2_with (first | (go_at_call 99; refine (p_iint_0 _ HB.out).mono ?_; rintro e w2 ⟨rfl, hu2⟩))
  go_ret
  exact ⟨rfl, uq⟩

set_option maxRecDepth 100000 in
theorem p_bits_1 (w : World) (hb : Bru w) : Calls Tryz.prog 110 #[.slice none 0 0, .int .u64 1, .int .i64 16, .bool false, .bool false] w fun e w' => e = .returned (.tuple #[.slice none 0 0, .string ⟨#[49]⟩]) ∧ Up w w' := by
  have HB := Lib.hid hb
  clear hb
  have z0 := zero160 w 64 (by omega)
  have z1 := zero160 w 63 (by omega)
  go_enter Tryz.func110, Tryz.ntmps110
  go_wp2_with (first | (go_at_call 123; refine (pow2_16 _).mono ?_; rintro e w2 ⟨rfl, rfl⟩) | (go_at_call 124; refine (tz_16 _ (HB.out.up uq)).mono ?_; rintro e w2 ⟨rfl, rfl⟩))
  refine wp_loop_rounds 2 ?_
  rw [rounds_succ]
  go_wp2_with (fail)
  rw [conv1 49 _ w.heap.size 64 1 (by rw [cell_of (alloc_get w _) 64, zero160_eq]; rfl)]
  go_wp2_with (fail)
  exact bodyPost_ret (v := .tuple #[.slice none 0 0, .string ⟨#[49]⟩]) (by simp [results, Tryz.results110, go_sem]) rfl ⟨rfl, uq⟩
theorem p_iint_1 (w : World) (hb : Bru w) : Calls Tryz.prog 99 #[.int .i64 1, .int .i64 16] w fun e w' => e = .returned (.string ⟨#[49]⟩) ∧ Up w w' := by
  have HB := Lib.hid hb
  clear hb
  go_enter Tryz.func99, Tryz.ntmps99
  go_wp2_with (first | (go_at_call 110; refine (p_bits_1 _ HB.out).mono ?_; rintro e w2 ⟨rfl, hu2⟩))
  go_ret
  exact ⟨rfl, uq⟩
theorem p_int_1 (w : World) (hb : Bru w) : Calls Tryz.prog 91 #[.int .i64 1, .int .i64 16] w fun e w' => e = .returned (.string ⟨#[49]⟩) ∧ Up w w' := by
  have HB := Lib.hid hb
  clear hb
  go_enter Tryz.func91, Tryz.ntmps91
  go_wp2_with (first | (go_at_call 99; refine (p_iint_1 _ HB.out).mono ?_; rintro e w2 ⟨rfl, hu2⟩))
  go_ret
  exact ⟨rfl, uq⟩

set_option maxRecDepth 100000 in
theorem p_bits_2 (w : World) (hb : Bru w) : Calls Tryz.prog 110 #[.slice none 0 0, .int .u64 2, .int .i64 16, .bool false, .bool false] w fun e w' => e = .returned (.tuple #[.slice none 0 0, .string ⟨#[50]⟩]) ∧ Up w w' := by
  have HB := Lib.hid hb
  clear hb
  have z0 := zero160 w 64 (by omega)
  have z1 := zero160 w 63 (by omega)
  go_enter Tryz.func110, Tryz.ntmps110
  go_wp2_with (first | (go_at_call 123; refine (pow2_16 _).mono ?_; rintro e w2 ⟨rfl, rfl⟩) | (go_at_call 124; refine (tz_16 _ (HB.out.up uq)).mono ?_; rintro e w2 ⟨rfl, rfl⟩))
  refine wp_loop_rounds 2 ?_
  rw [rounds_succ]
  go_wp2_with (fail)
  rw [conv1 50 _ w.heap.size 64 1 (by rw [cell_of (alloc_get w _) 64, zero160_eq]; rfl)]
  go_wp2_with (fail)
  exact bodyPost_ret (v := .tuple #[.slice none 0 0, .string ⟨#[50]⟩]) (by simp [results, Tryz.results110, go_sem]) rfl ⟨rfl, uq⟩
theorem p_iint_2 (w : World) (hb : Bru w) : Calls Tryz.prog 99 #[.int .i64 2, .int .i64 16] w fun e w' => e = .returned (.string ⟨#[50]⟩) ∧ Up w w' := by
  have HB := Lib.hid hb
  clear hb
  go_enter Tryz.func99, Tryz.ntmps99
  go_wp2_with (first | (go_at_call 110; refine (p_bits_2 _ HB.out).mono ?_; rintro e w2 ⟨rfl, hu2⟩))
  go_ret
  exact ⟨rfl, uq⟩
theorem p_int_2 (w : World) (hb : Bru w) : Calls Tryz.prog 91 #[.int .i64 2, .int .i64 16] w fun e w' => e = .returned (.string ⟨#[50]⟩) ∧ Up w w' := by
  have HB := Lib.hid hb
  clear hb
  go_enter Tryz.func91, Tryz.ntmps91
  go_wp2_with (first | (go_at_call 99; refine (p_iint_2 _ HB.out).mono ?_; rintro e w2 ⟨rfl, hu2⟩))
  go_ret
  exact ⟨rfl, uq⟩

set_option maxRecDepth 100000 in
theorem p_bits_3 (w : World) (hb : Bru w) : Calls Tryz.prog 110 #[.slice none 0 0, .int .u64 3, .int .i64 16, .bool false, .bool false] w fun e w' => e = .returned (.tuple #[.slice none 0 0, .string ⟨#[51]⟩]) ∧ Up w w' := by
  have HB := Lib.hid hb
  clear hb
  have z0 := zero160 w 64 (by omega)
  have z1 := zero160 w 63 (by omega)
  go_enter Tryz.func110, Tryz.ntmps110
  go_wp2_with (first | (go_at_call 123; refine (pow2_16 _).mono ?_; rintro e w2 ⟨rfl, rfl⟩) | (go_at_call 124; refine (tz_16 _ (HB.out.up uq)).mono ?_; rintro e w2 ⟨rfl, rfl⟩))
  refine wp_loop_rounds 2 ?_
  rw [rounds_succ]
  go_wp2_with (fail)
  rw [conv1 51 _ w.heap.size 64 1 (by rw [cell_of (alloc_get w _) 64, zero160_eq]; rfl)]
  go_wp2_with (fail)
  exact bodyPost_ret (v := .tuple #[.slice none 0 0, .string ⟨#[51]⟩]) (by simp [results, Tryz.results110, go_sem]) rfl ⟨rfl, uq⟩
theorem p_iint_3 (w : World) (hb : Bru w) : Calls Tryz.prog 99 #[.int .i64 3, .int .i64 16] w fun e w' => e = .returned (.string ⟨#[51]⟩) ∧ Up w w' := by
  have HB := Lib.hid hb
  clear hb
  go_enter Tryz.func99, Tryz.ntmps99
  go_wp2_with (first | (go_at_call 110; refine (p_bits_3 _ HB.out).mono ?_; rintro e w2 ⟨rfl, hu2⟩))
  go_ret
  exact ⟨rfl, uq⟩
theorem p_int_3 (w : World) (hb : Bru w) : Calls Tryz.prog 91 #[.int .i64 3, .int .i64 16] w fun e w' => e = .returned (.string ⟨#[51]⟩) ∧ Up w w' := by
  have HB := Lib.hid hb
  clear hb
  go_enter Tryz.func91, Tryz.ntmps91
  go_wp2_with (first | (go_at_call 99; refine (p_iint_3 _ HB.out).mono ?_; rintro e w2 ⟨rfl, hu2⟩))
  go_ret
  exact ⟨rfl, uq⟩

set_option maxRecDepth 100000 in
theorem p_bits_4 (w : World) (hb : Bru w) : Calls Tryz.prog 110 #[.slice none 0 0, .int .u64 4, .int .i64 16, .bool false, .bool false] w fun e w' => e = .returned (.tuple #[.slice none 0 0, .string ⟨#[52]⟩]) ∧ Up w w' := by
  have HB := Lib.hid hb
  clear hb
  have z0 := zero160 w 64 (by omega)
  have z1 := zero160 w 63 (by omega)
  go_enter Tryz.func110, Tryz.ntmps110
  go_wp2_with (first | (go_at_call 123; refine (pow2_16 _).mono ?_; rintro e w2 ⟨rfl, rfl⟩) | (go_at_call 124; refine (tz_16 _ (HB.out.up uq)).mono ?_; rintro e w2 ⟨rfl, rfl⟩))
  refine wp_loop_rounds 2 ?_
  rw [rounds_succ]
  go_wp2_with (fail)
  rw [conv1 52 _ w.heap.size 64 1 (by rw [cell_of (alloc_get w _) 64, zero160_eq]; rfl)]
  go_wp2_with (fail)
  exact bodyPost_ret (v := .tuple #[.slice none 0 0, .string ⟨#[52]⟩]) (by simp [results, Tryz.results110, go_sem]) rfl ⟨rfl, uq⟩
theorem p_iint_4 (w : World) (hb : Bru w) : Calls Tryz.prog 99 #[.int .i64 4, .int .i64 16] w fun e w' => e = .returned (.string ⟨#[52]⟩) ∧ Up w w' := by
  have HB := Lib.hid hb
  clear hb
  go_enter Tryz.func99, Tryz.ntmps99
  go_wp2_with (first | (go_at_call 110; refine (p_bits_4 _ HB.out).mono ?_; rintro e w2 ⟨rfl, hu2⟩))
  go_ret
  exact ⟨rfl, uq⟩
theorem p_int_4 (w : World) (hb : Bru w) : Calls Tryz.prog 91 #[.int .i64 4, .int .i64 16] w fun e w' => e = .returned (.string ⟨#[52]⟩) ∧ Up w w' := by
  have HB := Lib.hid hb
  clear hb
  go_enter Tryz.func91, Tryz.ntmps91
  go_wp2_with (first | (go_at_call 99; refine (p_iint_4 _ HB.out).mono ?_; rintro e w2 ⟨rfl, hu2⟩))
  go_ret
  exact ⟨rfl, uq⟩

set_option maxRecDepth 100000 in
theorem p_bits_5 (w : World) (hb : Bru w) : Calls Tryz.prog 110 #[.slice none 0 0, .int .u64 5, .int .i64 16, .bool false, .bool false] w fun e w' => e = .returned (.tuple #[.slice none 0 0, .string ⟨#[53]⟩]) ∧ Up w w' := by
  have HB := Lib.hid hb
  clear hb
  have z0 := zero160 w 64 (by omega)
  have z1 := zero160 w 63 (by omega)
  go_enter Tryz.func110, Tryz.ntmps110
  go_wp2_with (first | (go_at_call 123; refine (pow2_16 _).mono ?_; rintro e w2 ⟨rfl, rfl⟩) | (go_at_call 124; refine (tz_16 _ (HB.out.up uq)).mono ?_; rintro e w2 ⟨rfl, rfl⟩))
  refine wp_loop_rounds 2 ?_
  rw [rounds_succ]
  go_wp2_with (fail)
  rw [conv1 53 _ w.heap.size 64 1 (by rw [cell_of (alloc_get w _) 64, zero160_eq]; rfl)]
  go_wp2_with (fail)
  exact bodyPost_ret (v := .tuple #[.slice none 0 0, .string ⟨#[53]⟩]) (by simp [results, Tryz.results110, go_sem]) rfl ⟨rfl, uq⟩
theorem p_iint_5 (w : World) (hb : Bru w) : Calls Tryz.prog 99 #[.int .i64 5, .int .i64 16] w fun e w' => e = .returned (.string ⟨#[53]⟩) ∧ Up w w' := by
  have HB := Lib.hid hb
  clear hb
  go_enter Tryz.func99, Tryz.ntmps99
  go_wp2_with (first | (go_at_call 110; refine (p_bits_5 _ HB.out).mono ?_; rintro e w2 ⟨rfl, hu2⟩))
  go_ret
  exact ⟨rfl, uq⟩
theorem p_int_5 (w : World) (hb : Bru w) : Calls Tryz.prog 91 #[.int .i64 5, .int .i64 16] w fun e w' => e = .returned (.string ⟨#[53]⟩) ∧ Up w w' := by
  have HB := Lib.hid hb
  clear hb
  go_enter Tryz.func91, Tryz.ntmps91
  go_wp2_with (first | (go_at_call 99; refine (p_iint_5 _ HB.out).mono ?_; rintro e w2 ⟨rfl, hu2⟩))
  go_ret
  exact ⟨rfl, uq⟩

set_option maxRecDepth 100000 in
theorem p_bits_6 (w : World) (hb : Bru w) : Calls Tryz.prog 110 #[.slice none 0 0, .int .u64 6, .int .i64 16, .bool false, .bool false] w fun e w' => e = .returned (.tuple #[.slice none 0 0, .string ⟨#[54]⟩]) ∧ Up w w' := by
  have HB := Lib.hid hb
  clear hb
  have z0 := zero160 w 64 (by omega)
  have z1 := zero160 w 63 (by omega)
  go_enter Tryz.func110, Tryz.ntmps110
  go_wp2_with (first | (go_at_call 123; refine (pow2_16 _).mono ?_; rintro e w2 ⟨rfl, rfl⟩) | (go_at_call 124; refine (tz_16 _ (HB.out.up uq)).mono ?_; rintro e w2 ⟨rfl, rfl⟩))
  refine wp_loop_rounds 2 ?_
  rw [rounds_succ]
  go_wp2_with (fail)
  rw [conv1 54 _ w.heap.size 64 1 (by rw [cell_of (alloc_get w _) 64, zero160_eq]; rfl)]
  go_wp2_with (fail)
  exact bodyPost_ret (v := .tuple #[.slice none 0 0, .string ⟨#[54]⟩]) (by simp [results, Tryz.results110, go_sem]) rfl ⟨rfl, uq⟩
theorem p_iint_6 (w : World) (hb : Bru w) : Calls Tryz.prog 99 #[.int .i64 6, .int .i64 16] w fun e w' => e = .returned (.string ⟨#[54]⟩) ∧ Up w w' := by
  have HB := Lib.hid hb
  clear hb
  go_enter Tryz.func99, Tryz.ntmps99
  go_wp2_with (first | (go_at_call 110; refine (p_bits_6 _ HB.out).mono ?_; rintro e w2 ⟨rfl, hu2⟩))
  go_ret
  exact ⟨rfl, uq⟩
theorem p_int_6 (w : World) (hb : Bru w) : Calls Tryz.prog 91 #[.int .i64 6, .int .i64 16] w fun e w' => e = .returned (.string ⟨#[54]⟩) ∧ Up w w' := by
  have HB := Lib.hid hb
  clear hb
  go_enter Tryz.func91, Tryz.ntmps91
  go_wp2_with (first | (go_at_call 99; refine (p_iint_6 _ HB.out).mono ?_; rintro e w2 ⟨rfl, hu2⟩))
  go_ret
  exact ⟨rfl, uq⟩

set_option maxRecDepth 100000 in
theorem p_bits_7 (w : World) (hb : Bru w) : Calls Tryz.prog 110 #[.slice none 0 0, .int .u64 7, .int .i64 16, .bool false, .bool false] w fun e w' => e = .returned (.tuple #[.slice none 0 0, .string ⟨#[55]⟩]) ∧ Up w w' := by
  have HB := Lib.hid hb
  clear hb
  have z0 := zero160 w 64 (by omega)
  have z1 := zero160 w 63 (by omega)
  go_enter Tryz.func110, Tryz.ntmps110
  go_wp2_with (first | (go_at_call 123; refine (pow2_16 _).mono ?_; rintro e w2 ⟨rfl, rfl⟩) | (go_at_call 124; refine (tz_16 _ (HB.out.up uq)).mono ?_; rintro e w2 ⟨rfl, rfl⟩))
  refine wp_loop_rounds 2 ?_
  rw [rounds_succ]
  go_wp2_with (fail)
  rw [conv1 55 _ w.heap.size 64 1 (by rw [cell_of (alloc_get w _) 64, zero160_eq]; rfl)]
  go_wp2_with (fail)
  exact bodyPost_ret (v := .tuple #[.slice none 0 0, .string ⟨#[55]⟩]) (by simp [results, Tryz.results110, go_sem]) rfl ⟨rfl, uq⟩
theorem p_iint_7 (w : World) (hb : Bru w) : Calls Tryz.prog 99 #[.int .i64 7, .int .i64 16] w fun e w' => e = .returned (.string ⟨#[55]⟩) ∧ Up w w' := by
  have HB := Lib.hid hb
  clear hb
  go_enter Tryz.func99, Tryz.ntmps99
  go_wp2_with (first | (go_at_call 110; refine (p_bits_7 _ HB.out).mono ?_; rintro e w2 ⟨rfl, hu2⟩))
  go_ret
  exact ⟨rfl, uq⟩
theorem p_int_7 (w : World) (hb : Bru w) : Calls Tryz.prog 91 #[.int .i64 7, .int .i64 16] w fun e w' => e = .returned (.string ⟨#[55]⟩) ∧ Up w w' := by
  have HB := Lib.hid hb
  clear hb
  go_enter Tryz.func91, Tryz.ntmps91
  go_wp2_with (first | (go_at_call 99; refine (p_iint_7 _ HB.out).mono ?_; rintro e w2 ⟨rfl, hu2⟩))
  go_ret
  exact ⟨rfl, uq⟩

set_option maxRecDepth 100000 in
theorem p_bits_8 (w : World) (hb : Bru w) : Calls Tryz.prog 110 #[.slice none 0 0, .int .u64 8, .int .i64 16, .bool false, .bool false] w fun e w' => e = .returned (.tuple #[.slice none 0 0, .string ⟨#[56]⟩]) ∧ Up w w' := by
  have HB := Lib.hid hb
  clear hb
  have z0 := zero160 w 64 (by omega)
  have z1 := zero160 w 63 (by omega)
  go_enter Tryz.func110, Tryz.ntmps110
  go_wp2_with (first | (go_at_call 123; refine (pow2_16 _).mono ?_; rintro e w2 ⟨rfl, rfl⟩) | (go_at_call 124; refine (tz_16 _ (HB.out.up uq)).mono ?_; rintro e w2 ⟨rfl, rfl⟩))
  refine wp_loop_rounds 2 ?_
  rw [rounds_succ]
  go_wp2_with (fail)
  rw [conv1 56 _ w.heap.size 64 1 (by rw [cell_of (alloc_get w _) 64, zero160_eq]; rfl)]
  go_wp2_with (fail)
  exact bodyPost_ret (v := .tuple #[.slice none 0 0, .string ⟨#[56]⟩]) (by simp [results, Tryz.results110, go_sem]) rfl ⟨rfl, uq⟩
theorem p_iint_8 (w : World) (hb : Bru w) : Calls Tryz.prog 99 #[.int .i64 8, .int .i64 16] w fun e w' => e = .returned (.string ⟨#[56]⟩) ∧ Up w w' := by
  have HB := Lib.hid hb
  clear hb
  go_enter Tryz.func99, Tryz.ntmps99
  go_wp2_with (first | (go_at_call 110; refine (p_bits_8 _ HB.out).mono ?_; rintro e w2 ⟨rfl, hu2⟩))
  go_ret
  exact ⟨rfl, uq⟩
theorem p_int_8 (w : World) (hb : Bru w) : Calls Tryz.prog 91 #[.int .i64 8, .int .i64 16] w fun e w' => e = .returned (.string ⟨#[56]⟩) ∧ Up w w' := by
  have HB := Lib.hid hb
  clear hb
  go_enter Tryz.func91, Tryz.ntmps91
  go_wp2_with (first | (go_at_call 99; refine (p_iint_8 _ HB.out).mono ?_; rintro e w2 ⟨rfl, hu2⟩))
  go_ret
  exact ⟨rfl, uq⟩

set_option maxRecDepth 100000 in
theorem p_bits_9 (w : World) (hb : Bru w) : Calls Tryz.prog 110 #[.slice none 0 0, .int .u64 9, .int .i64 16, .bool false, .bool false] w fun e w' => e = .returned (.tuple #[.slice none 0 0, .string ⟨#[57]⟩]) ∧ Up w w' := by
  have HB := Lib.hid hb
  clear hb
  have z0 := zero160 w 64 (by omega)
  have z1 := zero160 w 63 (by omega)
  go_enter Tryz.func110, Tryz.ntmps110
  go_wp2_with (first | (go_at_call 123; refine (pow2_16 _).mono ?_; rintro e w2 ⟨rfl, rfl⟩) | (go_at_call 124; refine (tz_16 _ (HB.out.up uq)).mono ?_; rintro e w2 ⟨rfl, rfl⟩))
  refine wp_loop_rounds 2 ?_
  rw [rounds_succ]
  go_wp2_with (fail)
  rw [conv1 57 _ w.heap.size 64 1 (by rw [cell_of (alloc_get w _) 64, zero160_eq]; rfl)]
  go_wp2_with (fail)
  exact bodyPost_ret (v := .tuple #[.slice none 0 0, .string ⟨#[57]⟩]) (by simp [results, Tryz.results110, go_sem]) rfl ⟨rfl, uq⟩
theorem p_iint_9 (w : World) (hb : Bru w) : Calls Tryz.prog 99 #[.int .i64 9, .int .i64 16] w fun e w' => e = .returned (.string ⟨#[57]⟩) ∧ Up w w' := by
  have HB := Lib.hid hb
  clear hb
  go_enter Tryz.func99, Tryz.ntmps99
  go_wp2_with (first | (go_at_call 110; refine (p_bits_9 _ HB.out).mono ?_; rintro e w2 ⟨rfl, hu2⟩))
  go_ret
  exact ⟨rfl, uq⟩
theorem p_int_9 (w : World) (hb : Bru w) : Calls Tryz.prog 91 #[.int .i64 9, .int .i64 16] w fun e w' => e = .returned (.string ⟨#[57]⟩) ∧ Up w w' := by
  have HB := Lib.hid hb
  clear hb
  go_enter Tryz.func91, Tryz.ntmps91
  go_wp2_with (first | (go_at_call 99; refine (p_iint_9 _ HB.out).mono ?_; rintro e w2 ⟨rfl, hu2⟩))
  go_ret
  exact ⟨rfl, uq⟩

set_option maxRecDepth 100000 in
theorem p_bits_10 (w : World) (hb : Bru w) : Calls Tryz.prog 110 #[.slice none 0 0, .int .u64 10, .int .i64 16, .bool false, .bool false] w fun e w' => e = .returned (.tuple #[.slice none 0 0, .string ⟨#[97]⟩]) ∧ Up w w' := by
  have HB := Lib.hid hb
  clear hb
  have z0 := zero160 w 64 (by omega)
  have z1 := zero160 w 63 (by omega)
  go_enter Tryz.func110, Tryz.ntmps110
  go_wp2_with (first | (go_at_call 123; refine (pow2_16 _).mono ?_; rintro e w2 ⟨rfl, rfl⟩) | (go_at_call 124; refine (tz_16 _ (HB.out.up uq)).mono ?_; rintro e w2 ⟨rfl, rfl⟩))
  refine wp_loop_rounds 2 ?_
  rw [rounds_succ]
  go_wp2_with (fail)
  rw [conv1 97 _ w.heap.size 64 1 (by rw [cell_of (alloc_get w _) 64, zero160_eq]; rfl)]
  go_wp2_with (fail)
  exact bodyPost_ret (v := .tuple #[.slice none 0 0, .string ⟨#[97]⟩]) (by simp [results, Tryz.results110, go_sem]) rfl ⟨rfl, uq⟩
theorem p_iint_10 (w : World) (hb : Bru w) : Calls Tryz.prog 99 #[.int .i64 10, .int .i64 16] w fun e w' => e = .returned (.string ⟨#[97]⟩) ∧ Up w w' := by
  have HB := Lib.hid hb
  clear hb
  go_enter Tryz.func99, Tryz.ntmps99
  go_wp2_with (first | (go_at_call 110; refine (p_bits_10 _ HB.out).mono ?_; rintro e w2 ⟨rfl, hu2⟩))
  go_ret
  exact ⟨rfl, uq⟩
theorem p_int_10 (w : World) (hb : Bru w) : Calls Tryz.prog 91 #[.int .i64 10, .int .i64 16] w fun e w' => e = .returned (.string ⟨#[97]⟩) ∧ Up w w' := by
  have HB := Lib.hid hb
  clear hb
  go_enter Tryz.func91, Tryz.ntmps91
  go_wp2_with (first | (go_at_call 99; refine (p_iint_10 _ HB.out).mono ?_; rintro e w2 ⟨rfl, hu2⟩))
  go_ret
  exact ⟨rfl, uq⟩

set_option maxRecDepth 100000 in
theorem p_bits_11 (w : World) (hb : Bru w) : Calls Tryz.prog 110 #[.slice none 0 0, .int .u64 11, .int .i64 16, .bool false, .bool false] w fun e w' => e = .returned (.tuple #[.slice none 0 0, .string ⟨#[98]⟩]) ∧ Up w w' := by
  have HB := Lib.hid hb
  clear hb
  have z0 := zero160 w 64 (by omega)
  have z1 := zero160 w 63 (by omega)
  go_enter Tryz.func110, Tryz.ntmps110
  go_wp2_with (first | (go_at_call 123; refine (pow2_16 _).mono ?_; rintro e w2 ⟨rfl, rfl⟩) | (go_at_call 124; refine (tz_16 _ (HB.out.up uq)).mono ?_; rintro e w2 ⟨rfl, rfl⟩))
  refine wp_loop_rounds 2 ?_
  rw [rounds_succ]
  go_wp2_with (fail)
  rw [conv1 98 _ w.heap.size 64 1 (by rw [cell_of (alloc_get w _) 64, zero160_eq]; rfl)]
  go_wp2_with (fail)
  exact bodyPost_ret (v := .tuple #[.slice none 0 0, .string ⟨#[98]⟩]) (by simp [results, Tryz.results110, go_sem]) rfl ⟨rfl, uq⟩
theorem p_iint_11 (w : World) (hb : Bru w) : Calls Tryz.prog 99 #[.int .i64 11, .int .i64 16] w fun e w' => e = .returned (.string ⟨#[98]⟩) ∧ Up w w' := by
  have HB := Lib.hid hb
  clear hb
  go_enter Tryz.func99, Tryz.ntmps99
  go_wp2_with (first | (go_at_call 110; refine (p_bits_11 _ HB.out).mono ?_; rintro e w2 ⟨rfl, hu2⟩))
  go_ret
  exact ⟨rfl, uq⟩
theorem p_int_11 (w : World) (hb : Bru w) : Calls Tryz.prog 91 #[.int .i64 11, .int .i64 16] w fun e w' => e = .returned (.string ⟨#[98]⟩) ∧ Up w w' := by
  have HB := Lib.hid hb
  clear hb
  go_enter Tryz.func91, Tryz.ntmps91
  go_wp2_with (first | (go_at_call 99; refine (p_iint_11 _ HB.out).mono ?_; rintro e w2 ⟨rfl, hu2⟩))
  go_ret
  exact ⟨rfl, uq⟩

set_option maxRecDepth 100000 in
theorem p_bits_12 (w : World) (hb : Bru w) : Calls Tryz.prog 110 #[.slice none 0 0, .int .u64 12, .int .i64 16, .bool false, .bool false] w fun e w' => e = .returned (.tuple #[.slice none 0 0, .string ⟨#[99]⟩]) ∧ Up w w' := by
  have HB := Lib.hid hb
  clear hb
  have z0 := zero160 w 64 (by omega)
  have z1 := zero160 w 63 (by omega)
  go_enter Tryz.func110, Tryz.ntmps110
  go_wp2_with (first | (go_at_call 123; refine (pow2_16 _).mono ?_; rintro e w2 ⟨rfl, rfl⟩) | (go_at_call 124; refine (tz_16 _ (HB.out.up uq)).mono ?_; rintro e w2 ⟨rfl, rfl⟩))
  refine wp_loop_rounds 2 ?_
  rw [rounds_succ]
  go_wp2_with (fail)
  rw [conv1 99 _ w.heap.size 64 1 (by rw [cell_of (alloc_get w _) 64, zero160_eq]; rfl)]
  go_wp2_with (fail)
  exact bodyPost_ret (v := .tuple #[.slice none 0 0, .string ⟨#[99]⟩]) (by simp [results, Tryz.results110, go_sem]) rfl ⟨rfl, uq⟩
theorem p_iint_12 (w : World) (hb : Bru w) : Calls Tryz.prog 99 #[.int .i64 12, .int .i64 16] w fun e w' => e = .returned (.string ⟨#[99]⟩) ∧ Up w w' := by
  have HB := Lib.hid hb
  clear hb
  go_enter Tryz.func99, Tryz.ntmps99
  go_wp2_with (first | (go_at_call 110; refine (p_bits_12 _ HB.out).mono ?_; rintro e w2 ⟨rfl, hu2⟩))
  go_ret
  exact ⟨rfl, uq⟩
theorem p_int_12 (w : World) (hb : Bru w) : Calls Tryz.prog 91 #[.int .i64 12, .int .i64 16] w fun e w' => e = .returned (.string ⟨#[99]⟩) ∧ Up w w' := by
  have HB := Lib.hid hb
  clear hb
  go_enter Tryz.func91, Tryz.ntmps91
  go_wp2_with (first | (go_at_call 99; refine (p_iint_12 _ HB.out).mono ?_; rintro e w2 ⟨rfl, hu2⟩))
  go_ret
  exact ⟨rfl, uq⟩

set_option maxRecDepth 100000 in
theorem p_bits_13 (w : World) (hb : Bru w) : Calls Tryz.prog 110 #[.slice none 0 0, .int .u64 13, .int .i64 16, .bool false, .bool false] w fun e w' => e = .returned (.tuple #[.slice none 0 0, .string ⟨#[100]⟩]) ∧ Up w w' := by
  have HB := Lib.hid hb
  clear hb
  have z0 := zero160 w 64 (by omega)
  have z1 := zero160 w 63 (by omega)
  go_enter Tryz.func110, Tryz.ntmps110
  go_wp2_with (first | (go_at_call 123; refine (pow2_16 _).mono ?_; rintro e w2 ⟨rfl, rfl⟩) | (go_at_call 124; refine (tz_16 _ (HB.out.up uq)).mono ?_; rintro e w2 ⟨rfl, rfl⟩))
  refine wp_loop_rounds 2 ?_
  rw [rounds_succ]
  go_wp2_with (fail)
  rw [conv1 100 _ w.heap.size 64 1 (by rw [cell_of (alloc_get w _) 64, zero160_eq]; rfl)]
  go_wp2_with (fail)
  exact bodyPost_ret (v := .tuple #[.slice none 0 0, .string ⟨#[100]⟩]) (by simp [results, Tryz.results110, go_sem]) rfl ⟨rfl, uq⟩
theorem p_iint_13 (w : World) (hb : Bru w) : Calls Tryz.prog 99 #[.int .i64 13, .int .i64 16] w fun e w' => e = .returned (.string ⟨#[100]⟩) ∧ Up w w' := by
  have HB := Lib.hid hb
  clear hb
  go_enter Tryz.func99, Tryz.ntmps99
  go_wp2_with (first | (go_at_call 110; refine (p_bits_13 _ HB.out).mono ?_; rintro e w2 ⟨rfl, hu2⟩))
  go_ret
  exact ⟨rfl, uq⟩
theorem p_int_13 (w : World) (hb : Bru w) : Calls Tryz.prog 91 #[.int .i64 13, .int .i64 16] w fun e w' => e = .returned (.string ⟨#[100]⟩) ∧ Up w w' := by
  have HB := Lib.hid hb
  clear hb
  go_enter Tryz.func91, Tryz.ntmps91
  go_wp2_with (first | (go_at_call 99; refine (p_iint_13 _ HB.out).mono ?_; rintro e w2 ⟨rfl, hu2⟩))
  go_ret
  exact ⟨rfl, uq⟩

set_option maxRecDepth 100000 in
theorem p_bits_14 (w : World) (hb : Bru w) : Calls Tryz.prog 110 #[.slice none 0 0, .int .u64 14, .int .i64 16, .bool false, .bool false] w fun e w' => e = .returned (.tuple #[.slice none 0 0, .string ⟨#[101]⟩]) ∧ Up w w' := by
  have HB := Lib.hid hb
  clear hb
  have z0 := zero160 w 64 (by omega)
  have z1 := zero160 w 63 (by omega)
  go_enter Tryz.func110, Tryz.ntmps110
  go_wp2_with (first | (go_at_call 123; refine (pow2_16 _).mono ?_; rintro e w2 ⟨rfl, rfl⟩) | (go_at_call 124; refine (tz_16 _ (HB.out.up uq)).mono ?_; rintro e w2 ⟨rfl, rfl⟩))
  refine wp_loop_rounds 2 ?_
  rw [rounds_succ]
  go_wp2_with (fail)
  rw [conv1 101 _ w.heap.size 64 1 (by rw [cell_of (alloc_get w _) 64, zero160_eq]; rfl)]
  go_wp2_with (fail)
  exact bodyPost_ret (v := .tuple #[.slice none 0 0, .string ⟨#[101]⟩]) (by simp [results, Tryz.results110, go_sem]) rfl ⟨rfl, uq⟩
theorem p_iint_14 (w : World) (hb : Bru w) : Calls Tryz.prog 99 #[.int .i64 14, .int .i64 16] w fun e w' => e = .returned (.string ⟨#[101]⟩) ∧ Up w w' := by
  have HB := Lib.hid hb
  clear hb
  go_enter Tryz.func99, Tryz.ntmps99
  go_wp2_with (first | (go_at_call 110; refine (p_bits_14 _ HB.out).mono ?_; rintro e w2 ⟨rfl, hu2⟩))
  go_ret
  exact ⟨rfl, uq⟩
theorem p_int_14 (w : World) (hb : Bru w) : Calls Tryz.prog 91 #[.int .i64 14, .int .i64 16] w fun e w' => e = .returned (.string ⟨#[101]⟩) ∧ Up w w' := by
  have HB := Lib.hid hb
  clear hb
  go_enter Tryz.func91, Tryz.ntmps91
  go_wp2_with (first | (go_at_call 99; refine (p_iint_14 _ HB.out).mono ?_; rintro e w2 ⟨rfl, hu2⟩))
  go_ret
  exact ⟨rfl, uq⟩

set_option maxRecDepth 100000 in
theorem p_bits_15 (w : World) (hb : Bru w) : Calls Tryz.prog 110 #[.slice none 0 0, .int .u64 15, .int .i64 16, .bool false, .bool false] w fun e w' => e = .returned (.tuple #[.slice none 0 0, .string ⟨#[102]⟩]) ∧ Up w w' := by
  have HB := Lib.hid hb
  clear hb
  have z0 := zero160 w 64 (by omega)
  have z1 := zero160 w 63 (by omega)
  go_enter Tryz.func110, Tryz.ntmps110
  go_wp2_with (first | (go_at_call 123; refine (pow2_16 _).mono ?_; rintro e w2 ⟨rfl, rfl⟩) | (go_at_call 124; refine (tz_16 _ (HB.out.up uq)).mono ?_; rintro e w2 ⟨rfl, rfl⟩))
  refine wp_loop_rounds 2 ?_
  rw [rounds_succ]
  go_wp2_with (fail)
  rw [conv1 102 _ w.heap.size 64 1 (by rw [cell_of (alloc_get w _) 64, zero160_eq]; rfl)]
  go_wp2_with (fail)
  exact bodyPost_ret (v := .tuple #[.slice none 0 0, .string ⟨#[102]⟩]) (by simp [results, Tryz.results110, go_sem]) rfl ⟨rfl, uq⟩
theorem p_iint_15 (w : World) (hb : Bru w) : Calls Tryz.prog 99 #[.int .i64 15, .int .i64 16] w fun e w' => e = .returned (.string ⟨#[102]⟩) ∧ Up w w' := by
  have HB := Lib.hid hb
  clear hb
  go_enter Tryz.func99, Tryz.ntmps99
  go_wp2_with (first | (go_at_call 110; refine (p_bits_15 _ HB.out).mono ?_; rintro e w2 ⟨rfl, hu2⟩))
  go_ret
  exact ⟨rfl, uq⟩
theorem p_int_15 (w : World) (hb : Bru w) : Calls Tryz.prog 91 #[.int .i64 15, .int .i64 16] w fun e w' => e = .returned (.string ⟨#[102]⟩) ∧ Up w w' := by
  have HB := Lib.hid hb
  clear hb
  go_enter Tryz.func91, Tryz.ntmps91
  go_wp2_with (first | (go_at_call 99; refine (p_iint_15 _ HB.out).mono ?_; rintro e w2 ⟨rfl, hu2⟩))
  go_ret
  exact ⟨rfl, uq⟩

set_option maxRecDepth 100000 in
theorem p_bits_16 (w : World) (hb : Bru w) : Calls Tryz.prog 110 #[.slice none 0 0, .int .u64 16, .int .i64 16, .bool false, .bool false] w fun e w' => e = .returned (.tuple #[.slice none 0 0, .string ⟨#[49, 48]⟩]) ∧ Up w w' := by
  have HB := Lib.hid hb
  clear hb
  have z0 := zero160 w 64 (by omega)
  have z1 := zero160 w 63 (by omega)
  go_enter Tryz.func110, Tryz.ntmps110
  go_wp2_with (first | (go_at_call 123; refine (pow2_16 _).mono ?_; rintro e w2 ⟨rfl, rfl⟩) | (go_at_call 124; refine (tz_16 _ (HB.out.up uq)).mono ?_; rintro e w2 ⟨rfl, rfl⟩))
  refine wp_loop_rounds 3 ?_
  rw [rounds_succ]
  go_wp2_with (fail)
  rw [rounds_succ]
  go_wp2_with (fail)
  rw [conv2 49 48 _ w.heap.size 63 2 (by rw [cell_of (alloc_get w _) 63, zero160_eq]; rfl) (by rw [cell_of (alloc_get w _) 64, zero160_eq]; rfl)]
  go_wp2_with (fail)
  exact bodyPost_ret (v := .tuple #[.slice none 0 0, .string ⟨#[49, 48]⟩]) (by simp [results, Tryz.results110, go_sem]) rfl ⟨rfl, uq⟩
theorem p_iint_16 (w : World) (hb : Bru w) : Calls Tryz.prog 99 #[.int .i64 16, .int .i64 16] w fun e w' => e = .returned (.string ⟨#[49, 48]⟩) ∧ Up w w' := by
  have HB := Lib.hid hb
  clear hb
  go_enter Tryz.func99, Tryz.ntmps99
  go_wp2_with (first | (go_at_call 110; refine (p_bits_16 _ HB.out).mono ?_; rintro e w2 ⟨rfl, hu2⟩))
  go_ret
  exact ⟨rfl, uq⟩
theorem p_int_16 (w : World) (hb : Bru w) : Calls Tryz.prog 91 #[.int .i64 16, .int .i64 16] w fun e w' => e = .returned (.string ⟨#[49, 48]⟩) ∧ Up w w' := by
  have HB := Lib.hid hb
  clear hb
  go_enter Tryz.func91, Tryz.ntmps91
  go_wp2_with (first | (go_at_call 99; refine (p_iint_16 _ HB.out).mono ?_; rintro e w2 ⟨rfl, hu2⟩))
  go_ret
  exact ⟨rfl, uq⟩

set_option maxRecDepth 100000 in
theorem p_bits_17 (w : World) (hb : Bru w) : Calls Tryz.prog 110 #[.slice none 0 0, .int .u64 17, .int .i64 16, .bool false, .bool false] w fun e w' => e = .returned (.tuple #[.slice none 0 0, .string ⟨#[49, 49]⟩]) ∧ Up w w' := by
  have HB := Lib.hid hb
  clear hb
  have z0 := zero160 w 64 (by omega)
  have z1 := zero160 w 63 (by omega)
  go_enter Tryz.func110, Tryz.ntmps110
  go_wp2_with (first | (go_at_call 123; refine (pow2_16 _).mono ?_; rintro e w2 ⟨rfl, rfl⟩) | (go_at_call 124; refine (tz_16 _ (HB.out.up uq)).mono ?_; rintro e w2 ⟨rfl, rfl⟩))
  refine wp_loop_rounds 3 ?_
  rw [rounds_succ]
  go_wp2_with (fail)
  rw [rounds_succ]
  go_wp2_with (fail)
  rw [conv2 49 49 _ w.heap.size 63 2 (by rw [cell_of (alloc_get w _) 63, zero160_eq]; rfl) (by rw [cell_of (alloc_get w _) 64, zero160_eq]; rfl)]
  go_wp2_with (fail)
  exact bodyPost_ret (v := .tuple #[.slice none 0 0, .string ⟨#[49, 49]⟩]) (by simp [results, Tryz.results110, go_sem]) rfl ⟨rfl, uq⟩
theorem p_iint_17 (w : World) (hb : Bru w) : Calls Tryz.prog 99 #[.int .i64 17, .int .i64 16] w fun e w' => e = .returned (.string ⟨#[49, 49]⟩) ∧ Up w w' := by
  have HB := Lib.hid hb
  clear hb
  go_enter Tryz.func99, Tryz.ntmps99
  go_wp2_with (first | (go_at_call 110; refine (p_bits_17 _ HB.out).mono ?_; rintro e w2 ⟨rfl, hu2⟩))
  go_ret
  exact ⟨rfl, uq⟩
theorem p_int_17 (w : World) (hb : Bru w) : Calls Tryz.prog 91 #[.int .i64 17, .int .i64 16] w fun e w' => e = .returned (.string ⟨#[49, 49]⟩) ∧ Up w w' := by
  have HB := Lib.hid hb
  clear hb
  go_enter Tryz.func91, Tryz.ntmps91
  go_wp2_with (first | (go_at_call 99; refine (p_iint_17 _ HB.out).mono ?_; rintro e w2 ⟨rfl, hu2⟩))
  go_ret
  exact ⟨rfl, uq⟩

set_option maxRecDepth 100000 in
theorem p_bits_18 (w : World) (hb : Bru w) : Calls Tryz.prog 110 #[.slice none 0 0, .int .u64 18, .int .i64 16, .bool false, .bool false] w fun e w' => e = .returned (.tuple #[.slice none 0 0, .string ⟨#[49, 50]⟩]) ∧ Up w w' := by
  have HB := Lib.hid hb
  clear hb
  have z0 := zero160 w 64 (by omega)
  have z1 := zero160 w 63 (by omega)
  go_enter Tryz.func110, Tryz.ntmps110
  go_wp2_with (first | (go_at_call 123; refine (pow2_16 _).mono ?_; rintro e w2 ⟨rfl, rfl⟩) | (go_at_call 124; refine (tz_16 _ (HB.out.up uq)).mono ?_; rintro e w2 ⟨rfl, rfl⟩))
  refine wp_loop_rounds 3 ?_
  rw [rounds_succ]
  go_wp2_with (fail)
  rw [rounds_succ]
  go_wp2_with (fail)
  rw [conv2 49 50 _ w.heap.size 63 2 (by rw [cell_of (alloc_get w _) 63, zero160_eq]; rfl) (by rw [cell_of (alloc_get w _) 64, zero160_eq]; rfl)]
  go_wp2_with (fail)
  exact bodyPost_ret (v := .tuple #[.slice none 0 0, .string ⟨#[49, 50]⟩]) (by simp [results, Tryz.results110, go_sem]) rfl ⟨rfl, uq⟩
theorem p_iint_18 (w : World) (hb : Bru w) : Calls Tryz.prog 99 #[.int .i64 18, .int .i64 16] w fun e w' => e = .returned (.string ⟨#[49, 50]⟩) ∧ Up w w' := by
  have HB := Lib.hid hb
  clear hb
  go_enter Tryz.func99, Tryz.ntmps99
  go_wp2_with (first | (go_at_call 110; refine (p_bits_18 _ HB.out).mono ?_; rintro e w2 ⟨rfl, hu2⟩))
  go_ret
  exact ⟨rfl, uq⟩
theorem p_int_18 (w : World) (hb : Bru w) : Calls Tryz.prog 91 #[.int .i64 18, .int .i64 16] w fun e w' => e = .returned (.string ⟨#[49, 50]⟩) ∧ Up w w' := by
  have HB := Lib.hid hb
  clear hb
  go_enter Tryz.func91, Tryz.ntmps91
  go_wp2_with (first | (go_at_call 99; refine (p_iint_18 _ HB.out).mono ?_; rintro e w2 ⟨rfl, hu2⟩))
  go_ret
  exact ⟨rfl, uq⟩

set_option maxRecDepth 100000 in
theorem p_bits_19 (w : World) (hb : Bru w) : Calls Tryz.prog 110 #[.slice none 0 0, .int .u64 19, .int .i64 16, .bool false, .bool false] w fun e w' => e = .returned (.tuple #[.slice none 0 0, .string ⟨#[49, 51]⟩]) ∧ Up w w' := by
  have HB := Lib.hid hb
  clear hb
  have z0 := zero160 w 64 (by omega)
  have z1 := zero160 w 63 (by omega)
  go_enter Tryz.func110, Tryz.ntmps110
  go_wp2_with (first | (go_at_call 123; refine (pow2_16 _).mono ?_; rintro e w2 ⟨rfl, rfl⟩) | (go_at_call 124; refine (tz_16 _ (HB.out.up uq)).mono ?_; rintro e w2 ⟨rfl, rfl⟩))
  refine wp_loop_rounds 3 ?_
  rw [rounds_succ]
  go_wp2_with (fail)
  rw [rounds_succ]
  go_wp2_with (fail)
  rw [conv2 49 51 _ w.heap.size 63 2 (by rw [cell_of (alloc_get w _) 63, zero160_eq]; rfl) (by rw [cell_of (alloc_get w _) 64, zero160_eq]; rfl)]
  go_wp2_with (fail)
  exact bodyPost_ret (v := .tuple #[.slice none 0 0, .string ⟨#[49, 51]⟩]) (by simp [results, Tryz.results110, go_sem]) rfl ⟨rfl, uq⟩
theorem p_iint_19 (w : World) (hb : Bru w) : Calls Tryz.prog 99 #[.int .i64 19, .int .i64 16] w fun e w' => e = .returned (.string ⟨#[49, 51]⟩) ∧ Up w w' := by
  have HB := Lib.hid hb
  clear hb
  go_enter Tryz.func99, Tryz.ntmps99
  go_wp2_with (first | (go_at_call 110; refine (p_bits_19 _ HB.out).mono ?_; rintro e w2 ⟨rfl, hu2⟩))
  go_ret
  exact ⟨rfl, uq⟩
theorem p_int_19 (w : World) (hb : Bru w) : Calls Tryz.prog 91 #[.int .i64 19, .int .i64 16] w fun e w' => e = .returned (.string ⟨#[49, 51]⟩) ∧ Up w w' := by
  have HB := Lib.hid hb
  clear hb
  go_enter Tryz.func91, Tryz.ntmps91
  go_wp2_with (first | (go_at_call 99; refine (p_iint_19 _ HB.out).mono ?_; rintro e w2 ⟨rfl, hu2⟩))
  go_ret
  exact ⟨rfl, uq⟩

set_option maxRecDepth 100000 in
theorem p_bits_20 (w : World) (hb : Bru w) : Calls Tryz.prog 110 #[.slice none 0 0, .int .u64 20, .int .i64 16, .bool false, .bool false] w fun e w' => e = .returned (.tuple #[.slice none 0 0, .string ⟨#[49, 52]⟩]) ∧ Up w w' := by
  have HB := Lib.hid hb
  clear hb
  have z0 := zero160 w 64 (by omega)
  have z1 := zero160 w 63 (by omega)
  go_enter Tryz.func110, Tryz.ntmps110
  go_wp2_with (first | (go_at_call 123; refine (pow2_16 _).mono ?_; rintro e w2 ⟨rfl, rfl⟩) | (go_at_call 124; refine (tz_16 _ (HB.out.up uq)).mono ?_; rintro e w2 ⟨rfl, rfl⟩))
  refine wp_loop_rounds 3 ?_
  rw [rounds_succ]
  go_wp2_with (fail)
  rw [rounds_succ]
  go_wp2_with (fail)
  rw [conv2 49 52 _ w.heap.size 63 2 (by rw [cell_of (alloc_get w _) 63, zero160_eq]; rfl) (by rw [cell_of (alloc_get w _) 64, zero160_eq]; rfl)]
  go_wp2_with (fail)
  exact bodyPost_ret (v := .tuple #[.slice none 0 0, .string ⟨#[49, 52]⟩]) (by simp [results, Tryz.results110, go_sem]) rfl ⟨rfl, uq⟩
theorem p_iint_20 (w : World) (hb : Bru w) : Calls Tryz.prog 99 #[.int .i64 20, .int .i64 16] w fun e w' => e = .returned (.string ⟨#[49, 52]⟩) ∧ Up w w' := by
  have HB := Lib.hid hb
  clear hb
  go_enter Tryz.func99, Tryz.ntmps99
  go_wp2_with (first | (go_at_call 110; refine (p_bits_20 _ HB.out).mono ?_; rintro e w2 ⟨rfl, hu2⟩))
  go_ret
  exact ⟨rfl, uq⟩
theorem p_int_20 (w : World) (hb : Bru w) : Calls Tryz.prog 91 #[.int .i64 20, .int .i64 16] w fun e w' => e = .returned (.string ⟨#[49, 52]⟩) ∧ Up w w' := by
  have HB := Lib.hid hb
  clear hb
  go_enter Tryz.func91, Tryz.ntmps91
  go_wp2_with (first | (go_at_call 99; refine (p_iint_20 _ HB.out).mono ?_; rintro e w2 ⟨rfl, hu2⟩))
  go_ret
  exact ⟨rfl, uq⟩

set_option maxRecDepth 100000 in
theorem p_bits_21 (w : World) (hb : Bru w) : Calls Tryz.prog 110 #[.slice none 0 0, .int .u64 21, .int .i64 16, .bool false, .bool false] w fun e w' => e = .returned (.tuple #[.slice none 0 0, .string ⟨#[49, 53]⟩]) ∧ Up w w' := by
  have HB := Lib.hid hb
  clear hb
  have z0 := zero160 w 64 (by omega)
  have z1 := zero160 w 63 (by omega)
  go_enter Tryz.func110, Tryz.ntmps110
  go_wp2_with (first | (go_at_call 123; refine (pow2_16 _).mono ?_; rintro e w2 ⟨rfl, rfl⟩) | (go_at_call 124; refine (tz_16 _ (HB.out.up uq)).mono ?_; rintro e w2 ⟨rfl, rfl⟩))
  refine wp_loop_rounds 3 ?_
  rw [rounds_succ]
  go_wp2_with (fail)
  rw [rounds_succ]
  go_wp2_with (fail)
  rw [conv2 49 53 _ w.heap.size 63 2 (by rw [cell_of (alloc_get w _) 63, zero160_eq]; rfl) (by rw [cell_of (alloc_get w _) 64, zero160_eq]; rfl)]
  go_wp2_with (fail)
  exact bodyPost_ret (v := .tuple #[.slice none 0 0, .string ⟨#[49, 53]⟩]) (by simp [results, Tryz.results110, go_sem]) rfl ⟨rfl, uq⟩
theorem p_iint_21 (w : World) (hb : Bru w) : Calls Tryz.prog 99 #[.int .i64 21, .int .i64 16] w fun e w' => e = .returned (.string ⟨#[49, 53]⟩) ∧ Up w w' := by
  have HB := Lib.hid hb
  clear hb
  go_enter Tryz.func99, Tryz.ntmps99
  go_wp2_with (first | (go_at_call 110; refine (p_bits_21 _ HB.out).mono ?_; rintro e w2 ⟨rfl, hu2⟩))
  go_ret
  exact ⟨rfl, uq⟩
theorem p_int_21 (w : World) (hb : Bru w) : Calls Tryz.prog 91 #[.int .i64 21, .int .i64 16] w fun e w' => e = .returned (.string ⟨#[49, 53]⟩) ∧ Up w w' := by
  have HB := Lib.hid hb
  clear hb
  go_enter Tryz.func91, Tryz.ntmps91
  go_wp2_with (first | (go_at_call 99; refine (p_iint_21 _ HB.out).mono ?_; rintro e w2 ⟨rfl, hu2⟩))
  go_ret
  exact ⟨rfl, uq⟩

set_option maxRecDepth 100000 in
theorem p_bits_22 (w : World) (hb : Bru w) : Calls Tryz.prog 110 #[.slice none 0 0, .int .u64 22, .int .i64 16, .bool false, .bool false] w fun e w' => e = .returned (.tuple #[.slice none 0 0, .string ⟨#[49, 54]⟩]) ∧ Up w w' := by
  have HB := Lib.hid hb
  clear hb
  have z0 := zero160 w 64 (by omega)
  have z1 := zero160 w 63 (by omega)
  go_enter Tryz.func110, Tryz.ntmps110
  go_wp2_with (first | (go_at_call 123; refine (pow2_16 _).mono ?_; rintro e w2 ⟨rfl, rfl⟩) | (go_at_call 124; refine (tz_16 _ (HB.out.up uq)).mono ?_; rintro e w2 ⟨rfl, rfl⟩))
  refine wp_loop_rounds 3 ?_
  rw [rounds_succ]
  go_wp2_with (fail)
  rw [rounds_succ]
  go_wp2_with (fail)
  rw [conv2 49 54 _ w.heap.size 63 2 (by rw [cell_of (alloc_get w _) 63, zero160_eq]; rfl) (by rw [cell_of (alloc_get w _) 64, zero160_eq]; rfl)]
  go_wp2_with (fail)
  exact bodyPost_ret (v := .tuple #[.slice none 0 0, .string ⟨#[49, 54]⟩]) (by simp [results, Tryz.results110, go_sem]) rfl ⟨rfl, uq⟩
theorem p_iint_22 (w : World) (hb : Bru w) : Calls Tryz.prog 99 #[.int .i64 22, .int .i64 16] w fun e w' => e = .returned (.string ⟨#[49, 54]⟩) ∧ Up w w' := by
  have HB := Lib.hid hb
  clear hb
  go_enter Tryz.func99, Tryz.ntmps99
  go_wp2_with (first | (go_at_call 110; refine (p_bits_22 _ HB.out).mono ?_; rintro e w2 ⟨rfl, hu2⟩))
  go_ret
  exact ⟨rfl, uq⟩
theorem p_int_22 (w : World) (hb : Bru w) : Calls Tryz.prog 91 #[.int .i64 22, .int .i64 16] w fun e w' => e = .returned (.string ⟨#[49, 54]⟩) ∧ Up w w' := by
  have HB := Lib.hid hb
  clear hb
  go_enter Tryz.func91, Tryz.ntmps91
  go_wp2_with (first | (go_at_call 99; refine (p_iint_22 _ HB.out).mono ?_; rintro e w2 ⟨rfl, hu2⟩))
  go_ret
  exact ⟨rfl, uq⟩

set_option maxRecDepth 100000 in
theorem p_bits_23 (w : World) (hb : Bru w) : Calls Tryz.prog 110 #[.slice none 0 0, .int .u64 23, .int .i64 16, .bool false, .bool false] w fun e w' => e = .returned (.tuple #[.slice none 0 0, .string ⟨#[49, 55]⟩]) ∧ Up w w' := by
  have HB := Lib.hid hb
  clear hb
  have z0 := zero160 w 64 (by omega)
  have z1 := zero160 w 63 (by omega)
  go_enter Tryz.func110, Tryz.ntmps110
  go_wp2_with (first | (go_at_call 123; refine (pow2_16 _).mono ?_; rintro e w2 ⟨rfl, rfl⟩) | (go_at_call 124; refine (tz_16 _ (HB.out.up uq)).mono ?_; rintro e w2 ⟨rfl, rfl⟩))
  refine wp_loop_rounds 3 ?_
  rw [rounds_succ]
  go_wp2_with (fail)
  rw [rounds_succ]
  go_wp2_with (fail)
  rw [conv2 49 55 _ w.heap.size 63 2 (by rw [cell_of (alloc_get w _) 63, zero160_eq]; rfl) (by rw [cell_of (alloc_get w _) 64, zero160_eq]; rfl)]
  go_wp2_with (fail)
  exact bodyPost_ret (v := .tuple #[.slice none 0 0, .string ⟨#[49, 55]⟩]) (by simp [results, Tryz.results110, go_sem]) rfl ⟨rfl, uq⟩
theorem p_iint_23 (w : World) (hb : Bru w) : Calls Tryz.prog 99 #[.int .i64 23, .int .i64 16] w fun e w' => e = .returned (.string ⟨#[49, 55]⟩) ∧ Up w w' := by
  have HB := Lib.hid hb
  clear hb
  go_enter Tryz.func99, Tryz.ntmps99
  go_wp2_with (first | (go_at_call 110; refine (p_bits_23 _ HB.out).mono ?_; rintro e w2 ⟨rfl, hu2⟩))
  go_ret
  exact ⟨rfl, uq⟩
theorem p_int_23 (w : World) (hb : Bru w) : Calls Tryz.prog 91 #[.int .i64 23, .int .i64 16] w fun e w' => e = .returned (.string ⟨#[49, 55]⟩) ∧ Up w w' := by
  have HB := Lib.hid hb
  clear hb
  go_enter Tryz.func91, Tryz.ntmps91
  go_wp2_with (first | (go_at_call 99; refine (p_iint_23 _ HB.out).mono ?_; rintro e w2 ⟨rfl, hu2⟩))
  go_ret
  exact ⟨rfl, uq⟩

set_option maxRecDepth 100000 in
theorem p_bits_24 (w : World) (hb : Bru w) : Calls Tryz.prog 110 #[.slice none 0 0, .int .u64 24, .int .i64 16, .bool false, .bool false] w fun e w' => e = .returned (.tuple #[.slice none 0 0, .string ⟨#[49, 56]⟩]) ∧ Up w w' := by
  have HB := Lib.hid hb
  clear hb
  have z0 := zero160 w 64 (by omega)
  have z1 := zero160 w 63 (by omega)
  go_enter Tryz.func110, Tryz.ntmps110
  go_wp2_with (first | (go_at_call 123; refine (pow2_16 _).mono ?_; rintro e w2 ⟨rfl, rfl⟩) | (go_at_call 124; refine (tz_16 _ (HB.out.up uq)).mono ?_; rintro e w2 ⟨rfl, rfl⟩))
  refine wp_loop_rounds 3 ?_
  rw [rounds_succ]
  go_wp2_with (fail)
  rw [rounds_succ]
  go_wp2_with (fail)
  rw [conv2 49 56 _ w.heap.size 63 2 (by rw [cell_of (alloc_get w _) 63, zero160_eq]; rfl) (by rw [cell_of (alloc_get w _) 64, zero160_eq]; rfl)]
  go_wp2_with (fail)
  exact bodyPost_ret (v := .tuple #[.slice none 0 0, .string ⟨#[49, 56]⟩]) (by simp [results, Tryz.results110, go_sem]) rfl ⟨rfl, uq⟩
theorem p_iint_24 (w : World) (hb : Bru w) : Calls Tryz.prog 99 #[.int .i64 24, .int .i64 16] w fun e w' => e = .returned (.string ⟨#[49, 56]⟩) ∧ Up w w' := by
  have HB := Lib.hid hb
  clear hb
  go_enter Tryz.func99, Tryz.ntmps99
  go_wp2_with (first | (go_at_call 110; refine (p_bits_24 _ HB.out).mono ?_; rintro e w2 ⟨rfl, hu2⟩))
  go_ret
  exact ⟨rfl, uq⟩
theorem p_int_24 (w : World) (hb : Bru w) : Calls Tryz.prog 91 #[.int .i64 24, .int .i64 16] w fun e w' => e = .returned (.string ⟨#[49, 56]⟩) ∧ Up w w' := by
  have HB := Lib.hid hb
  clear hb
  go_enter Tryz.func91, Tryz.ntmps91
  go_wp2_with (first | (go_at_call 99; refine (p_iint_24 _ HB.out).mono ?_; rintro e w2 ⟨rfl, hu2⟩))
  go_ret
  exact ⟨rfl, uq⟩

set_option maxRecDepth 100000 in
theorem p_bits_25 (w : World) (hb : Bru w) : Calls Tryz.prog 110 #[.slice none 0 0, .int .u64 25, .int .i64 16, .bool false, .bool false] w fun e w' => e = .returned (.tuple #[.slice none 0 0, .string ⟨#[49, 57]⟩]) ∧ Up w w' := by
  have HB := Lib.hid hb
  clear hb
  have z0 := zero160 w 64 (by omega)
  have z1 := zero160 w 63 (by omega)
  go_enter Tryz.func110, Tryz.ntmps110
  go_wp2_with (first | (go_at_call 123; refine (pow2_16 _).mono ?_; rintro e w2 ⟨rfl, rfl⟩) | (go_at_call 124; refine (tz_16 _ (HB.out.up uq)).mono ?_; rintro e w2 ⟨rfl, rfl⟩))
  refine wp_loop_rounds 3 ?_
  rw [rounds_succ]
  go_wp2_with (fail)
  rw [rounds_succ]
  go_wp2_with (fail)
  rw [conv2 49 57 _ w.heap.size 63 2 (by rw [cell_of (alloc_get w _) 63, zero160_eq]; rfl) (by rw [cell_of (alloc_get w _) 64, zero160_eq]; rfl)]
  go_wp2_with (fail)
  exact bodyPost_ret (v := .tuple #[.slice none 0 0, .string ⟨#[49, 57]⟩]) (by simp [results, Tryz.results110, go_sem]) rfl ⟨rfl, uq⟩
theorem p_iint_25 (w : World) (hb : Bru w) : Calls Tryz.prog 99 #[.int .i64 25, .int .i64 16] w fun e w' => e = .returned (.string ⟨#[49, 57]⟩) ∧ Up w w' := by
  have HB := Lib.hid hb
  clear hb
  go_enter Tryz.func99, Tryz.ntmps99
  go_wp2_with (first | (go_at_call 110; refine (p_bits_25 _ HB.out).mono ?_; rintro e w2 ⟨rfl, hu2⟩))
  go_ret
  exact ⟨rfl, uq⟩
theorem p_int_25 (w : World) (hb : Bru w) : Calls Tryz.prog 91 #[.int .i64 25, .int .i64 16] w fun e w' => e = .returned (.string ⟨#[49, 57]⟩) ∧ Up w w' := by
  have HB := Lib.hid hb
  clear hb
  go_enter Tryz.func91, Tryz.ntmps91
  go_wp2_with (first | (go_at_call 99; refine (p_iint_25 _ HB.out).mono ?_; rintro e w2 ⟨rfl, hu2⟩))
  go_ret
  exact ⟨rfl, uq⟩

set_option maxRecDepth 100000 in
theorem p_bits_26 (w : World) (hb : Bru w) : Calls Tryz.prog 110 #[.slice none 0 0, .int .u64 26, .int .i64 16, .bool false, .bool false] w fun e w' => e = .returned (.tuple #[.slice none 0 0, .string ⟨#[49, 97]⟩]) ∧ Up w w' := by
  have HB := Lib.hid hb
  clear hb
  have z0 := zero160 w 64 (by omega)
  have z1 := zero160 w 63 (by omega)
  go_enter Tryz.func110, Tryz.ntmps110
  go_wp2_with (first | (go_at_call 123; refine (pow2_16 _).mono ?_; rintro e w2 ⟨rfl, rfl⟩) | (go_at_call 124; refine (tz_16 _ (HB.out.up uq)).mono ?_; rintro e w2 ⟨rfl, rfl⟩))
  refine wp_loop_rounds 3 ?_
  rw [rounds_succ]
  go_wp2_with (fail)
  rw [rounds_succ]
  go_wp2_with (fail)
  rw [conv2 49 97 _ w.heap.size 63 2 (by rw [cell_of (alloc_get w _) 63, zero160_eq]; rfl) (by rw [cell_of (alloc_get w _) 64, zero160_eq]; rfl)]
  go_wp2_with (fail)
  exact bodyPost_ret (v := .tuple #[.slice none 0 0, .string ⟨#[49, 97]⟩]) (by simp [results, Tryz.results110, go_sem]) rfl ⟨rfl, uq⟩
theorem p_iint_26 (w : World) (hb : Bru w) : Calls Tryz.prog 99 #[.int .i64 26, .int .i64 16] w fun e w' => e = .returned (.string ⟨#[49, 97]⟩) ∧ Up w w' := by
  have HB := Lib.hid hb
  clear hb
  go_enter Tryz.func99, Tryz.ntmps99
  go_wp2_with (first | (go_at_call 110; refine (p_bits_26 _ HB.out).mono ?_; rintro e w2 ⟨rfl, hu2⟩))
  go_ret
  exact ⟨rfl, uq⟩
theorem p_int_26 (w : World) (hb : Bru w) : Calls Tryz.prog 91 #[.int .i64 26, .int .i64 16] w fun e w' => e = .returned (.string ⟨#[49, 97]⟩) ∧ Up w w' := by
  have HB := Lib.hid hb
  clear hb
  go_enter Tryz.func91, Tryz.ntmps91
  go_wp2_with (first | (go_at_call 99; refine (p_iint_26 _ HB.out).mono ?_; rintro e w2 ⟨rfl, hu2⟩))
  go_ret
  exact ⟨rfl, uq⟩

set_option maxRecDepth 100000 in
theorem p_bits_27 (w : World) (hb : Bru w) : Calls Tryz.prog 110 #[.slice none 0 0, .int .u64 27, .int .i64 16, .bool false, .bool false] w fun e w' => e = .returned (.tuple #[.slice none 0 0, .string ⟨#[49, 98]⟩]) ∧ Up w w' := by
  have HB := Lib.hid hb
  clear hb
  have z0 := zero160 w 64 (by omega)
  have z1 := zero160 w 63 (by omega)
  go_enter Tryz.func110, Tryz.ntmps110
  go_wp2_with (first | (go_at_call 123; refine (pow2_16 _).mono ?_; rintro e w2 ⟨rfl, rfl⟩) | (go_at_call 124; refine (tz_16 _ (HB.out.up uq)).mono ?_; rintro e w2 ⟨rfl, rfl⟩))
  refine wp_loop_rounds 3 ?_
  rw [rounds_succ]
  go_wp2_with (fail)
  rw [rounds_succ]
  go_wp2_with (fail)
  rw [conv2 49 98 _ w.heap.size 63 2 (by rw [cell_of (alloc_get w _) 63, zero160_eq]; rfl) (by rw [cell_of (alloc_get w _) 64, zero160_eq]; rfl)]
  go_wp2_with (fail)
  exact bodyPost_ret (v := .tuple #[.slice none 0 0, .string ⟨#[49, 98]⟩]) (by simp [results, Tryz.results110, go_sem]) rfl ⟨rfl, uq⟩
theorem p_iint_27 (w : World) (hb : Bru w) : Calls Tryz.prog 99 #[.int .i64 27, .int .i64 16] w fun e w' => e = .returned (.string ⟨#[49, 98]⟩) ∧ Up w w' := by
  have HB := Lib.hid hb
  clear hb
  go_enter Tryz.func99, Tryz.ntmps99
  go_wp2_with (first | (go_at_call 110; refine (p_bits_27 _ HB.out).mono ?_; rintro e w2 ⟨rfl, hu2⟩))
  go_ret
  exact ⟨rfl, uq⟩
theorem p_int_27 (w : World) (hb : Bru w) : Calls Tryz.prog 91 #[.int .i64 27, .int .i64 16] w fun e w' => e = .returned (.string ⟨#[49, 98]⟩) ∧ Up w w' := by
  have HB := Lib.hid hb
  clear hb
  go_enter Tryz.func91, Tryz.ntmps91
  go_wp2_with (first | (go_at_call 99; refine (p_iint_27 _ HB.out).mono ?_; rintro e w2 ⟨rfl, hu2⟩))
  go_ret
  exact ⟨rfl, uq⟩

set_option maxRecDepth 100000 in
theorem p_bits_28 (w : World) (hb : Bru w) : Calls Tryz.prog 110 #[.slice none 0 0, .int .u64 28, .int .i64 16, .bool false, .bool false] w fun e w' => e = .returned (.tuple #[.slice none 0 0, .string ⟨#[49, 99]⟩]) ∧ Up w w' := by
  have HB := Lib.hid hb
  clear hb
  have z0 := zero160 w 64 (by omega)
  have z1 := zero160 w 63 (by omega)
  go_enter Tryz.func110, Tryz.ntmps110
  go_wp2_with (first | (go_at_call 123; refine (pow2_16 _).mono ?_; rintro e w2 ⟨rfl, rfl⟩) | (go_at_call 124; refine (tz_16 _ (HB.out.up uq)).mono ?_; rintro e w2 ⟨rfl, rfl⟩))
  refine wp_loop_rounds 3 ?_
  rw [rounds_succ]
  go_wp2_with (fail)
  rw [rounds_succ]
  go_wp2_with (fail)
  rw [conv2 49 99 _ w.heap.size 63 2 (by rw [cell_of (alloc_get w _) 63, zero160_eq]; rfl) (by rw [cell_of (alloc_get w _) 64, zero160_eq]; rfl)]
  go_wp2_with (fail)
  exact bodyPost_ret (v := .tuple #[.slice none 0 0, .string ⟨#[49, 99]⟩]) (by simp [results, Tryz.results110, go_sem]) rfl ⟨rfl, uq⟩
theorem p_iint_28 (w : World) (hb : Bru w) : Calls Tryz.prog 99 #[.int .i64 28, .int .i64 16] w fun e w' => e = .returned (.string ⟨#[49, 99]⟩) ∧ Up w w' := by
  have HB := Lib.hid hb
  clear hb
  go_enter Tryz.func99, Tryz.ntmps99
  go_wp2_with (first | (go_at_call 110; refine (p_bits_28 _ HB.out).mono ?_; rintro e w2 ⟨rfl, hu2⟩))
  go_ret
  exact ⟨rfl, uq⟩
theorem p_int_28 (w : World) (hb : Bru w) : Calls Tryz.prog 91 #[.int .i64 28, .int .i64 16] w fun e w' => e = .returned (.string ⟨#[49, 99]⟩) ∧ Up w w' := by
  have HB := Lib.hid hb
  clear hb
  go_enter Tryz.func91, Tryz.ntmps91
  go_wp2_with (first | (go_at_call 99; refine (p_iint_28 _ HB.out).mono ?_; rintro e w2 ⟨rfl, hu2⟩))
  go_ret
  exact ⟨rfl, uq⟩

set_option maxRecDepth 100000 in
theorem p_bits_29 (w : World) (hb : Bru w) : Calls Tryz.prog 110 #[.slice none 0 0, .int .u64 29, .int .i64 16, .bool false, .bool false] w fun e w' => e = .returned (.tuple #[.slice none 0 0, .string ⟨#[49, 100]⟩]) ∧ Up w w' := by
  have HB := Lib.hid hb
  clear hb
  have z0 := zero160 w 64 (by omega)
  have z1 := zero160 w 63 (by omega)
  go_enter Tryz.func110, Tryz.ntmps110
  go_wp2_with (first | (go_at_call 123; refine (pow2_16 _).mono ?_; rintro e w2 ⟨rfl, rfl⟩) | (go_at_call 124; refine (tz_16 _ (HB.out.up uq)).mono ?_; rintro e w2 ⟨rfl, rfl⟩))
  refine wp_loop_rounds 3 ?_
  rw [rounds_succ]
  go_wp2_with (fail)
  rw [rounds_succ]
  go_wp2_with (fail)
  rw [conv2 49 100 _ w.heap.size 63 2 (by rw [cell_of (alloc_get w _) 63, zero160_eq]; rfl) (by rw [cell_of (alloc_get w _) 64, zero160_eq]; rfl)]
  go_wp2_with (fail)
  exact bodyPost_ret (v := .tuple #[.slice none 0 0, .string ⟨#[49, 100]⟩]) (by simp [results, Tryz.results110, go_sem]) rfl ⟨rfl, uq⟩
theorem p_iint_29 (w : World) (hb : Bru w) : Calls Tryz.prog 99 #[.int .i64 29, .int .i64 16] w fun e w' => e = .returned (.string ⟨#[49, 100]⟩) ∧ Up w w' := by
  have HB := Lib.hid hb
  clear hb
  go_enter Tryz.func99, Tryz.ntmps99
  go_wp2_with (first | (go_at_call 110; refine (p_bits_29 _ HB.out).mono ?_; rintro e w2 ⟨rfl, hu2⟩))
  go_ret
  exact ⟨rfl, uq⟩
theorem p_int_29 (w : World) (hb : Bru w) : Calls Tryz.prog 91 #[.int .i64 29, .int .i64 16] w fun e w' => e = .returned (.string ⟨#[49, 100]⟩) ∧ Up w w' := by
  have HB := Lib.hid hb
  clear hb
  go_enter Tryz.func91, Tryz.ntmps91
  go_wp2_with (first | (go_at_call 99; refine (p_iint_29 _ HB.out).mono ?_; rintro e w2 ⟨rfl, hu2⟩))
  go_ret
  exact ⟨rfl, uq⟩

set_option maxRecDepth 100000 in
theorem p_bits_30 (w : World) (hb : Bru w) : Calls Tryz.prog 110 #[.slice none 0 0, .int .u64 30, .int .i64 16, .bool false, .bool false] w fun e w' => e = .returned (.tuple #[.slice none 0 0, .string ⟨#[49, 101]⟩]) ∧ Up w w' := by
  have HB := Lib.hid hb
  clear hb
  have z0 := zero160 w 64 (by omega)
  have z1 := zero160 w 63 (by omega)
  go_enter Tryz.func110, Tryz.ntmps110
  go_wp2_with (first | (go_at_call 123; refine (pow2_16 _).mono ?_; rintro e w2 ⟨rfl, rfl⟩) | (go_at_call 124; refine (tz_16 _ (HB.out.up uq)).mono ?_; rintro e w2 ⟨rfl, rfl⟩))
  refine wp_loop_rounds 3 ?_
  rw [rounds_succ]
  go_wp2_with (fail)
  rw [rounds_succ]
  go_wp2_with (fail)
  rw [conv2 49 101 _ w.heap.size 63 2 (by rw [cell_of (alloc_get w _) 63, zero160_eq]; rfl) (by rw [cell_of (alloc_get w _) 64, zero160_eq]; rfl)]
  go_wp2_with (fail)
  exact bodyPost_ret (v := .tuple #[.slice none 0 0, .string ⟨#[49, 101]⟩]) (by simp [results, Tryz.results110, go_sem]) rfl ⟨rfl, uq⟩
theorem p_iint_30 (w : World) (hb : Bru w) : Calls Tryz.prog 99 #[.int .i64 30, .int .i64 16] w fun e w' => e = .returned (.string ⟨#[49, 101]⟩) ∧ Up w w' := by
  have HB := Lib.hid hb
  clear hb
  go_enter Tryz.func99, Tryz.ntmps99
  go_wp2_with (first | (go_at_call 110; refine (p_bits_30 _ HB.out).mono ?_; rintro e w2 ⟨rfl, hu2⟩))
  go_ret
  exact ⟨rfl, uq⟩
theorem p_int_30 (w : World) (hb : Bru w) : Calls Tryz.prog 91 #[.int .i64 30, .int .i64 16] w fun e w' => e = .returned (.string ⟨#[49, 101]⟩) ∧ Up w w' := by
  have HB := Lib.hid hb
  clear hb
  go_enter Tryz.func91, Tryz.ntmps91
  go_wp2_with (first | (go_at_call 99; refine (p_iint_30 _ HB.out).mono ?_; rintro e w2 ⟨rfl, hu2⟩))
  go_ret
  exact ⟨rfl, uq⟩

set_option maxRecDepth 100000 in
theorem p_bits_31 (w : World) (hb : Bru w) : Calls Tryz.prog 110 #[.slice none 0 0, .int .u64 31, .int .i64 16, .bool false, .bool false] w fun e w' => e = .returned (.tuple #[.slice none 0 0, .string ⟨#[49, 102]⟩]) ∧ Up w w' := by
  have HB := Lib.hid hb
  clear hb
  have z0 := zero160 w 64 (by omega)
  have z1 := zero160 w 63 (by omega)
  go_enter Tryz.func110, Tryz.ntmps110
  go_wp2_with (first | (go_at_call 123; refine (pow2_16 _).mono ?_; rintro e w2 ⟨rfl, rfl⟩) | (go_at_call 124; refine (tz_16 _ (HB.out.up uq)).mono ?_; rintro e w2 ⟨rfl, rfl⟩))
  refine wp_loop_rounds 3 ?_
  rw [rounds_succ]
  go_wp2_with (fail)
  rw [rounds_succ]
  go_wp2_with (fail)
  rw [conv2 49 102 _ w.heap.size 63 2 (by rw [cell_of (alloc_get w _) 63, zero160_eq]; rfl) (by rw [cell_of (alloc_get w _) 64, zero160_eq]; rfl)]
  go_wp2_with (fail)
  exact bodyPost_ret (v := .tuple #[.slice none 0 0, .string ⟨#[49, 102]⟩]) (by simp [results, Tryz.results110, go_sem]) rfl ⟨rfl, uq⟩
theorem p_iint_31 (w : World) (hb : Bru w) : Calls Tryz.prog 99 #[.int .i64 31, .int .i64 16] w fun e w' => e = .returned (.string ⟨#[49, 102]⟩) ∧ Up w w' := by
  have HB := Lib.hid hb
  clear hb
  go_enter Tryz.func99, Tryz.ntmps99
  go_wp2_with (first | (go_at_call 110; refine (p_bits_31 _ HB.out).mono ?_; rintro e w2 ⟨rfl, hu2⟩))
  go_ret
  exact ⟨rfl, uq⟩
theorem p_int_31 (w : World) (hb : Bru w) : Calls Tryz.prog 91 #[.int .i64 31, .int .i64 16] w fun e w' => e = .returned (.string ⟨#[49, 102]⟩) ∧ Up w w' := by
  have HB := Lib.hid hb
  clear hb
  go_enter Tryz.func91, Tryz.ntmps91
  go_wp2_with (first | (go_at_call 99; refine (p_iint_31 _ HB.out).mono ?_; rintro e w2 ⟨rfl, hu2⟩))
  go_ret
  exact ⟨rfl, uq⟩

set_option maxRecDepth 100000 in
theorem p_bits_127 (w : World) (hb : Bru w) : Calls Tryz.prog 110 #[.slice none 0 0, .int .u64 127, .int .i64 16, .bool false, .bool false] w fun e w' => e = .returned (.tuple #[.slice none 0 0, .string ⟨#[55, 102]⟩]) ∧ Up w w' := by
  have HB := Lib.hid hb
  clear hb
  have z0 := zero160 w 64 (by omega)
  have z1 := zero160 w 63 (by omega)
  go_enter Tryz.func110, Tryz.ntmps110
  go_wp2_with (first | (go_at_call 123; refine (pow2_16 _).mono ?_; rintro e w2 ⟨rfl, rfl⟩) | (go_at_call 124; refine (tz_16 _ (HB.out.up uq)).mono ?_; rintro e w2 ⟨rfl, rfl⟩))
  refine wp_loop_rounds 3 ?_
  rw [rounds_succ]
  go_wp2_with (fail)
  rw [rounds_succ]
  go_wp2_with (fail)
  rw [conv2 55 102 _ w.heap.size 63 2 (by rw [cell_of (alloc_get w _) 63, zero160_eq]; rfl) (by rw [cell_of (alloc_get w _) 64, zero160_eq]; rfl)]
  go_wp2_with (fail)
  exact bodyPost_ret (v := .tuple #[.slice none 0 0, .string ⟨#[55, 102]⟩]) (by simp [results, Tryz.results110, go_sem]) rfl ⟨rfl, uq⟩
theorem p_iint_127 (w : World) (hb : Bru w) : Calls Tryz.prog 99 #[.int .i64 127, .int .i64 16] w fun e w' => e = .returned (.string ⟨#[55, 102]⟩) ∧ Up w w' := by
  have HB := Lib.hid hb
  clear hb
  go_enter Tryz.func99, Tryz.ntmps99
  go_wp2_with (first | (go_at_call 110; refine (p_bits_127 _ HB.out).mono ?_; rintro e w2 ⟨rfl, hu2⟩))
  go_ret
  exact ⟨rfl, uq⟩
theorem p_int_127 (w : World) (hb : Bru w) : Calls Tryz.prog 91 #[.int .i64 127, .int .i64 16] w fun e w' => e = .returned (.string ⟨#[55, 102]⟩) ∧ Up w w' := by
  have HB := Lib.hid hb
  clear hb
  go_enter Tryz.func91, Tryz.ntmps91
  go_wp2_with (first | (go_at_call 99; refine (p_iint_127 _ HB.out).mono ?_; rintro e w2 ⟨rfl, hu2⟩))
  go_ret
  exact ⟨rfl, uq⟩

theorem p_int_any (u : Nat) (hu : u < 32 ∨ u = 127) (w : World) (hb : Bru w) : Calls Tryz.prog 91 #[.int .i64 u, .int .i64 16] w fun e w' => e = .returned (.string (hexS u)) ∧ Up w w' := by
  rcases hu with hu | rfl
  · match u, hu with
    | 0, _ => exact p_int_0 w hb
    | 1, _ => exact p_int_1 w hb
    | 2, _ => exact p_int_2 w hb
    | 3, _ => exact p_int_3 w hb
    | 4, _ => exact p_int_4 w hb
    | 5, _ => exact p_int_5 w hb
    | 6, _ => exact p_int_6 w hb
    | 7, _ => exact p_int_7 w hb
    | 8, _ => exact p_int_8 w hb
    | 9, _ => exact p_int_9 w hb
    | 10, _ => exact p_int_10 w hb
    | 11, _ => exact p_int_11 w hb
    | 12, _ => exact p_int_12 w hb
    | 13, _ => exact p_int_13 w hb
    | 14, _ => exact p_int_14 w hb
    | 15, _ => exact p_int_15 w hb
    | 16, _ => exact p_int_16 w hb
    | 17, _ => exact p_int_17 w hb
    | 18, _ => exact p_int_18 w hb
    | 19, _ => exact p_int_19 w hb
    | 20, _ => exact p_int_20 w hb
    | 21, _ => exact p_int_21 w hb
    | 22, _ => exact p_int_22 w hb
    | 23, _ => exact p_int_23 w hb
    | 24, _ => exact p_int_24 w hb
    | 25, _ => exact p_int_25 w hb
    | 26, _ => exact p_int_26 w hb
    | 27, _ => exact p_int_27 w hb
    | 28, _ => exact p_int_28 w hb
    | 29, _ => exact p_int_29 w hb
    | 30, _ => exact p_int_30 w hb
    | 31, _ => exact p_int_31 w hb
    | u + 32, h => exact absurd h (by omega)
  · exact p_int_127 w hb

end Go.Proofs.YtbghpkoimbmijaaGreatDoor
