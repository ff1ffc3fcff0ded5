import Derived.Test.YtmbipadiaggolaaGreatDoorHeapM
/- Walks: the small functions of the program's heap. -/
namespace Go.Proofs.YtmbipadiaggolaaGreatDoor
open Go.RowKit

theorem ta_aa (v : Value) (w : World) : (Instr.typeAssert (.iface 86 v) 79 86 true).run Tryz.prog w = .ok (.tuple #[v, .bool true]) w := by kernel_rfl
theorem ta_ao (v : Value) (w : World) : (Instr.typeAssert (.iface 96 v) 79 86 true).run Tryz.prog w = .ok (.tuple #[.pointer none, .bool false]) w := by kernel_rfl
theorem ta_an (w : World) : (Instr.typeAssert .nilIface 79 86 true).run Tryz.prog w = .ok (.tuple #[.pointer none, .bool false]) w := by kernel_rfl
theorem ta_oa (v : Value) (w : World) : (Instr.typeAssert (.iface 86 v) 79 96 true).run Tryz.prog w = .ok (.tuple #[.agg #[.pointer none, .int .i64 0, .nilIface], .bool false]) w := by kernel_rfl
theorem ta_oo (v : Value) (w : World) : (Instr.typeAssert (.iface 96 v) 79 96 true).run Tryz.prog w = .ok (.tuple #[v, .bool true]) w := by kernel_rfl
theorem ta_on (w : World) : (Instr.typeAssert .nilIface 79 96 true).run Tryz.prog w = .ok (.tuple #[.agg #[.pointer none, .int .i64 0, .nilIface], .bool false]) w := by kernel_rfl
theorem m_kind_a (n : Nat) (v : Value) (w : World) : (method (n + 1) 86 v "shuck/heap.kind").run Tryz.prog w = .ok (120, v) w := by kernel_rfl
theorem m_kind_o (n : Nat) (v : Value) (w : World) : (method (n + 1) 96 v "shuck/heap.kind").run Tryz.prog w = .ok (123, v) w := by kernel_rfl
theorem m_behind_a (n : Nat) (v : Value) (w : World) : (method (n + 1) 86 v "shuck/heap.behind").run Tryz.prog w = .ok (119, v) w := by kernel_rfl
theorem m_behind_o (n : Nat) (v : Value) (w : World) : (method (n + 1) 96 v "shuck/heap.behind").run Tryz.prog w = .ok (122, v) w := by kernel_rfl
theorem m_own_a (n : Nat) (v : Value) (w : World) : (method (n + 1) 86 v "shuck/heap.own").run Tryz.prog w = .ok (121, v) w := by kernel_rfl
theorem m_own_o (n : Nat) (a b c : Value) (w : World) : (method (n + 1) 96 (.agg #[a, b, c]) "shuck/heap.own").run Tryz.prog w = .ok (44, a) w := by kernel_rfl
attribute [local go_sem] ta_aa ta_ao ta_an ta_oa ta_oo ta_on m_kind_a m_kind_o m_behind_a m_behind_o m_own_a m_own_o

theorem number_any (n : Int) (w : World) :
    Calls Tryz.prog 47 #[.int .i64 n] w fun e w' => e = .returned (.agg #[.int .i64 3, .int .i64 n, .string ⟨#[]⟩]) ∧ Up w w' := by
  go_enter Tryz.func47, Tryz.ntmps47
  go_wp2
  exact bodyPost_ret (v := .agg #[.int .i64 3, .int .i64 n, .string ⟨#[]⟩]) (by simp [results, Tryz.results47, go_sem]) rfl ⟨rfl, (by repeat (first | with_reducible exact Up.refl _ | with_reducible assumption | with_reducible refine Up.drewN ?_ _ | with_reducible refine Up.drew ?_ | with_reducible refine Up.alloc ?_ _ | with_reducible refine Up.setCell ?_ (by first | omega | (simp; done) | (simp; omega)) _ | with_reducible refine Up.trans ?_ (by assumption)))⟩

theorem boolean_zero (w : World) : Calls Tryz.prog 55 #[.int .i64 0] w fun e w' => e = .returned (.int .i64 0) ∧ w = w' := by
  go_enter Tryz.func55, Tryz.ntmps55
  go_wp2
  go_ret
  exact ⟨rfl, rfl⟩
theorem boolean_else (n : Int) (hn : (n == 0) = false) (w : World) : Calls Tryz.prog 55 #[.int .i64 n] w fun e w' => e = .returned (.int .i64 1) ∧ w = w' := by
  go_enter Tryz.func55, Tryz.ntmps55
  go_wp2
  go_ret
  exact ⟨rfl, rfl⟩

theorem len_le {w : World} {hb : Nat} {H : HM} {tvs : List Value} {own : Nat → Option (Nat × Nat)} (h : Rep w hb H tvs own) : tvs.length ≤ 1048576 := by
  have h1 := h.few; have h5 := sizes_ge H.things; have h2 := h.roomU; have h3 := h.roomM; have h4 := h.len; omega

/-- the slice of things and what its cells are -/
theorem Rep.slice {w : World} {hb : Nat} {H : HM} {tvs : List Value} {own : Nat → Option (Nat × Nat)} (h : Rep w hb H tvs own) :
    ∃ sa cap, w.cell? ⟨hb, 2, none⟩ = some (.slice sa tvs.length cap) ∧ ∀ n tv, tvs[n]? = some tv → ∃ sb, sa = some ⟨sb, 0, none⟩ ∧ sb < w.heap.size ∧ w.cell? ⟨sb, n, none⟩ = some tv := by
  obtain ⟨sv, h1, ⟨hl, h2⟩, h3⟩ := h.head
  have hc := cell_of h1 2
  rcases h2 with ⟨rfl, h2⟩ | ⟨g, cap, cur, rfl, _, hg, _, _, _, hcur⟩
  · rw [h2]
    have : tvs = [] := List.length_eq_zero_iff.1 h2
    exact ⟨none, 0, hc, fun n tv hn => by rw [this] at hn; simp at hn⟩
  · refine ⟨_, cap, hc, fun n tv hn => ⟨g, rfl, lt_of_heap hg, ?_⟩⟩
    rw [cell_of hg]
    have hlt : n < tvs.length := by
      rcases Nat.lt_or_ge n tvs.length with h | h
      · exact h
      · simp [List.getElem?_eq_none h] at hn
    rw [← hcur] at hn
    rw [List.getElem?_take] at hn
    split at hn
    · rw [← hn]; simp
    · cases hn

set_option maxHeartbeats 400000 in
theorem thing_nil (k n : Int) (s : ByteArray) (w : World) :
    Calls Tryz.prog 40 #[.pointer none, .agg #[.int .i64 k, .int .i64 n, .string s]] w fun e w' => e = .returned .nilIface ∧ Up w w' := by
  go_enter Tryz.func40, Tryz.ntmps40
  go_wp2
  go_quiet (fail)
  go_wp2
  go_ret
  exact ⟨rfl, (by repeat (first | with_reducible exact Up.refl _ | with_reducible assumption | with_reducible refine Up.drewN ?_ _ | with_reducible refine Up.drew ?_ | with_reducible refine Up.alloc ?_ _ | with_reducible refine Up.setCell ?_ (by first | omega | (simp; done) | (simp; omega)) _ | with_reducible refine Up.trans ?_ (by assumption)))⟩

set_option maxHeartbeats 400000 in
theorem thing_kind (b : Nat) (k n : Int) (s : ByteArray) (w : World) (hk : (k != 5) = true) :
    Calls Tryz.prog 40 #[.pointer (some ⟨b, 0, none⟩), .agg #[.int .i64 k, .int .i64 n, .string s]] w fun e w' => e = .returned .nilIface ∧ Up w w' := by
  go_enter Tryz.func40, Tryz.ntmps40
  go_wp2
  go_quiet (fail)
  go_wp2
  go_ret
  exact ⟨rfl, (by repeat (first | with_reducible exact Up.refl _ | with_reducible assumption | with_reducible refine Up.drewN ?_ _ | with_reducible refine Up.drew ?_ | with_reducible refine Up.alloc ?_ _ | with_reducible refine Up.setCell ?_ (by first | omega | (simp; done) | (simp; omega)) _ | with_reducible refine Up.trans ?_ (by assumption)))⟩

set_option maxHeartbeats 400000 in
theorem thing_neg (b : Nat) (n : Int) (s : ByteArray) (w : World) (hn : n < 0) :
    Calls Tryz.prog 40 #[.pointer (some ⟨b, 0, none⟩), .agg #[.int .i64 5, .int .i64 n, .string s]] w fun e w' => e = .returned .nilIface ∧ Up w w' := by
  go_enter Tryz.func40, Tryz.ntmps40
  go_wp2
  go_quiet (fail)
  go_wp2
  go_ret
  exact ⟨rfl, (by repeat (first | with_reducible exact Up.refl _ | with_reducible assumption | with_reducible refine Up.drewN ?_ _ | with_reducible refine Up.drew ?_ | with_reducible refine Up.alloc ?_ _ | with_reducible refine Up.setCell ?_ (by first | omega | (simp; done) | (simp; omega)) _ | with_reducible refine Up.trans ?_ (by assumption)))⟩

set_option maxHeartbeats 400000 in
theorem thing_past (b : Nat) (n : Int) (s : ByteArray) (w : World) (hb : b < w.heap.size) (sa : Option Addr) (len cap : Nat) (hc : w.cell? ⟨b, 2, none⟩ = some (.slice sa len cap)) (_hl : len ≤ 1048576)
    (hn : 0 ≤ n) (hn2 : (len : Int) ≤ n) :
    Calls Tryz.prog 40 #[.pointer (some ⟨b, 0, none⟩), .agg #[.int .i64 5, .int .i64 n, .string s]] w fun e w' => e = .returned .nilIface ∧ Up w w' := by
  go_enter Tryz.func40, Tryz.ntmps40
  go_wp2
  go_quiet (fail)
  go_wp2
  go_ret
  exact ⟨rfl, (by repeat (first | with_reducible exact Up.refl _ | with_reducible assumption | with_reducible refine Up.drewN ?_ _ | with_reducible refine Up.drew ?_ | with_reducible refine Up.alloc ?_ _ | with_reducible refine Up.setCell ?_ (by first | omega | (simp; done) | (simp; omega)) _ | with_reducible refine Up.trans ?_ (by assumption)))⟩

set_option maxHeartbeats 400000 in
theorem thing_there (b : Nat) (n : Nat) (s : ByteArray) (w : World) (hb : b < w.heap.size) (sb : Nat) (len cap : Nat) (hc : w.cell? ⟨b, 2, none⟩ = some (.slice (some ⟨sb, 0, none⟩) len cap)) (_hl : len ≤ 1048576)
    (hn2 : (n : Int) < len) (v : Value) (hv : w.cell? ⟨sb, n, none⟩ = some v) (hsb : sb < w.heap.size) :
    Calls Tryz.prog 40 #[.pointer (some ⟨b, 0, none⟩), .agg #[.int .i64 5, .int .i64 n, .string s]] w fun e w' => e = .returned v ∧ Up w w' := by
  go_enter Tryz.func40, Tryz.ntmps40
  go_wp2
  go_quiet (fail)
  go_wp2
  go_quiet (fail)
  go_wp2
  go_ret
  exact ⟨rfl, (by repeat (first | with_reducible exact Up.refl _ | with_reducible assumption | with_reducible refine Up.drewN ?_ _ | with_reducible refine Up.drew ?_ | with_reducible refine Up.alloc ?_ _ | with_reducible refine Up.setCell ?_ (by first | omega | (simp; done) | (simp; omega)) _ | with_reducible refine Up.trans ?_ (by assumption)))⟩

theorem thing_some (hv : Value) (H : HM) (tvs : List Value) (own : Nat → Option (Nat × Nat)) (k n : Int) (s : ByteArray) (tv : Value) (w : World) (h : HRep w hv H tvs own) (hk : k = 5) (h0 : 0 ≤ n) (hn : tvs[n.toNat]? = some tv) :
    Calls Tryz.prog 40 #[hv, .agg #[.int .i64 k, .int .i64 n, .string s]] w fun e w' => e = .returned tv ∧ Up w w' := by
  subst hk
  obtain ⟨k, rfl⟩ := Int.eq_ofNat_of_zero_le h0
  rw [Int.toNat_natCast] at hn
  cases h with
  | nil => simp at hn
  | some hb _ _ _ h =>
    obtain ⟨sa, cap, hc, hx⟩ := h.slice
    obtain ⟨sb, rfl, hsb, hcell⟩ := hx _ _ hn
    have hlt : k < tvs.length := by
      rcases Nat.lt_or_ge k tvs.length with h | h
      · exact h
      · simp [List.getElem?_eq_none h] at hn
    exact thing_there hb k s w (h.lt _ _ h.mine) sb _ cap hc (len_le h) (by omega) tv hcell hsb

theorem thing_none (hv : Value) (H : HM) (tvs : List Value) (own : Nat → Option (Nat × Nat)) (k n : Int) (s : ByteArray) (w : World) (h : HRep w hv H tvs own) (hn : k = 5 → H.there n = false) :
    Calls Tryz.prog 40 #[hv, .agg #[.int .i64 k, .int .i64 n, .string s]] w fun e w' => e = .returned .nilIface ∧ Up w w' := by
  cases h with
  | nil => exact thing_nil k n s w
  | some hb _ _ _ h =>
    by_cases hk : k = 5
    · subst hk
      by_cases h0 : n < 0
      · exact thing_neg hb n s w h0
      · obtain ⟨sa, cap, hc, hx⟩ := h.slice
        have hl := h.len
        have := hn rfl
        simp [HM.there] at this
        exact thing_past hb n s w (h.lt _ _ h.mine) sa _ cap hc (len_le h) (by omega) (by rw [hl]; omega)
    · exact thing_kind hb k n s w (by simpa using hk)

theorem kind_o (a p : Value) (k : Int) (w : World) : Calls Tryz.prog 123 #[.agg #[a, .int .i64 k, p]] w fun e w' => e = .returned (.int .i64 k) ∧ Up w w' := by
  go_enter Tryz.func123, Tryz.ntmps123
  go_wp2
  go_ret
  exact ⟨rfl, (by repeat (first | with_reducible exact Up.refl _ | with_reducible assumption | with_reducible refine Up.drewN ?_ _ | with_reducible refine Up.drew ?_ | with_reducible refine Up.alloc ?_ _ | with_reducible refine Up.setCell ?_ (by first | omega | (simp; done) | (simp; omega)) _ | with_reducible refine Up.trans ?_ (by assumption)))⟩
theorem kind_a (a : Value) (w : World) : Calls Tryz.prog 120 #[a] w fun e w' => e = .returned (.int .i64 2) ∧ w = w' := by
  go_enter Tryz.func120, Tryz.ntmps120
  go_wp2
  go_ret
  exact ⟨rfl, rfl⟩
theorem behind_o (a p : Value) (k : Int) (w : World) : Calls Tryz.prog 122 #[.agg #[a, .int .i64 k, p]] w fun e w' => e = .returned p ∧ Up w w' := by
  go_enter Tryz.func122, Tryz.ntmps122
  go_wp2
  go_ret
  exact ⟨rfl, (by repeat (first | with_reducible exact Up.refl _ | with_reducible assumption | with_reducible refine Up.drewN ?_ _ | with_reducible refine Up.drew ?_ | with_reducible refine Up.alloc ?_ _ | with_reducible refine Up.setCell ?_ (by first | omega | (simp; done) | (simp; omega)) _ | with_reducible refine Up.trans ?_ (by assumption)))⟩
theorem behind_a (a : Value) (w : World) : Calls Tryz.prog 119 #[a] w fun e w' => e = .returned .nilIface ∧ Up w w' := by
  go_enter Tryz.func119, Tryz.ntmps119
  go_wp2
  go_ret
  exact ⟨rfl, (by repeat (first | with_reducible exact Up.refl _ | with_reducible assumption | with_reducible refine Up.drewN ?_ _ | with_reducible refine Up.drew ?_ | with_reducible refine Up.alloc ?_ _ | with_reducible refine Up.setCell ?_ (by first | omega | (simp; done) | (simp; omega)) _ | with_reducible refine Up.trans ?_ (by assumption)))⟩

end Go.Proofs.YtmbipadiaggolaaGreatDoor
