import Derived.Test.YtbghpkoimbmijaaGreatDoorM24
import Derived.Test.YtbghpkoimbmijaaGreatDoorM21
/- YtbghpkoimbmijaaGreatDoorM25: lemmas of the proof, in order: YH, Y11, Y12, Y13. -/
/- Walks: whether a type may be: what is looked at (printed by gen_may.py). -/
namespace Go.Proofs.YtbghpkoimbmijaaGreatDoor
open Go.RowKit
set_option linter.unusedSimpArgs false
set_option linter.unusedVariables false

/-- a type as it is given: api.Type -/
abbrev typV (k n : Int) (nm : ByteArray) (ids nv mv : Value) : Value := .agg #[.int .i64 k, .int .i64 n, .string nm, ids, nv, mv]
def MayR (t : Ty) (w : World) (e : Ending) (w' : World) : Prop := (∃ b, e = .returned (.bool b) ∧ (b = true → t.Valid)) ∧ Up w w'
/-- what may looks at -/
structure MayH (N M : Nat → Prop) (B : Nat) (nm : ByteArray) (nv mv pv : Value) (qs : List Nat) (ps : List Ty) (ns : List ByteArray) (ms : List Bool) (m : Int) (w : World) : Prop where
  row : RowOf TpT (fun _ => True) w pv (qs.map ptrV)
  len : qs.length = ps.length
  tys : ∀ (j q : Nat) (p : Ty), qs[j]? = some q → ps[j]? = some p → TyAt N B w q p
  val : ∀ p ∈ ps, p.Valid
  names : RowV M w nv (ns.map .string)
  marks : RowV M w mv (ms.map .bool)
  small : ∀ s ∈ ns, s.size ≤ 1000000000
  nm : nm.size ≤ 1000000000
  max : w.cell? ⟨0, 0, none⟩ = some (.int .i64 m)
theorem RowOf.up {T : TypeId} {N : Nat → Prop} {w w' : World} {v : Value} {us : List Value} (h : RowOf T N w v us) (k : Up w w') : RowOf T N w' v us := h.keep fun _ _ _ q1 q2 => ⟨q1, k.get q2⟩
theorem RowV.up {N : Nat → Prop} {w w' : World} {v : Value} {us : List Value} (h : RowV N w v us) (k : Up w w') : RowV N w' v us := let ⟨T, h⟩ := h; ⟨T, h.up k⟩
section
variable {N M : Nat → Prop} {B : Nat} {nm : ByteArray} {nv mv pv : Value} {qs : List Nat} {ps : List Ty} {ns : List ByteArray} {ms : List Bool} {m : Int} {w w' : World}
theorem MayH.up (h : MayH N M B nm nv mv pv qs ps ns ms m w) (k : Up w w') : MayH N M B nm nv mv pv qs ps ns ms m w' :=
  ⟨h.row.up k, h.len, fun j q p h1 h2 => (h.tys j q p h1 h2).up k, h.val, h.names.up k, h.marks.up k, h.small, h.nm, (k.cells _ _ (cell_lt5 h.max)).trans h.max⟩
theorem MayH.good (h : MayH N M B nm nv mv pv qs ps ns ms m w) (W : World) (_ : Up w W) :
    Calls Tryz.prog 41 #[.string nm] W fun e w' => (∃ b, e = .returned (.bool b) ∧ (b = true → GoodS nm)) ∧ Up W w' := good_any nm h.nm W
theorem MayH.name (h : MayH N M B nm nv mv pv qs ps ns ms m w) (W : World) (hu : Up w W) :
    Calls Tryz.prog 37 #[.string nm] W fun e w' => (∃ b, e = .returned (.bool b) ∧ (b = true → NameOk nm)) ∧ Up W w' := Name_any nm h.nm m W (h.up hu).max
theorem MayH.named (h : MayH N M B nm nv mv pv qs ps ns ms m w) (W : World) (hu : Up w W) :
    Calls Tryz.prog 42 #[nv] W fun e w' => (∃ b, e = .returned (.bool b) ∧ (b = true → (∀ s ∈ ns, NameOk s) ∧ Rising ns)) ∧ Up W w' := named_any M nv ns W (h.up hu).names h.small m (h.up hu).max
theorem MayH.optional (h : MayH N M B nm nv mv pv qs ps ns ms m w) (W : World) (hu : Up w W) :
    Calls Tryz.prog 43 #[mv] W fun e w' => (∃ b, e = .returned (.bool b) ∧ (b = true → OptMarks ms)) ∧ Up W w' := optional_any M mv ms W (h.up hu).marks
theorem empty_text {s : ByteArray} (h : s.toList = []) : s = ⟨#[]⟩ := toList_inj (by rw [h]; simp [ByteArray.toList_eq])
theorem none_there (hN : (ns.length : Int) + ms.length = 0) : ns = [] ∧ ms = [] := ⟨List.length_eq_zero_iff.1 (by omega), List.length_eq_zero_iff.1 (by omega)⟩
theorem MayH.nil (h : MayH N M B nm nv mv pv qs ps ns ms m w) (hq : qs.length = 0) : ps = [] := List.length_eq_zero_iff.1 (by rw [← h.len]; exact hq)
theorem MayH.one (h : MayH N M B nm nv mv pv qs ps ns ms m w) (hq : qs.length = 1) : ∃ p, ps = [p] := by
  have := h.len
  exact List.length_eq_one_iff.1 (by omega)
theorem valid_num (h : MayH N M B nm nv mv pv qs ps ns ms m w) {n : Int} (hN : (ns.length : Int) + ms.length = 0) (hq : qs.length = 0) (ht : nm.toList = []) (h1 : -9007199254740991 ≤ n) (h2 : n ≤ 9007199254740991) : (Ty.mk 11 n nm ps ns ms).Valid := by
  obtain ⟨rfl, rfl⟩ := none_there hN
  rw [h.nil hq, empty_text ht]
  exact .num h1 h2
theorem valid_str (h : MayH N M B nm nv mv pv qs ps ns ms m w) (hN : (ns.length : Int) + ms.length = 0) (hq : qs.length = 0) (hg : GoodS nm) : (Ty.mk 12 0 nm ps ns ms).Valid := by
  obtain ⟨rfl, rfl⟩ := none_there hN
  rw [h.nil hq]
  exact .str hg
theorem valid_arr (h : MayH N M B nm nv mv pv qs ps ns ms m w) (hN : (ns.length : Int) + ms.length = 0) (hq : qs.length = 1) (ht : nm.toList = []) : (Ty.mk 13 0 nm ps ns ms).Valid := by
  obtain ⟨rfl, rfl⟩ := none_there hN
  have hv := h.val
  obtain ⟨p, rfl⟩ := h.one hq
  rw [empty_text ht]
  exact .arr (hv p (by simp))
theorem zip3 : ∀ (ns : List ByteArray) (ms : List Bool) (ps : List Ty), ns.length = ps.length → ms.length = ps.length → ((ns.zip (ms.zip ps)).map (·.2.2) = ps ∧ (ns.zip (ms.zip ps)).map (·.1) = ns ∧ (ns.zip (ms.zip ps)).map (·.2.1) = ms)
  | [], [], [], _, _ => ⟨rfl, rfl, rfl⟩
  | a :: ns, b :: ms, p :: ps, h1, h2 => by
    obtain ⟨q1, q2, q3⟩ := zip3 ns ms ps (by simpa using h1) (by simpa using h2)
    simp [q1, q2, q3]
  | [], _ :: _, [], _, h | [], [], _ :: _, h, _ | _ :: _, [], [], h, _ | [], _ :: _, _ :: _, h, _ | _ :: _, [], _ :: _, _, h | _ :: _, _ :: _, [], h, _ => by simp at h
theorem valid_obj (h : MayH N M B nm nv mv pv qs ps ns ms m w) (ht : nm.toList = []) (h1 : ns.length = qs.length) (h2 : ms.length = qs.length) (hk : (∀ s ∈ ns, NameOk s) ∧ Rising ns) : (Ty.mk 14 0 nm ps ns ms).Valid := by
  rw [empty_text ht]
  obtain ⟨q1, q2, q3⟩ := zip3 ns ms ps (by rw [h1, h.len]) (by rw [h2, h.len])
  have hb := Ty.Valid.obj (ns.zip (ms.zip ps)) (fun x hx => hk.1 _ (by rw [← q2]; exact List.mem_map_of_mem hx)) (by rw [q2]; exact hk.2) (fun x hx => h.val _ (by
    have : x.2.2 ∈ (ns.zip (ms.zip ps)).map (·.2.2) := List.mem_map_of_mem (f := fun x => x.2.2) hx
    rwa [q1] at this))
  rwa [q1, q2, q3] at hb
theorem valid_fn (h : MayH N M B nm nv mv pv qs ps ns ms m w) (ht : nm.toList = []) (h0 : 0 < qs.length) (h1 : ns.length = 0) (h2 : (ms.length : Int) = (qs.length : Int) - 1) (hk : OptMarks ms) : (Ty.mk 15 0 nm ps ns ms).Valid := by
  rw [empty_text ht, List.length_eq_zero_iff.1 h1]
  have hl := h.len
  have hne : ps ≠ [] := fun e => by have q : qs.length = 0 := by { rw [hl, e]; rfl }; omega
  have hd : (ps.dropLast.zip ms).map (·.1) = ps.dropLast ∧ (ps.dropLast.zip ms).map (·.2) = ms := by
    have e : ps.dropLast.length = ms.length := by rw [List.length_dropLast, ← hl]; omega
    exact ⟨List.map_fst_zip (by omega), List.map_snd_zip (by omega)⟩
  have hb := Ty.Valid.fn (ps.dropLast.zip ms) (ps.getLast hne) (by rw [hd.2]; exact hk) (fun x hx => h.val _ (List.dropLast_subset _ (by
    have : x.1 ∈ (ps.dropLast.zip ms).map (·.1) := List.mem_map_of_mem (f := fun x => x.1) hx
    rwa [hd.1] at this))) (h.val _ (List.getLast_mem hne))
  rwa [hd.1, hd.2, List.dropLast_concat_getLast hne] at hb
theorem valid_named (h : MayH N M B nm nv mv pv qs ps ns ms m w) {k n : Int} (hk : k = 18 ∨ k = 19 ∨ k = 21 ∨ k = 22 ∨ k = 23) (hN : (ns.length : Int) + ms.length = 0) (hq : qs.length = 0) (h1 : 0 ≤ n) (h2 : n ≤ 9223372036854775807) (hg : NameOk nm) : (Ty.mk k n nm ps ns ms).Valid := by
  obtain ⟨rfl, rfl⟩ := none_there hN
  rw [h.nil hq]
  exact .named hk h1 h2 hg
theorem valid_ref (h : MayH N M B nm nv mv pv qs ps ns ms m w) {n : Int} (hN : (ns.length : Int) + ms.length = 0) (h1 : 0 ≤ n) (h2 : n ≤ 9223372036854775807) (hg : NameOk nm) : (Ty.mk 17 n nm ps ns ms).Valid := by
  obtain ⟨rfl, rfl⟩ := none_there hN
  exact .ref ps h1 h2 hg h.val
theorem valid_case (h : MayH N M B nm nv mv pv qs ps ns ms m w) {n : Int} {p : Ty} (hN : (ns.length : Int) + ms.length = 0) (hp : ps = [p]) (hk : p.kind = 19) (h1 : 0 ≤ n) (h2 : n ≤ 9223372036854775807) (hg : NameOk nm) : (Ty.mk 20 n nm ps ns ms).Valid := by
  obtain ⟨rfl, rfl⟩ := none_there hN
  have hv := h.val
  subst hp
  have hv := hv p (by simp)
  revert hk
  cases hv with
  | named hk' h1' h2' hn' =>
    intro hk
    simp only [Ty.kind] at hk
    subst hk
    exact .case h1 h2 hg h1' h2' hn'
  | basic => intro h; exact absurd h (by simp only [Ty.kind]; omega)
  | num => intro h; exact absurd h (by simp only [Ty.kind]; omega)
  | str => intro h; exact absurd h (by simp only [Ty.kind]; omega)
  | arr => intro h; exact absurd h (by simp only [Ty.kind]; omega)
  | obj => intro h; exact absurd h (by simp only [Ty.kind]; omega)
  | fn => intro h; exact absurd h (by simp only [Ty.kind]; omega)
  | un => intro h; exact absurd h (by simp only [Ty.kind]; omega)
  | ref => intro h; exact absurd h (by simp only [Ty.kind]; omega)
  | case => intro h; exact absurd h (by simp only [Ty.kind]; omega)
theorem valid_basic (h : MayH N M B nm nv mv pv qs ps ns ms m w) {k : Int} (h1 : 1 ≤ k) (h2 : k ≤ 10) (hN : (ns.length : Int) + ms.length = 0) (hq : qs.length = 0) (ht : nm.toList = []) : (Ty.mk k 0 nm ps ns ms).Valid := by
  obtain ⟨rfl, rfl⟩ := none_there hN
  rw [h.nil hq, empty_text ht]
  exact .basic h1 h2
end

theorem kind_cell {N : Nat → Prop} {B : Nat} {w : World} {b : Nat} {t : Ty} (h : TyAt N B w b t) : w.cell? ⟨b, 0, none⟩ = some (.int .i64 t.kind) := by
  cases h with
  | mk said pv nv mv qs hB hh => exact cell_of hh 0

end Go.Proofs.YtbghpkoimbmijaaGreatDoor

/- Walks: whether a type of kind 11 may be (printed by gen_may.py). -/
namespace Go.Proofs.YtbghpkoimbmijaaGreatDoor
open Go.RowKit
set_option linter.unusedSimpArgs false
set_option linter.unusedVariables false

set_option maxRecDepth 100000 in
set_option maxHeartbeats 4000000 in
theorem may_11_Tn (N M : Nat → Prop) (B : Nat) (nm : ByteArray) (ia na ma pa : Option Addr) (il ic ncap mcap pcap : Nat) (qs : List Nat) (ps : List Ty) (ns : List ByteArray) (ms : List Bool) (m : Int) (w : World) (h : MayH N M B nm (.slice na ns.length ncap) (.slice ma ms.length mcap) (.slice pa qs.length pcap) qs ps ns ms m w) (n : Int) (hn1 : -9223372036854775808 ≤ n) (hn2 : n ≤ 9223372036854775807) (hN : (ns.length : Int) + ms.length = 0)(hz : ¬ n = 0) :
    Calls Tryz.prog 24 #[typV 11 n nm (.slice ia il ic) (.slice na ns.length ncap) (.slice ma ms.length mcap), .slice pa qs.length pcap] w (MayR (Ty.mk 11 n nm ps ns ms) w) := by
  have HX : Hid _ := Lib.hid h
  have hnl : (ns.length : Int) ≤ 1000000000 ∧ (ms.length : Int) ≤ 1000000000 ∧ (qs.length : Int) ≤ 1000000000 := by
    obtain ⟨_, _, _, _, h1⟩ := h.names.form
    obtain ⟨_, _, _, _, h2⟩ := h.marks.form
    obtain ⟨_, _, _, _, h3⟩ := h.row.form
    rw [List.length_map] at h1 h2 h3
    omega
  clear h
  go_enter Tryz.func24, Tryz.ntmps24
  go_wp2_with fail
  go_quiet (fail)
  go_wp2_with fail
  all_goals (try go_quiet (fail))
  all_goals (try go_wp2_with fail)
  all_goals go_ret
  all_goals refine ⟨⟨_, rfl, fun e => ?_⟩, uq⟩
  all_goals first
    | (cases e; done)
    | ((try simp only [decide_eq_true_eq, Bool.and_eq_true, beq_iff_eq] at e); exact valid_num HX.out hN (by first | omega | (simp [*]; done)) (by first | assumption | (simp [*]; done)) (by omega) (by omega))

set_option maxRecDepth 100000 in
set_option maxHeartbeats 4000000 in
theorem may_11_T0t (N M : Nat → Prop) (B : Nat) (nm : ByteArray) (ia na ma pa : Option Addr) (il ic ncap mcap pcap : Nat) (qs : List Nat) (ps : List Ty) (ns : List ByteArray) (ms : List Bool) (m : Int) (w : World) (h : MayH N M B nm (.slice na ns.length ncap) (.slice ma ms.length mcap) (.slice pa qs.length pcap) qs ps ns ms m w) (hN : (ns.length : Int) + ms.length = 0)(ht : nm.toList = []) :
    Calls Tryz.prog 24 #[typV 11 0 nm (.slice ia il ic) (.slice na ns.length ncap) (.slice ma ms.length mcap), .slice pa qs.length pcap] w (MayR (Ty.mk 11 0 nm ps ns ms) w) := by
  have HX : Hid _ := Lib.hid h
  have hnl : (ns.length : Int) ≤ 1000000000 ∧ (ms.length : Int) ≤ 1000000000 ∧ (qs.length : Int) ≤ 1000000000 := by
    obtain ⟨_, _, _, _, h1⟩ := h.names.form
    obtain ⟨_, _, _, _, h2⟩ := h.marks.form
    obtain ⟨_, _, _, _, h3⟩ := h.row.form
    rw [List.length_map] at h1 h2 h3
    omega
  clear h
  go_enter Tryz.func24, Tryz.ntmps24
  go_wp2_with fail
  go_quiet (fail)
  go_wp2_with fail
  all_goals (try go_quiet (fail))
  all_goals (try go_wp2_with fail)
  all_goals go_ret
  all_goals refine ⟨⟨_, rfl, fun e => ?_⟩, uq⟩
  all_goals first
    | (cases e; done)
    | ((try simp only [decide_eq_true_eq, Bool.and_eq_true, beq_iff_eq] at e); exact valid_num HX.out hN (by first | omega | (simp [*]; done)) (by first | assumption | (simp [*]; done)) (by omega) (by omega))

set_option maxRecDepth 100000 in
set_option maxHeartbeats 4000000 in
theorem may_11_T0f (N M : Nat → Prop) (B : Nat) (nm : ByteArray) (ia na ma pa : Option Addr) (il ic ncap mcap pcap : Nat) (qs : List Nat) (ps : List Ty) (ns : List ByteArray) (ms : List Bool) (m : Int) (w : World) (h : MayH N M B nm (.slice na ns.length ncap) (.slice ma ms.length mcap) (.slice pa qs.length pcap) qs ps ns ms m w) (hN : (ns.length : Int) + ms.length = 0)(ht : ¬ nm.toList = []) :
    Calls Tryz.prog 24 #[typV 11 0 nm (.slice ia il ic) (.slice na ns.length ncap) (.slice ma ms.length mcap), .slice pa qs.length pcap] w (MayR (Ty.mk 11 0 nm ps ns ms) w) := by
  have HX : Hid _ := Lib.hid h
  have hnl : (ns.length : Int) ≤ 1000000000 ∧ (ms.length : Int) ≤ 1000000000 ∧ (qs.length : Int) ≤ 1000000000 := by
    obtain ⟨_, _, _, _, h1⟩ := h.names.form
    obtain ⟨_, _, _, _, h2⟩ := h.marks.form
    obtain ⟨_, _, _, _, h3⟩ := h.row.form
    rw [List.length_map] at h1 h2 h3
    omega
  clear h
  go_enter Tryz.func24, Tryz.ntmps24
  go_wp2_with fail
  go_quiet (fail)
  go_wp2_with fail
  all_goals (try go_quiet (fail))
  all_goals (try go_wp2_with fail)
  all_goals go_ret
  all_goals refine ⟨⟨_, rfl, fun e => ?_⟩, uq⟩
  all_goals first
    | (cases e; done)
    | ((try simp only [decide_eq_true_eq, Bool.and_eq_true, beq_iff_eq] at e); exact valid_num HX.out hN (by first | omega | (simp [*]; done)) (by first | assumption | (simp [*]; done)) (by omega) (by omega))

set_option maxRecDepth 100000 in
set_option maxHeartbeats 4000000 in
theorem may_11_Fn (N M : Nat → Prop) (B : Nat) (nm : ByteArray) (ia na ma pa : Option Addr) (il ic ncap mcap pcap : Nat) (qs : List Nat) (ps : List Ty) (ns : List ByteArray) (ms : List Bool) (m : Int) (w : World) (h : MayH N M B nm (.slice na ns.length ncap) (.slice ma ms.length mcap) (.slice pa qs.length pcap) qs ps ns ms m w) (n : Int) (hn1 : -9223372036854775808 ≤ n) (hn2 : n ≤ 9223372036854775807) (hN : ¬ (ns.length : Int) + ms.length = 0)(hz : ¬ n = 0) :
    Calls Tryz.prog 24 #[typV 11 n nm (.slice ia il ic) (.slice na ns.length ncap) (.slice ma ms.length mcap), .slice pa qs.length pcap] w (MayR (Ty.mk 11 n nm ps ns ms) w) := by
  have HX : Hid _ := Lib.hid h
  have hnl : (ns.length : Int) ≤ 1000000000 ∧ (ms.length : Int) ≤ 1000000000 ∧ (qs.length : Int) ≤ 1000000000 := by
    obtain ⟨_, _, _, _, h1⟩ := h.names.form
    obtain ⟨_, _, _, _, h2⟩ := h.marks.form
    obtain ⟨_, _, _, _, h3⟩ := h.row.form
    rw [List.length_map] at h1 h2 h3
    omega
  clear h
  go_enter Tryz.func24, Tryz.ntmps24
  go_wp2_with fail
  go_quiet (fail)
  go_wp2_with fail
  all_goals (try go_quiet (fail))
  all_goals (try go_wp2_with fail)
  all_goals go_ret
  all_goals refine ⟨⟨_, rfl, fun e => ?_⟩, uq⟩
  all_goals first
    | (cases e; done)
    | ((try simp only [decide_eq_true_eq, Bool.and_eq_true, beq_iff_eq] at e); exact valid_num HX.out hN (by first | omega | (simp [*]; done)) (by first | assumption | (simp [*]; done)) (by omega) (by omega))

set_option maxRecDepth 100000 in
set_option maxHeartbeats 4000000 in
theorem may_11_F0t (N M : Nat → Prop) (B : Nat) (nm : ByteArray) (ia na ma pa : Option Addr) (il ic ncap mcap pcap : Nat) (qs : List Nat) (ps : List Ty) (ns : List ByteArray) (ms : List Bool) (m : Int) (w : World) (h : MayH N M B nm (.slice na ns.length ncap) (.slice ma ms.length mcap) (.slice pa qs.length pcap) qs ps ns ms m w) (hN : ¬ (ns.length : Int) + ms.length = 0)(ht : nm.toList = []) :
    Calls Tryz.prog 24 #[typV 11 0 nm (.slice ia il ic) (.slice na ns.length ncap) (.slice ma ms.length mcap), .slice pa qs.length pcap] w (MayR (Ty.mk 11 0 nm ps ns ms) w) := by
  have HX : Hid _ := Lib.hid h
  have hnl : (ns.length : Int) ≤ 1000000000 ∧ (ms.length : Int) ≤ 1000000000 ∧ (qs.length : Int) ≤ 1000000000 := by
    obtain ⟨_, _, _, _, h1⟩ := h.names.form
    obtain ⟨_, _, _, _, h2⟩ := h.marks.form
    obtain ⟨_, _, _, _, h3⟩ := h.row.form
    rw [List.length_map] at h1 h2 h3
    omega
  clear h
  go_enter Tryz.func24, Tryz.ntmps24
  go_wp2_with fail
  go_quiet (fail)
  go_wp2_with fail
  all_goals (try go_quiet (fail))
  all_goals (try go_wp2_with fail)
  all_goals go_ret
  all_goals refine ⟨⟨_, rfl, fun e => ?_⟩, uq⟩
  all_goals first
    | (cases e; done)
    | ((try simp only [decide_eq_true_eq, Bool.and_eq_true, beq_iff_eq] at e); exact valid_num HX.out hN (by first | omega | (simp [*]; done)) (by first | assumption | (simp [*]; done)) (by omega) (by omega))

set_option maxRecDepth 100000 in
set_option maxHeartbeats 4000000 in
theorem may_11_F0f (N M : Nat → Prop) (B : Nat) (nm : ByteArray) (ia na ma pa : Option Addr) (il ic ncap mcap pcap : Nat) (qs : List Nat) (ps : List Ty) (ns : List ByteArray) (ms : List Bool) (m : Int) (w : World) (h : MayH N M B nm (.slice na ns.length ncap) (.slice ma ms.length mcap) (.slice pa qs.length pcap) qs ps ns ms m w) (hN : ¬ (ns.length : Int) + ms.length = 0)(ht : ¬ nm.toList = []) :
    Calls Tryz.prog 24 #[typV 11 0 nm (.slice ia il ic) (.slice na ns.length ncap) (.slice ma ms.length mcap), .slice pa qs.length pcap] w (MayR (Ty.mk 11 0 nm ps ns ms) w) := by
  have HX : Hid _ := Lib.hid h
  have hnl : (ns.length : Int) ≤ 1000000000 ∧ (ms.length : Int) ≤ 1000000000 ∧ (qs.length : Int) ≤ 1000000000 := by
    obtain ⟨_, _, _, _, h1⟩ := h.names.form
    obtain ⟨_, _, _, _, h2⟩ := h.marks.form
    obtain ⟨_, _, _, _, h3⟩ := h.row.form
    rw [List.length_map] at h1 h2 h3
    omega
  clear h
  go_enter Tryz.func24, Tryz.ntmps24
  go_wp2_with fail
  go_quiet (fail)
  go_wp2_with fail
  all_goals (try go_quiet (fail))
  all_goals (try go_wp2_with fail)
  all_goals go_ret
  all_goals refine ⟨⟨_, rfl, fun e => ?_⟩, uq⟩
  all_goals first
    | (cases e; done)
    | ((try simp only [decide_eq_true_eq, Bool.and_eq_true, beq_iff_eq] at e); exact valid_num HX.out hN (by first | omega | (simp [*]; done)) (by first | assumption | (simp [*]; done)) (by omega) (by omega))

end Go.Proofs.YtbghpkoimbmijaaGreatDoor

/- Walks: whether a type of kind 12 may be (printed by gen_may.py). -/
namespace Go.Proofs.YtbghpkoimbmijaaGreatDoor
open Go.RowKit
set_option linter.unusedSimpArgs false
set_option linter.unusedVariables false

set_option maxRecDepth 100000 in
set_option maxHeartbeats 4000000 in
theorem may_12_Tn (N M : Nat → Prop) (B : Nat) (nm : ByteArray) (ia na ma pa : Option Addr) (il ic ncap mcap pcap : Nat) (qs : List Nat) (ps : List Ty) (ns : List ByteArray) (ms : List Bool) (m : Int) (w : World) (h : MayH N M B nm (.slice na ns.length ncap) (.slice ma ms.length mcap) (.slice pa qs.length pcap) qs ps ns ms m w) (n : Int) (hn1 : -9223372036854775808 ≤ n) (hn2 : n ≤ 9223372036854775807) (hN : (ns.length : Int) + ms.length = 0)(hz : ¬ n = 0) :
    Calls Tryz.prog 24 #[typV 12 n nm (.slice ia il ic) (.slice na ns.length ncap) (.slice ma ms.length mcap), .slice pa qs.length pcap] w (MayR (Ty.mk 12 n nm ps ns ms) w) := by
  have HX : Hid _ := Lib.hid h
  have hnl : (ns.length : Int) ≤ 1000000000 ∧ (ms.length : Int) ≤ 1000000000 ∧ (qs.length : Int) ≤ 1000000000 := by
    obtain ⟨_, _, _, _, h1⟩ := h.names.form
    obtain ⟨_, _, _, _, h2⟩ := h.marks.form
    obtain ⟨_, _, _, _, h3⟩ := h.row.form
    rw [List.length_map] at h1 h2 h3
    omega
  clear h
  go_enter Tryz.func24, Tryz.ntmps24
  go_wp2_with fail
  go_quiet (fail)
  go_wp2_with (first | (go_at_call 41; refine (HX.out.good _ (show Up w _ from uq)).mono ?_; (rintro e w2 ⟨⟨(_ | _), rfl, hk⟩, hu2⟩ <;> (have HK := Lib.hid hk; clear hk))))
  all_goals (try go_quiet (fail))
  all_goals (try go_wp2_with (first | (go_at_call 41; refine (HX.out.good _ (show Up w _ from uq)).mono ?_; (rintro e w2 ⟨⟨(_ | _), rfl, hk⟩, hu2⟩ <;> (have HK := Lib.hid hk; clear hk)))))
  all_goals go_ret
  all_goals refine ⟨⟨_, rfl, fun e => ?_⟩, uq⟩
  all_goals first
    | (cases e; done)
    | ((try simp only [decide_eq_true_eq, Bool.and_eq_true, beq_iff_eq] at e); exact valid_str HX.out hN (by first | omega | (simp [*]; done)) (HK.out trivial))

set_option maxRecDepth 100000 in
set_option maxHeartbeats 4000000 in
theorem may_12_T0t (N M : Nat → Prop) (B : Nat) (nm : ByteArray) (ia na ma pa : Option Addr) (il ic ncap mcap pcap : Nat) (qs : List Nat) (ps : List Ty) (ns : List ByteArray) (ms : List Bool) (m : Int) (w : World) (h : MayH N M B nm (.slice na ns.length ncap) (.slice ma ms.length mcap) (.slice pa qs.length pcap) qs ps ns ms m w) (hN : (ns.length : Int) + ms.length = 0)(ht : nm.toList = []) :
    Calls Tryz.prog 24 #[typV 12 0 nm (.slice ia il ic) (.slice na ns.length ncap) (.slice ma ms.length mcap), .slice pa qs.length pcap] w (MayR (Ty.mk 12 0 nm ps ns ms) w) := by
  have HX : Hid _ := Lib.hid h
  have hnl : (ns.length : Int) ≤ 1000000000 ∧ (ms.length : Int) ≤ 1000000000 ∧ (qs.length : Int) ≤ 1000000000 := by
    obtain ⟨_, _, _, _, h1⟩ := h.names.form
    obtain ⟨_, _, _, _, h2⟩ := h.marks.form
    obtain ⟨_, _, _, _, h3⟩ := h.row.form
    rw [List.length_map] at h1 h2 h3
    omega
  clear h
  go_enter Tryz.func24, Tryz.ntmps24
  go_wp2_with fail
  go_quiet (fail)
  go_wp2_with (first | (go_at_call 41; refine (HX.out.good _ (show Up w _ from uq)).mono ?_; (rintro e w2 ⟨⟨(_ | _), rfl, hk⟩, hu2⟩ <;> (have HK := Lib.hid hk; clear hk))))
  all_goals (try go_quiet (fail))
  all_goals (try go_wp2_with (first | (go_at_call 41; refine (HX.out.good _ (show Up w _ from uq)).mono ?_; (rintro e w2 ⟨⟨(_ | _), rfl, hk⟩, hu2⟩ <;> (have HK := Lib.hid hk; clear hk)))))
  all_goals go_ret
  all_goals refine ⟨⟨_, rfl, fun e => ?_⟩, uq⟩
  all_goals first
    | (cases e; done)
    | ((try simp only [decide_eq_true_eq, Bool.and_eq_true, beq_iff_eq] at e); exact valid_str HX.out hN (by first | omega | (simp [*]; done)) (HK.out trivial))

set_option maxRecDepth 100000 in
set_option maxHeartbeats 4000000 in
theorem may_12_T0f (N M : Nat → Prop) (B : Nat) (nm : ByteArray) (ia na ma pa : Option Addr) (il ic ncap mcap pcap : Nat) (qs : List Nat) (ps : List Ty) (ns : List ByteArray) (ms : List Bool) (m : Int) (w : World) (h : MayH N M B nm (.slice na ns.length ncap) (.slice ma ms.length mcap) (.slice pa qs.length pcap) qs ps ns ms m w) (hN : (ns.length : Int) + ms.length = 0)(ht : ¬ nm.toList = []) :
    Calls Tryz.prog 24 #[typV 12 0 nm (.slice ia il ic) (.slice na ns.length ncap) (.slice ma ms.length mcap), .slice pa qs.length pcap] w (MayR (Ty.mk 12 0 nm ps ns ms) w) := by
  have HX : Hid _ := Lib.hid h
  have hnl : (ns.length : Int) ≤ 1000000000 ∧ (ms.length : Int) ≤ 1000000000 ∧ (qs.length : Int) ≤ 1000000000 := by
    obtain ⟨_, _, _, _, h1⟩ := h.names.form
    obtain ⟨_, _, _, _, h2⟩ := h.marks.form
    obtain ⟨_, _, _, _, h3⟩ := h.row.form
    rw [List.length_map] at h1 h2 h3
    omega
  clear h
  go_enter Tryz.func24, Tryz.ntmps24
  go_wp2_with fail
  go_quiet (fail)
  go_wp2_with (first | (go_at_call 41; refine (HX.out.good _ (show Up w _ from uq)).mono ?_; (rintro e w2 ⟨⟨(_ | _), rfl, hk⟩, hu2⟩ <;> (have HK := Lib.hid hk; clear hk))))
  all_goals (try go_quiet (fail))
  all_goals (try go_wp2_with (first | (go_at_call 41; refine (HX.out.good _ (show Up w _ from uq)).mono ?_; (rintro e w2 ⟨⟨(_ | _), rfl, hk⟩, hu2⟩ <;> (have HK := Lib.hid hk; clear hk)))))
  all_goals go_ret
  all_goals refine ⟨⟨_, rfl, fun e => ?_⟩, uq⟩
  all_goals first
    | (cases e; done)
    | ((try simp only [decide_eq_true_eq, Bool.and_eq_true, beq_iff_eq] at e); exact valid_str HX.out hN (by first | omega | (simp [*]; done)) (HK.out trivial))

set_option maxRecDepth 100000 in
set_option maxHeartbeats 4000000 in
theorem may_12_Fn (N M : Nat → Prop) (B : Nat) (nm : ByteArray) (ia na ma pa : Option Addr) (il ic ncap mcap pcap : Nat) (qs : List Nat) (ps : List Ty) (ns : List ByteArray) (ms : List Bool) (m : Int) (w : World) (h : MayH N M B nm (.slice na ns.length ncap) (.slice ma ms.length mcap) (.slice pa qs.length pcap) qs ps ns ms m w) (n : Int) (hn1 : -9223372036854775808 ≤ n) (hn2 : n ≤ 9223372036854775807) (hN : ¬ (ns.length : Int) + ms.length = 0)(hz : ¬ n = 0) :
    Calls Tryz.prog 24 #[typV 12 n nm (.slice ia il ic) (.slice na ns.length ncap) (.slice ma ms.length mcap), .slice pa qs.length pcap] w (MayR (Ty.mk 12 n nm ps ns ms) w) := by
  have HX : Hid _ := Lib.hid h
  have hnl : (ns.length : Int) ≤ 1000000000 ∧ (ms.length : Int) ≤ 1000000000 ∧ (qs.length : Int) ≤ 1000000000 := by
    obtain ⟨_, _, _, _, h1⟩ := h.names.form
    obtain ⟨_, _, _, _, h2⟩ := h.marks.form
    obtain ⟨_, _, _, _, h3⟩ := h.row.form
    rw [List.length_map] at h1 h2 h3
    omega
  clear h
  go_enter Tryz.func24, Tryz.ntmps24
  go_wp2_with fail
  go_quiet (fail)
  go_wp2_with (first | (go_at_call 41; refine (HX.out.good _ (show Up w _ from uq)).mono ?_; (rintro e w2 ⟨⟨(_ | _), rfl, hk⟩, hu2⟩ <;> (have HK := Lib.hid hk; clear hk))))
  all_goals (try go_quiet (fail))
  all_goals (try go_wp2_with (first | (go_at_call 41; refine (HX.out.good _ (show Up w _ from uq)).mono ?_; (rintro e w2 ⟨⟨(_ | _), rfl, hk⟩, hu2⟩ <;> (have HK := Lib.hid hk; clear hk)))))
  all_goals go_ret
  all_goals refine ⟨⟨_, rfl, fun e => ?_⟩, uq⟩
  all_goals first
    | (cases e; done)
    | ((try simp only [decide_eq_true_eq, Bool.and_eq_true, beq_iff_eq] at e); exact valid_str HX.out hN (by first | omega | (simp [*]; done)) (HK.out trivial))

set_option maxRecDepth 100000 in
set_option maxHeartbeats 4000000 in
theorem may_12_F0t (N M : Nat → Prop) (B : Nat) (nm : ByteArray) (ia na ma pa : Option Addr) (il ic ncap mcap pcap : Nat) (qs : List Nat) (ps : List Ty) (ns : List ByteArray) (ms : List Bool) (m : Int) (w : World) (h : MayH N M B nm (.slice na ns.length ncap) (.slice ma ms.length mcap) (.slice pa qs.length pcap) qs ps ns ms m w) (hN : ¬ (ns.length : Int) + ms.length = 0)(ht : nm.toList = []) :
    Calls Tryz.prog 24 #[typV 12 0 nm (.slice ia il ic) (.slice na ns.length ncap) (.slice ma ms.length mcap), .slice pa qs.length pcap] w (MayR (Ty.mk 12 0 nm ps ns ms) w) := by
  have HX : Hid _ := Lib.hid h
  have hnl : (ns.length : Int) ≤ 1000000000 ∧ (ms.length : Int) ≤ 1000000000 ∧ (qs.length : Int) ≤ 1000000000 := by
    obtain ⟨_, _, _, _, h1⟩ := h.names.form
    obtain ⟨_, _, _, _, h2⟩ := h.marks.form
    obtain ⟨_, _, _, _, h3⟩ := h.row.form
    rw [List.length_map] at h1 h2 h3
    omega
  clear h
  go_enter Tryz.func24, Tryz.ntmps24
  go_wp2_with fail
  go_quiet (fail)
  go_wp2_with (first | (go_at_call 41; refine (HX.out.good _ (show Up w _ from uq)).mono ?_; (rintro e w2 ⟨⟨(_ | _), rfl, hk⟩, hu2⟩ <;> (have HK := Lib.hid hk; clear hk))))
  all_goals (try go_quiet (fail))
  all_goals (try go_wp2_with (first | (go_at_call 41; refine (HX.out.good _ (show Up w _ from uq)).mono ?_; (rintro e w2 ⟨⟨(_ | _), rfl, hk⟩, hu2⟩ <;> (have HK := Lib.hid hk; clear hk)))))
  all_goals go_ret
  all_goals refine ⟨⟨_, rfl, fun e => ?_⟩, uq⟩
  all_goals first
    | (cases e; done)
    | ((try simp only [decide_eq_true_eq, Bool.and_eq_true, beq_iff_eq] at e); exact valid_str HX.out hN (by first | omega | (simp [*]; done)) (HK.out trivial))

set_option maxRecDepth 100000 in
set_option maxHeartbeats 4000000 in
theorem may_12_F0f (N M : Nat → Prop) (B : Nat) (nm : ByteArray) (ia na ma pa : Option Addr) (il ic ncap mcap pcap : Nat) (qs : List Nat) (ps : List Ty) (ns : List ByteArray) (ms : List Bool) (m : Int) (w : World) (h : MayH N M B nm (.slice na ns.length ncap) (.slice ma ms.length mcap) (.slice pa qs.length pcap) qs ps ns ms m w) (hN : ¬ (ns.length : Int) + ms.length = 0)(ht : ¬ nm.toList = []) :
    Calls Tryz.prog 24 #[typV 12 0 nm (.slice ia il ic) (.slice na ns.length ncap) (.slice ma ms.length mcap), .slice pa qs.length pcap] w (MayR (Ty.mk 12 0 nm ps ns ms) w) := by
  have HX : Hid _ := Lib.hid h
  have hnl : (ns.length : Int) ≤ 1000000000 ∧ (ms.length : Int) ≤ 1000000000 ∧ (qs.length : Int) ≤ 1000000000 := by
    obtain ⟨_, _, _, _, h1⟩ := h.names.form
    obtain ⟨_, _, _, _, h2⟩ := h.marks.form
    obtain ⟨_, _, _, _, h3⟩ := h.row.form
    rw [List.length_map] at h1 h2 h3
    omega
  clear h
  go_enter Tryz.func24, Tryz.ntmps24
  go_wp2_with fail
  go_quiet (fail)
  go_wp2_with (first | (go_at_call 41; refine (HX.out.good _ (show Up w _ from uq)).mono ?_; (rintro e w2 ⟨⟨(_ | _), rfl, hk⟩, hu2⟩ <;> (have HK := Lib.hid hk; clear hk))))
  all_goals (try go_quiet (fail))
  all_goals (try go_wp2_with (first | (go_at_call 41; refine (HX.out.good _ (show Up w _ from uq)).mono ?_; (rintro e w2 ⟨⟨(_ | _), rfl, hk⟩, hu2⟩ <;> (have HK := Lib.hid hk; clear hk)))))
  all_goals go_ret
  all_goals refine ⟨⟨_, rfl, fun e => ?_⟩, uq⟩
  all_goals first
    | (cases e; done)
    | ((try simp only [decide_eq_true_eq, Bool.and_eq_true, beq_iff_eq] at e); exact valid_str HX.out hN (by first | omega | (simp [*]; done)) (HK.out trivial))

end Go.Proofs.YtbghpkoimbmijaaGreatDoor

/- Walks: whether a type of kind 13 may be (printed by gen_may.py). -/
namespace Go.Proofs.YtbghpkoimbmijaaGreatDoor
open Go.RowKit
set_option linter.unusedSimpArgs false
set_option linter.unusedVariables false

set_option maxRecDepth 100000 in
set_option maxHeartbeats 4000000 in
theorem may_13_Tn (N M : Nat → Prop) (B : Nat) (nm : ByteArray) (ia na ma pa : Option Addr) (il ic ncap mcap pcap : Nat) (qs : List Nat) (ps : List Ty) (ns : List ByteArray) (ms : List Bool) (m : Int) (w : World) (h : MayH N M B nm (.slice na ns.length ncap) (.slice ma ms.length mcap) (.slice pa qs.length pcap) qs ps ns ms m w) (n : Int) (hn1 : -9223372036854775808 ≤ n) (hn2 : n ≤ 9223372036854775807) (hN : (ns.length : Int) + ms.length = 0)(hz : ¬ n = 0) :
    Calls Tryz.prog 24 #[typV 13 n nm (.slice ia il ic) (.slice na ns.length ncap) (.slice ma ms.length mcap), .slice pa qs.length pcap] w (MayR (Ty.mk 13 n nm ps ns ms) w) := by
  have HX : Hid _ := Lib.hid h
  have hnl : (ns.length : Int) ≤ 1000000000 ∧ (ms.length : Int) ≤ 1000000000 ∧ (qs.length : Int) ≤ 1000000000 := by
    obtain ⟨_, _, _, _, h1⟩ := h.names.form
    obtain ⟨_, _, _, _, h2⟩ := h.marks.form
    obtain ⟨_, _, _, _, h3⟩ := h.row.form
    rw [List.length_map] at h1 h2 h3
    omega
  clear h
  go_enter Tryz.func24, Tryz.ntmps24
  go_wp2_with fail
  go_quiet (fail)
  go_wp2_with fail
  all_goals (try go_quiet (fail))
  all_goals (try go_wp2_with fail)
  all_goals go_ret
  all_goals refine ⟨⟨_, rfl, fun e => ?_⟩, uq⟩
  all_goals first
    | (cases e; done)
    | ((try simp only [decide_eq_true_eq, Bool.and_eq_true, beq_iff_eq] at e); exact valid_arr HX.out hN (by first | omega | (simp [*]; done)) ht)

set_option maxRecDepth 100000 in
set_option maxHeartbeats 4000000 in
theorem may_13_T0t (N M : Nat → Prop) (B : Nat) (nm : ByteArray) (ia na ma pa : Option Addr) (il ic ncap mcap pcap : Nat) (qs : List Nat) (ps : List Ty) (ns : List ByteArray) (ms : List Bool) (m : Int) (w : World) (h : MayH N M B nm (.slice na ns.length ncap) (.slice ma ms.length mcap) (.slice pa qs.length pcap) qs ps ns ms m w) (hN : (ns.length : Int) + ms.length = 0)(ht : nm.toList = []) :
    Calls Tryz.prog 24 #[typV 13 0 nm (.slice ia il ic) (.slice na ns.length ncap) (.slice ma ms.length mcap), .slice pa qs.length pcap] w (MayR (Ty.mk 13 0 nm ps ns ms) w) := by
  have HX : Hid _ := Lib.hid h
  have hnl : (ns.length : Int) ≤ 1000000000 ∧ (ms.length : Int) ≤ 1000000000 ∧ (qs.length : Int) ≤ 1000000000 := by
    obtain ⟨_, _, _, _, h1⟩ := h.names.form
    obtain ⟨_, _, _, _, h2⟩ := h.marks.form
    obtain ⟨_, _, _, _, h3⟩ := h.row.form
    rw [List.length_map] at h1 h2 h3
    omega
  clear h
  go_enter Tryz.func24, Tryz.ntmps24
  go_wp2_with fail
  go_quiet (fail)
  go_wp2_with fail
  all_goals (try go_quiet (fail))
  all_goals (try go_wp2_with fail)
  all_goals go_ret
  all_goals refine ⟨⟨_, rfl, fun e => ?_⟩, uq⟩
  all_goals first
    | (cases e; done)
    | ((try simp only [decide_eq_true_eq, Bool.and_eq_true, beq_iff_eq] at e); exact valid_arr HX.out hN (by first | omega | (simp [*]; done)) ht)

set_option maxRecDepth 100000 in
set_option maxHeartbeats 4000000 in
theorem may_13_T0f (N M : Nat → Prop) (B : Nat) (nm : ByteArray) (ia na ma pa : Option Addr) (il ic ncap mcap pcap : Nat) (qs : List Nat) (ps : List Ty) (ns : List ByteArray) (ms : List Bool) (m : Int) (w : World) (h : MayH N M B nm (.slice na ns.length ncap) (.slice ma ms.length mcap) (.slice pa qs.length pcap) qs ps ns ms m w) (hN : (ns.length : Int) + ms.length = 0)(ht : ¬ nm.toList = []) :
    Calls Tryz.prog 24 #[typV 13 0 nm (.slice ia il ic) (.slice na ns.length ncap) (.slice ma ms.length mcap), .slice pa qs.length pcap] w (MayR (Ty.mk 13 0 nm ps ns ms) w) := by
  have HX : Hid _ := Lib.hid h
  have hnl : (ns.length : Int) ≤ 1000000000 ∧ (ms.length : Int) ≤ 1000000000 ∧ (qs.length : Int) ≤ 1000000000 := by
    obtain ⟨_, _, _, _, h1⟩ := h.names.form
    obtain ⟨_, _, _, _, h2⟩ := h.marks.form
    obtain ⟨_, _, _, _, h3⟩ := h.row.form
    rw [List.length_map] at h1 h2 h3
    omega
  clear h
  go_enter Tryz.func24, Tryz.ntmps24
  go_wp2_with fail
  go_quiet (fail)
  go_wp2_with fail
  all_goals (try go_quiet (fail))
  all_goals (try go_wp2_with fail)
  all_goals go_ret
  all_goals refine ⟨⟨_, rfl, fun e => ?_⟩, uq⟩
  all_goals first
    | (cases e; done)
    | ((try simp only [decide_eq_true_eq, Bool.and_eq_true, beq_iff_eq] at e); exact valid_arr HX.out hN (by first | omega | (simp [*]; done)) ht)

set_option maxRecDepth 100000 in
set_option maxHeartbeats 4000000 in
theorem may_13_Fn (N M : Nat → Prop) (B : Nat) (nm : ByteArray) (ia na ma pa : Option Addr) (il ic ncap mcap pcap : Nat) (qs : List Nat) (ps : List Ty) (ns : List ByteArray) (ms : List Bool) (m : Int) (w : World) (h : MayH N M B nm (.slice na ns.length ncap) (.slice ma ms.length mcap) (.slice pa qs.length pcap) qs ps ns ms m w) (n : Int) (hn1 : -9223372036854775808 ≤ n) (hn2 : n ≤ 9223372036854775807) (hN : ¬ (ns.length : Int) + ms.length = 0)(hz : ¬ n = 0) :
    Calls Tryz.prog 24 #[typV 13 n nm (.slice ia il ic) (.slice na ns.length ncap) (.slice ma ms.length mcap), .slice pa qs.length pcap] w (MayR (Ty.mk 13 n nm ps ns ms) w) := by
  have HX : Hid _ := Lib.hid h
  have hnl : (ns.length : Int) ≤ 1000000000 ∧ (ms.length : Int) ≤ 1000000000 ∧ (qs.length : Int) ≤ 1000000000 := by
    obtain ⟨_, _, _, _, h1⟩ := h.names.form
    obtain ⟨_, _, _, _, h2⟩ := h.marks.form
    obtain ⟨_, _, _, _, h3⟩ := h.row.form
    rw [List.length_map] at h1 h2 h3
    omega
  clear h
  go_enter Tryz.func24, Tryz.ntmps24
  go_wp2_with fail
  go_quiet (fail)
  go_wp2_with fail
  all_goals (try go_quiet (fail))
  all_goals (try go_wp2_with fail)
  all_goals go_ret
  all_goals refine ⟨⟨_, rfl, fun e => ?_⟩, uq⟩
  all_goals first
    | (cases e; done)
    | ((try simp only [decide_eq_true_eq, Bool.and_eq_true, beq_iff_eq] at e); exact valid_arr HX.out hN (by first | omega | (simp [*]; done)) ht)

set_option maxRecDepth 100000 in
set_option maxHeartbeats 4000000 in
theorem may_13_F0t (N M : Nat → Prop) (B : Nat) (nm : ByteArray) (ia na ma pa : Option Addr) (il ic ncap mcap pcap : Nat) (qs : List Nat) (ps : List Ty) (ns : List ByteArray) (ms : List Bool) (m : Int) (w : World) (h : MayH N M B nm (.slice na ns.length ncap) (.slice ma ms.length mcap) (.slice pa qs.length pcap) qs ps ns ms m w) (hN : ¬ (ns.length : Int) + ms.length = 0)(ht : nm.toList = []) :
    Calls Tryz.prog 24 #[typV 13 0 nm (.slice ia il ic) (.slice na ns.length ncap) (.slice ma ms.length mcap), .slice pa qs.length pcap] w (MayR (Ty.mk 13 0 nm ps ns ms) w) := by
  have HX : Hid _ := Lib.hid h
  have hnl : (ns.length : Int) ≤ 1000000000 ∧ (ms.length : Int) ≤ 1000000000 ∧ (qs.length : Int) ≤ 1000000000 := by
    obtain ⟨_, _, _, _, h1⟩ := h.names.form
    obtain ⟨_, _, _, _, h2⟩ := h.marks.form
    obtain ⟨_, _, _, _, h3⟩ := h.row.form
    rw [List.length_map] at h1 h2 h3
    omega
  clear h
  go_enter Tryz.func24, Tryz.ntmps24
  go_wp2_with fail
  go_quiet (fail)
  go_wp2_with fail
  all_goals (try go_quiet (fail))
  all_goals (try go_wp2_with fail)
  all_goals go_ret
  all_goals refine ⟨⟨_, rfl, fun e => ?_⟩, uq⟩
  all_goals first
    | (cases e; done)
    | ((try simp only [decide_eq_true_eq, Bool.and_eq_true, beq_iff_eq] at e); exact valid_arr HX.out hN (by first | omega | (simp [*]; done)) ht)

set_option maxRecDepth 100000 in
set_option maxHeartbeats 4000000 in
theorem may_13_F0f (N M : Nat → Prop) (B : Nat) (nm : ByteArray) (ia na ma pa : Option Addr) (il ic ncap mcap pcap : Nat) (qs : List Nat) (ps : List Ty) (ns : List ByteArray) (ms : List Bool) (m : Int) (w : World) (h : MayH N M B nm (.slice na ns.length ncap) (.slice ma ms.length mcap) (.slice pa qs.length pcap) qs ps ns ms m w) (hN : ¬ (ns.length : Int) + ms.length = 0)(ht : ¬ nm.toList = []) :
    Calls Tryz.prog 24 #[typV 13 0 nm (.slice ia il ic) (.slice na ns.length ncap) (.slice ma ms.length mcap), .slice pa qs.length pcap] w (MayR (Ty.mk 13 0 nm ps ns ms) w) := by
  have HX : Hid _ := Lib.hid h
  have hnl : (ns.length : Int) ≤ 1000000000 ∧ (ms.length : Int) ≤ 1000000000 ∧ (qs.length : Int) ≤ 1000000000 := by
    obtain ⟨_, _, _, _, h1⟩ := h.names.form
    obtain ⟨_, _, _, _, h2⟩ := h.marks.form
    obtain ⟨_, _, _, _, h3⟩ := h.row.form
    rw [List.length_map] at h1 h2 h3
    omega
  clear h
  go_enter Tryz.func24, Tryz.ntmps24
  go_wp2_with fail
  go_quiet (fail)
  go_wp2_with fail
  all_goals (try go_quiet (fail))
  all_goals (try go_wp2_with fail)
  all_goals go_ret
  all_goals refine ⟨⟨_, rfl, fun e => ?_⟩, uq⟩
  all_goals first
    | (cases e; done)
    | ((try simp only [decide_eq_true_eq, Bool.and_eq_true, beq_iff_eq] at e); exact valid_arr HX.out hN (by first | omega | (simp [*]; done)) ht)

end Go.Proofs.YtbghpkoimbmijaaGreatDoor
