import Derived.Test.YtbghpkoimbmijaaGreatDoorCards
import Derived.Test.YtbghpkoimbmijaaGreatDoorTie
import Derived.WalkKit
import Derived.ProofKit
import Derived.OpenShut
import Derived.ShutString
import Derived.ChangeOld
import Derived.Below
import Derived.SliceStrings
import Derived.Deep.DeepHandedRow
import Derived.Lib.LaidTab
import Derived.LaidSub
import Derived.SizedLaws
import Derived.Test.YtbghpkoimbmijaaGreatDoorM01
import Derived.Test.YtbghpkoimbmijaaGreatDoorM29
import Derived.Test.YtbghpkoimbmijaaGreatDoorM23
import Derived.Test.YtbghpkoimbmijaaGreatDoorM15
/- YtbghpkoimbmijaaGreatDoorM30: lemmas of the proof, in order: Laid, Open, LA, LB, VN. -/
/- What the cards of this seat share: a world for the witness. -/
namespace Go.Proofs.YtbghpkoimbmijaaGreatDoor
open Go.ChangeShapes Go.WideShapes Go.ChangeAt Go.RowKit
set_option maxRecDepth 100000

theorem own_knob : ownKnob Tryz.prog.godebug = none := by kernel_rfl
theorem laid_out : laidOutB Tryz.prog = true := by kernel_rfl

def datCells {H : Type} : DataW H → Array Value
  | .agg l => (l.map fun d => match d with | .lit (.int k n) => Value.int k n | _ => .nilIface).toArray
  | _ => #[]

def layDat (d : DataW Unit) : Obj → Obj
  | .cells _ t frozen => .cells (datCells d) t frozen
  | o => o

/-- the settled world, the three tables as their initialisers lay them -/
noncomputable def laidWorld (os : Os) : World :=
  { World.holding Tryz.prog os ⟨#[], #[], []⟩ with heap := (((World.holding Tryz.prog os ⟨#[], #[], []⟩).heap.modify 1 (layDat Rows.laid_internal_strconv_uint64pow10)).modify 2 (layDat Rows.laid_math_bits_deBruijn32tab)).modify 3 (layDat Rows.laid_math_bits_deBruijn64tab) }

/-- WHAT THE WALK IS TOLD OF A SLICE OF INTEGERS THAT CAME IN -/
def IsRow (k : IntKind) (w : World) (a : Option Addr) (len cap : Nat) (zs : List Int) : Prop :=
  (a = none ∧ len = 0 ∧ cap = 0 ∧ zs = []) ∨
  ∃ x, a = some x ∧ len ≤ cap ∧ cap ≤ maxLen ∧ zs.length = cap ∧ (∀ i, i < zs.length → w.cell? (x.add i) = some (.int k (zs.getD i 0))) ∧ ∀ n ∈ zs, (Lit.int k n).wf = true

theorem IsRow.cells {k : IntKind} {w : World} {a : Option Addr} {len cap : Nat} {zs : List Int} (h : IsRow k w a len cap zs) : len ≤ 9223372036854775807 ∧ ∀ i, i < len → ∃ b off, a = some ⟨b, off, none⟩ ∧ w.cell? ⟨b, off + i, none⟩ = some (.int k (zs.getD i 0)) := by
  rcases h with ⟨rfl, rfl, rfl, rfl⟩ | ⟨x, rfl, h1, h2, h3, h4, _⟩
  · exact ⟨by omega, fun i hi => by omega⟩
  · refine ⟨by unfold maxLen at h2; omega, fun i hi => ?_⟩
    obtain ⟨b, off, rfl, hc⟩ := ints_at h4 (by omega)
    exact ⟨b, off, rfl, hc i (by omega)⟩

/-- of a slice of texts -/
def IsTexts (w : World) (a : Option Addr) (len cap : Nat) (ss : List ByteArray) : Prop :=
  (a = none ∧ len = 0 ∧ cap = 0 ∧ ss = []) ∨
  ∃ x, a = some x ∧ len ≤ cap ∧ cap ≤ maxLen ∧ ss.length = cap ∧ (∀ i, i < ss.length → w.cell? (x.add i) = some (.string (ss.getD i ByteArray.empty))) ∧ ∀ s ∈ ss, s.size ≤ maxLen

theorem IsTexts.cells {w : World} {a : Option Addr} {len cap : Nat} {ss : List ByteArray} (h : IsTexts w a len cap ss) : len ≤ 9223372036854775807 ∧ ∀ i, i < len → ∃ b off, a = some ⟨b, off, none⟩ ∧ w.cell? ⟨b, off + i, none⟩ = some (.string (ss.getD i ByteArray.empty)) ∧ (ss.getD i ByteArray.empty).size ≤ 9223372036854775807 := by
  rcases h with ⟨rfl, rfl, rfl, rfl⟩ | ⟨x, rfl, h1, h2, h3, h4, h5⟩
  · exact ⟨by omega, fun i hi => by omega⟩
  · refine ⟨by unfold maxLen at h2; omega, fun i hi => ?_⟩
    obtain ⟨b, off, spot⟩ := x
    have hspot : spot = none := by simpa [Addr.add] using World.cell?_spot (h4 0 (by omega))
    subst hspot
    refine ⟨b, off, rfl, by rw [← Go.WideShapes.add_plain]; exact h4 i (by omega), ?_⟩
    have hm : ss.getD i ByteArray.empty ∈ ss := by
      rw [List.getD, List.getElem?_eq_getElem (by omega)]
      exact List.getElem_mem (by omega)
    have := h5 _ hm
    unfold maxLen at this
    omega

end Go.Proofs.YtbghpkoimbmijaaGreatDoor

/- How slices of whatever come in, read out of the memory. -/
namespace Go.Proofs.YtbghpkoimbmijaaGreatDoor
open Go.ChangeShapes Go.WideShapes Go.ChangeAt Go.RowKit
set_option linter.unusedVariables false
set_option maxRecDepth 100000

theorem cellsI : Tryz.prog.cellsOf 3 = 1 := by kernel_rfl
theorem cellsS : Tryz.prog.cellsOf 9 = 1 := by kernel_rfl
theorem cellsB : Tryz.prog.cellsOf 4 = 1 := by kernel_rfl

theorem weights_all {H : Type} {P : Program} {e : TypeId} : ∀ {l : List (DataW H)} {d : DataW H}, d ∈ l → ∀ n ∈ d.weights P e, n ∈ DataW.weightsAll P e l
  | d0 :: l, d, hd, n, hn => by
    simp only [DataW.weightsAll, List.mem_append]
    rcases List.mem_cons.1 hd with rfl | hd
    · exact .inl hn
    · exact .inr (weights_all hd n hn)

section
variable {H : Type} {enc : TypeId × Value → H}
/-- a slice of elements of k cells each -/
theorem open_row {W : World} {sp : Nat → Bool} {fuel : Nat} {t e : TypeId} {k by_ : Nat} {cs : List Value} {x : DataW H × List MemPlace} (ht : Tryz.prog.underlying t = some (.slice e)) (hk : Tryz.prog.cellsOf e = k) (hk0 : 0 < k) (hb : Tryz.prog.bytesOf e = by_)
    (h : DataW.trod enc Tryz.prog W 0 sp true fuel t cs = some x) (hsz : ∀ n ∈ DataW.weights Tryz.prog t x.1, n ≤ reachBytes) :
    ∃ a l c, cs = [.slice a l c] ∧ l ≤ c ∧ l * by_ ≤ 140737488351232 ∧
      ∀ i, i < l → ∃ b off us y m, a = some ⟨b, off, none⟩ ∧ b < W.heap.size ∧ us.length = k ∧ (∀ j, j < k → W.cell? ⟨b, off + i * k + j, none⟩ = us[j]?) ∧ m < fuel ∧ DataW.trod enc Tryz.prog W 0 sp true m e us = some y ∧ ∀ n ∈ DataW.weights Tryz.prog e y.1, n ≤ reachBytes := by
  rcases DataW.trod_slice ht h with ⟨rfl, _⟩ | ⟨a0, len, cap, elems, rest, n, rfl, rfl, rfl, _, hl, hm, hlen, hel, _, _⟩
  · exact ⟨none, 0, 0, rfl, Nat.le_refl _, by omega, fun i hi => by omega⟩
  refine ⟨some a0, len, cap, rfl, hl, ?_, fun i hi => ?_⟩
  · have q := hsz ((elems.length + rest.length) * by_) (by simp [DataW.weights, ht, hb])
    rw [hlen] at q
    have q2 : len * by_ ≤ (len + rest.length) * by_ := Nat.mul_le_mul_right _ (by omega)
    unfold reachBytes at q
    omega
  · obtain ⟨y, hy⟩ : ∃ y, elems[i]? = some y := ⟨_, List.getElem?_eq_getElem (by omega)⟩
    have h1 := hel i hi
    rw [hy, Option.bind_eq_some_iff] at h1
    obtain ⟨cs, hcs, hty⟩ := h1
    rw [hk] at hcs
    obtain ⟨_, hcl, hcell⟩ := World.cells?_some hcs
    have hblk := World.cells?_block hcs hk0
    obtain ⟨b, off, spot⟩ := a0
    have hspot : spot = none := by
      obtain ⟨y0, hy0⟩ : ∃ y, elems[0]? = some y := ⟨_, List.getElem?_eq_getElem (by omega)⟩
      have h0 := hel 0 (by omega)
      rw [hy0, Option.bind_eq_some_iff] at h0
      obtain ⟨cs0, hcs0, _⟩ := h0
      rw [hk] at hcs0
      obtain ⟨_, hcl0, hcell0⟩ := World.cells?_some hcs0
      have h2 := hcell0 0 hk0
      rw [List.getElem?_eq_getElem (by omega)] at h2
      simpa [Addr.add] using World.cell?_spot h2
    subst hspot
    rw [Go.WideShapes.add_plain] at hblk
    refine ⟨b, off, cs, y, n, rfl, hblk, hcl, fun j hj => ?_, by omega, hty, fun u hu => hsz u ?_⟩
    · have h2 := hcell j hj
      rw [Go.WideShapes.add_plain, Go.WideShapes.add_plain] at h2
      exact h2
    · simp only [DataW.weights, ht, List.mem_cons, List.mem_append]
      exact .inr (.inl (weights_all (List.mem_map.2 ⟨y, List.mem_of_getElem? hy, rfl⟩) u hu))

/-- a slice of texts -/
theorem open_strs {W : World} {sp : Nat → Bool} {fuel : Nat} {cs : List Value} {x : DataW H × List MemPlace} (h : DataW.trod enc Tryz.prog W 0 sp true fuel 23 cs = some x) (hsz : ∀ n ∈ DataW.weights Tryz.prog 23 x.1, n ≤ reachBytes) :
    ∃ a l c, cs = [.slice a l c] ∧ l ≤ c ∧ l ≤ 140737488351232 ∧ ∀ i, i < l → ∃ b off s, a = some ⟨b, off, none⟩ ∧ b < W.heap.size ∧ W.cell? ⟨b, off + i, none⟩ = some (.string s) ∧ s.size ≤ 140737488351232 := by
  obtain ⟨a, l, c, rfl, h1, h2, h3⟩ := open_row (by_ := 16) Tryz.underlying23 cellsS (by decide) (by kernel_rfl) h hsz
  refine ⟨a, l, c, rfl, h1, by omega, fun i hi => ?_⟩
  obtain ⟨b, off, us, y, m, q1, q2, q3, q4, _, q5, q6⟩ := h3 i hi
  obtain ⟨s, rfl, rfl, _⟩ := DataW.trod_string Tryz.underlying9 q5
  have q7 := q6 s.data.toList.length (by simp [DataW.weights])
  have q8 := q4 0 (by decide)
  rw [Nat.mul_one, Nat.add_zero] at q8
  exact ⟨b, off, s, q1, q2, by simpa using q8, by unfold reachBytes at q7; simpa using q7⟩
end

end Go.Proofs.YtbghpkoimbmijaaGreatDoor

/- Types as they come in: trees in memory, read out of it. -/
namespace Go.Proofs.YtbghpkoimbmijaaGreatDoor
open Go.ChangeShapes Go.WideShapes Go.ChangeAt Go.RowKit
set_option linter.unusedSimpArgs false
set_option linter.unusedVariables false
set_option maxRecDepth 100000

abbrev RefT : TypeId := 26

/-- a type as it comes in: its six cells and what lies behind them, all of it below B -/
inductive TIs (B : Nat) (w : World) : List Value → Ty → Prop
  | mk {k n : Int} {nm : ByteArray} {pa : Option Addr} {cap : Nat} {nv mv : Value} {ps : List Ty} {ns : List ByteArray} {ms : List Bool} (us : List (List Value))
    (hn1 : -9223372036854775808 ≤ n) (hn2 : n ≤ 9223372036854775807) (hnm : nm.size ≤ 2000000)
    (hnv : RowV (fun x => x < B) w nv (ns.map .string)) (hln : ns.length ≤ 2000000) (hsm : ∀ s ∈ ns, s.size ≤ 2000000)
    (hmv : RowV (fun x => x < B) w mv (ms.map .bool)) (hlm : ms.length ≤ 2000000)
    (hl : us.length = ps.length) (hpl : ps.length ≤ 2000000) (hpc : ps.length ≤ cap)
    (hc : ∀ (j : Nat) (u : List Value), us[j]? = some u → ∃ b off, pa = some ⟨b, off, none⟩ ∧ b < B ∧ u.length = 6 ∧ ∀ i, i < 6 → w.cell? ⟨b, off + j * 6 + i, none⟩ = u[i]?)
    (hq : ∀ (j : Nat) (u : List Value) (p : Ty), us[j]? = some u → ps[j]? = some p → TIs B w u p) :
    TIs B w [.int .i64 k, .int .i64 n, .string nm, .slice pa ps.length cap, nv, mv] (.mk k n nm ps ns ms)

theorem RowV.below {B : Nat} {w w' : World} {v : Value} {us : List Value} (h : RowV (fun x => x < B) w v us) (k : Below B w w') : RowV (fun x => x < B) w' v us := by
  obtain ⟨T, h⟩ := h
  refine ⟨T, h.keep fun g cs fz h1 h2 => ⟨h1, ?_⟩⟩
  rw [k.block g h1]
  exact h2
theorem TIs.low {B : Nat} {w w' : World} {us : List Value} {t : Ty} (h : TIs B w us t) (k : Below B w w') : TIs B w' us t := by
  induction h with
  | mk us hn1 hn2 hnm hnv hln hsm hmv hlm hl hpl hpc hc hq ih =>
    refine TIs.mk us hn1 hn2 hnm (hnv.below k) hln hsm (hmv.below k) hlm hl hpl hpc (fun j u hj => ?_) ih
    obtain ⟨b, off, h1, h2, h3, h4⟩ := hc j u hj
    exact ⟨b, off, h1, h2, h3, fun i hi => (Below.cell (p := ⟨b, _, none⟩) k h2).trans (h4 i hi)⟩
theorem Memo.below {S : Nat → Prop} {B : Nat} {w w' : World} (k : Memo S B w w') (h : B ≤ w.heap.size) : Below B w w' := ⟨k.os, k.tape, k.output, k.size, fun i hi => k.low i hi (Nat.lt_of_lt_of_le hi h)⟩
theorem Up.below {B : Nat} {w w' : World} (k : Up w w') (h : B ≤ w.heap.size) : Below B w w' := Below.mono k h

/-- a cell lies in a block of cells -/
theorem cell_block {w : World} {b o : Nat} {v : Value} (h : w.cell? ⟨b, o, none⟩ = some v) : ∃ cs T f, w.heap[b]? = some (.cells cs T f) ∧ cs[o]? = some v := by
  unfold World.cell? at h
  revert h
  cases hb : w.heap[b]? with
  | none => simp
  | some o' =>
    cases o' with
    | cells cs T f => intro h; exact ⟨cs, T, f, rfl, by simpa using h⟩
    | _ => simp

theorem rowV_of {w : World} {a : Option Addr} {cap : Nat} {us : List Value} (hc : us.length ≤ cap) (hb : us.length ≤ 1000000000) (h : ∀ (j : Nat) (u : Value), us[j]? = some u → ∃ b off, a = some ⟨b, off, none⟩ ∧ w.cell? ⟨b, off + j, none⟩ = some u) :
    RowV (fun x => x < w.heap.size) w (.slice a us.length cap) us := by
  cases us with
  | nil => exact ⟨StrT, a, cap, rfl, hc, hb, fun j u hj => by simp at hj⟩
  | cons u0 us =>
    obtain ⟨b, off, rfl, h0⟩ := h 0 u0 rfl
    obtain ⟨cs, T, f, h1, h2⟩ := cell_block h0
    refine ⟨T, _, cap, rfl, hc, hb, fun j u hj => ⟨b, off, cs, f, rfl, lt_of_heap h1, h1, ?_⟩⟩
    obtain ⟨b', off', e, hj'⟩ := h j u hj
    injection e with e
    injection e with e1 e2 _
    subst e1 e2
    rw [cell_of h1] at hj'
    exact hj'

section
variable {H : Type} {enc : TypeId × Value → H}
theorem bulk_mem {l : List (DataW H)} {d : DataW H} (h : d ∈ l) : Rows.uptoBulk d ≤ Rows.uptoBulkAll l := by
  induction l with
  | nil => cases h
  | cons x r ih =>
    rw [Rows.uptoBulkAll]
    rcases List.mem_cons.1 h with rfl | h
    · omega
    · have := ih h; omega
theorem bulk_pos (d : DataW H) : 1 ≤ Rows.uptoBulk d := by
  cases d with
  | lit l => cases l <;> simp only [Rows.uptoBulk] <;> omega
  | _ => simp only [Rows.uptoBulk] <;> omega
theorem bulk_len (l : List (DataW H)) : l.length ≤ Rows.uptoBulkAll l := by
  induction l with
  | nil => simp
  | cons x r ih =>
    rw [Rows.uptoBulkAll]
    have := bulk_pos x
    simp only [List.length_cons]
    omega

/-- a slice of elements of k cells each, with its bulk -/
theorem open_rowB {W : World} {sp : Nat → Bool} {fuel : Nat} {t e : TypeId} {k : Nat} {cs : List Value} {x : DataW H × List MemPlace} (ht : Tryz.prog.underlying t = some (.slice e)) (hk : Tryz.prog.cellsOf e = k) (hk0 : 0 < k)
    (h : DataW.trod enc Tryz.prog W 0 sp true fuel t cs = some x) :
    ∃ (a : Option Addr) (l c : Nat) (ys : List (DataW H × List MemPlace)), cs = [.slice a l c] ∧ l ≤ c ∧ ys.length = l ∧ Rows.uptoBulkAll (ys.map (·.1)) + 1 ≤ Rows.uptoBulk x.1 ∧
      ∀ (i : Nat) (y : DataW H × List MemPlace), ys[i]? = some y → ∃ b off us m, a = some ⟨b, off, none⟩ ∧ b < W.heap.size ∧ us.length = k ∧ (∀ j, j < k → W.cell? ⟨b, off + i * k + j, none⟩ = us[j]?) ∧ m < fuel ∧ DataW.trod enc Tryz.prog W 0 sp true m e us = some y := by
  rcases DataW.trod_slice ht h with ⟨rfl, rfl⟩ | ⟨a0, len, cap, elems, rest, n, rfl, rfl, rfl, _, hl, hm, hlen, hel, _, _⟩
  · exact ⟨none, 0, 0, [], rfl, Nat.le_refl _, rfl, by simp [Rows.uptoBulk, Rows.uptoBulkAll], fun i y hi => by simp at hi⟩
  have hspot : 0 < len → a0.spot = none := fun h0 => by
    obtain ⟨y0, hy0⟩ : ∃ y, elems[0]? = some y := ⟨_, List.getElem?_eq_getElem (by omega)⟩
    have h1 := hel 0 h0
    rw [hy0, Option.bind_eq_some_iff] at h1
    obtain ⟨cs0, hcs0, _⟩ := h1
    rw [hk] at hcs0
    obtain ⟨_, hcl0, hcell0⟩ := World.cells?_some hcs0
    have h2 := hcell0 0 hk0
    rw [List.getElem?_eq_getElem (by omega)] at h2
    simpa [Addr.add] using World.cell?_spot h2
  refine ⟨some a0, len, cap, elems, rfl, hl, hlen, by simp only [Rows.uptoBulk]; omega, fun i y hy => ?_⟩
  have hi : i < len := by rw [← hlen]; exact (List.getElem?_eq_some_iff.1 hy).1
  have h1 := hel i hi
  rw [hy, Option.bind_eq_some_iff] at h1
  obtain ⟨cs, hcs, hty⟩ := h1
  rw [hk] at hcs
  obtain ⟨_, hcl, hcell⟩ := World.cells?_some hcs
  have hblk := World.cells?_block hcs hk0
  have hsp := hspot (by omega)
  obtain ⟨b, off, spot⟩ := a0
  simp only at hsp
  subst hsp
  rw [Go.WideShapes.add_plain] at hblk
  refine ⟨b, off, cs, n, rfl, hblk, hcl, fun j hj => ?_, by omega, hty⟩
  have h2 := hcell j hj
  rw [Go.WideShapes.add_plain, Go.WideShapes.add_plain] at h2
  exact h2

theorem list_of {α : Type} {P : Nat → α → Prop} : ∀ (n : Nat), (∀ i, i < n → ∃ x, P i x) → ∃ l : List α, l.length = n ∧ ∀ i x, l[i]? = some x → P i x
  | 0, _ => ⟨[], rfl, fun i x h => by simp at h⟩
  | n + 1, h => by
    obtain ⟨l, h1, h2⟩ := list_of n (fun i hi => h i (by omega))
    obtain ⟨x, hx⟩ := h n (by omega)
    refine ⟨l ++ [x], by simp [h1], fun i y hy => ?_⟩
    rcases Nat.lt_or_ge i n with hi | hi
    · rw [List.getElem?_append_left (by omega)] at hy
      exact h2 i y hy
    · have hil := (List.getElem?_eq_some_iff.1 hy).1
      simp only [List.length_append, List.length_singleton] at hil
      obtain rfl : i = n := by omega
      rw [List.getElem?_append_right (by omega), h1, Nat.sub_self] at hy
      simp only [List.getElem?_cons_zero, Option.some.injEq] at hy
      subst hy
      exact hx

/-- a slice of texts -/
theorem open_strsB {W : World} {sp : Nat → Bool} {fuel : Nat} {cs : List Value} {x : DataW H × List MemPlace} (h : DataW.trod enc Tryz.prog W 0 sp true fuel 23 cs = some x) (hb : Rows.uptoBulk x.1 ≤ 1048576) :
    ∃ (v : Value) (ns : List ByteArray), cs = [v] ∧ RowV (fun y => y < W.heap.size) W v (ns.map .string) ∧ ns.length ≤ 2000000 ∧ ∀ s ∈ ns, s.size ≤ 2000000 := by
  obtain ⟨a, l, c, ys, rfl, h1, h2, h3, h6⟩ := open_rowB Tryz.underlying23 cellsS (by decide) h
  have hl := bulk_len (ys.map (·.1))
  rw [List.length_map] at hl
  obtain ⟨ns, hnl, hat⟩ := list_of (P := fun i (s : ByteArray) => ∃ b off, a = some ⟨b, off, none⟩ ∧ W.cell? ⟨b, off + i, none⟩ = some (.string s) ∧ s.size ≤ 2000000) l (fun i hi => by
    obtain ⟨y, hy⟩ : ∃ y, ys[i]? = some y := ⟨_, List.getElem?_eq_getElem (by omega)⟩
    obtain ⟨b, off, us, m, q1, q2, q3, q4, _, q5⟩ := h6 i y hy
    obtain ⟨s, rfl, rfl, _⟩ := DataW.trod_string Tryz.underlying9 q5
    have q8 := q4 0 (by decide)
    rw [Nat.mul_one, Nat.add_zero] at q8
    have q9 := bulk_mem (List.mem_map.2 ⟨_, List.mem_of_getElem? hy, rfl⟩ : (DataW.lit (.string s.data.toList) : DataW H) ∈ ys.map (·.1))
    have q10 : Rows.uptoBulk (DataW.lit (.string s.data.toList) : DataW H) = s.data.toList.length + 1 := by simp only [Rows.uptoBulk]
    have q11 : s.data.toList.length = s.size := by simp
    exact ⟨s, b, off, q1, by simpa using q8, by omega⟩)
  refine ⟨.slice a l c, ns, rfl, ?_, by omega, fun s hs => ?_⟩
  · have q := rowV_of (w := W) (a := a) (cap := c) (us := ns.map .string) (by rw [List.length_map]; omega) (by rw [List.length_map]; omega) (fun j u hj => by
      rw [List.getElem?_map] at hj
      cases hs : ns[j]? with
      | none => rw [hs] at hj; cases hj
      | some s =>
        rw [hs] at hj
        cases hj
        obtain ⟨b, off, r1, r2, _⟩ := hat j s hs
        exact ⟨b, off, r1, r2⟩)
    rw [List.length_map, hnl] at q
    exact q
  · obtain ⟨i, hi⟩ := List.getElem?_of_mem hs
    obtain ⟨_, _, _, _, r⟩ := hat i s hi
    exact r
/-- a slice of marks -/
theorem open_boolsB {W : World} {sp : Nat → Bool} {fuel : Nat} {cs : List Value} {x : DataW H × List MemPlace} (h : DataW.trod enc Tryz.prog W 0 sp true fuel 24 cs = some x) (hb : Rows.uptoBulk x.1 ≤ 1048576) :
    ∃ (v : Value) (ms : List Bool), cs = [v] ∧ RowV (fun y => y < W.heap.size) W v (ms.map .bool) ∧ ms.length ≤ 2000000 := by
  obtain ⟨a, l, c, ys, rfl, h1, h2, h3, h6⟩ := open_rowB Tryz.underlying24 cellsB (by decide) h
  have hl := bulk_len (ys.map (·.1))
  rw [List.length_map] at hl
  obtain ⟨ms, hnl, hat⟩ := list_of (P := fun i (s : Bool) => ∃ b off, a = some ⟨b, off, none⟩ ∧ W.cell? ⟨b, off + i, none⟩ = some (.bool s)) l (fun i hi => by
    obtain ⟨y, hy⟩ : ∃ y, ys[i]? = some y := ⟨_, List.getElem?_eq_getElem (by omega)⟩
    obtain ⟨b, off, us, m, q1, q2, q3, q4, _, q5⟩ := h6 i y hy
    obtain ⟨s, rfl, rfl⟩ := DataW.trod_bool Tryz.underlying4 q5
    have q8 := q4 0 (by decide)
    rw [Nat.mul_one, Nat.add_zero] at q8
    exact ⟨s, b, off, q1, by simpa using q8⟩)
  refine ⟨.slice a l c, ms, rfl, ?_, by omega⟩
  have q := rowV_of (w := W) (a := a) (cap := c) (us := ms.map .bool) (by rw [List.length_map]; omega) (by rw [List.length_map]; omega) (fun j u hj => by
    rw [List.getElem?_map] at hj
    cases hs : ms[j]? with
    | none => rw [hs] at hj; cases hj
    | some s =>
      rw [hs] at hj
      cases hj
      obtain ⟨b, off, r1, r2⟩ := hat j s hs
      exact ⟨b, off, r1, r2⟩)
  rw [List.length_map, hnl] at q
  exact q

theorem sum_le_bulk : ∀ (l : List (List Value × Ty)) (ys : List (DataW H × List MemPlace)), l.length = ys.length → (∀ (i : Nat) (x : List Value × Ty) (y : DataW H × List MemPlace), l[i]? = some x → ys[i]? = some y → x.2.nodes ≤ Rows.uptoBulk y.1) → ((l.map (·.2)).map Ty.nodes).sum ≤ Rows.uptoBulkAll (ys.map (·.1))
  | [], [], _, _ => by simp [Rows.uptoBulkAll]
  | [], _ :: _, h, _ => by simp at h
  | _ :: _, [], h, _ => by simp at h
  | x :: l, y :: ys, h, k => by
    have h1 := sum_le_bulk l ys (by simpa using h) (fun i x y q1 q2 => k (i + 1) x y (by simpa using q1) (by simpa using q2))
    have h2 := k 0 x y rfl rfl
    simp only [List.map_cons, List.sum_cons, Rows.uptoBulkAll]
    simp only [List.map_map] at h1 ⊢
    omega

theorem cellsRef : Tryz.prog.cellsOf RefT = 6 := by kernel_rfl
theorem cellsSlR : Tryz.prog.cellsOf 22 = 1 := by kernel_rfl
theorem cellsSlS : Tryz.prog.cellsOf 23 = 1 := by kernel_rfl
theorem cellsSlB : Tryz.prog.cellsOf 24 = 1 := by kernel_rfl

/-- a type that came in -/
theorem open_T {W : World} {sp : Nat → Bool} : ∀ (fuel : Nat) (cs : List Value) (x : DataW H × List MemPlace), DataW.trod enc Tryz.prog W 0 sp true fuel RefT cs = some x → Rows.uptoBulk x.1 ≤ 1048576 → ∃ t, TIs W.heap.size W cs t ∧ t.nodes ≤ Rows.uptoBulk x.1 := by
  intro fuel
  induction fuel using Nat.strongRecOn with
  | _ fuel ih =>
  intro cs x h hb
  obtain ⟨xs, m, rfl, hx, hcl, hxl, hf⟩ := DataW.trod_struct Tryz.underlying26 h
  rw [cellsRef] at hcl
  match cs, hcl, xs, hxl with
  | [c0, c1, c2, c3, c4, c5], _, [x0, x1, x2, x3, x4, x5], _ =>
    have f0 : DataW.trod enc Tryz.prog W 0 sp true m 3 ((([c0, c1, c2, c3, c4, c5] : List Value).drop 0).take (Tryz.prog.cellsOf 3)) = some x0 := hf 0 _ rfl
    rw [cellsI] at f0
    have f1 : DataW.trod enc Tryz.prog W 0 sp true m 3 ((([c0, c1, c2, c3, c4, c5] : List Value).drop 1).take (Tryz.prog.cellsOf 3)) = some x1 := hf 1 _ rfl
    rw [cellsI] at f1
    have f2 : DataW.trod enc Tryz.prog W 0 sp true m 9 ((([c0, c1, c2, c3, c4, c5] : List Value).drop 2).take (Tryz.prog.cellsOf 9)) = some x2 := hf 2 _ rfl
    rw [cellsS] at f2
    have f3 : DataW.trod enc Tryz.prog W 0 sp true m 22 ((([c0, c1, c2, c3, c4, c5] : List Value).drop 3).take (Tryz.prog.cellsOf 22)) = some x3 := hf 3 _ rfl
    rw [cellsSlR] at f3
    have f4 : DataW.trod enc Tryz.prog W 0 sp true m 23 ((([c0, c1, c2, c3, c4, c5] : List Value).drop 4).take (Tryz.prog.cellsOf 23)) = some x4 := hf 4 _ rfl
    rw [cellsSlS] at f4
    have f5 : DataW.trod enc Tryz.prog W 0 sp true m 24 ((([c0, c1, c2, c3, c4, c5] : List Value).drop 5).take (Tryz.prog.cellsOf 24)) = some x5 := hf 5 _ rfl
    rw [cellsSlB] at f5
    simp only [List.drop, List.take] at f0 f1 f2 f3 f4 f5
    have hbx : Rows.uptoBulk x.1 = Rows.uptoBulk x0.1 + (Rows.uptoBulk x1.1 + (Rows.uptoBulk x2.1 + (Rows.uptoBulk x3.1 + (Rows.uptoBulk x4.1 + (Rows.uptoBulk x5.1 + 0))))) + 1 := by
      rw [hx]
      simp only [Rows.uptoBulk, Rows.uptoBulkAll, List.map_cons, List.map_nil]
    obtain ⟨k, e0, _, _⟩ := DataW.trod_int Tryz.underlying3 f0
    obtain ⟨n, e1, _, hnw⟩ := DataW.trod_int Tryz.underlying3 f1
    obtain ⟨nm, e2, hnm, _⟩ := DataW.trod_string Tryz.underlying9 f2
    obtain ⟨a, l, c, ys, e3, h1, h2, h3, h6⟩ := open_rowB Tryz.underlying22 cellsRef (by decide) f3
    obtain ⟨nv, ns, e4, hnv, hln, hsm⟩ := open_strsB f4 (by omega)
    obtain ⟨mv, ms, e5, hmv, hlm⟩ := open_boolsB f5 (by omega)
    simp only [List.cons.injEq, and_true] at e0 e1 e2 e3 e4 e5
    subst e0 e1 e2 e3 e4 e5
    have hnb := bounds_i64 hnw
    have hnz : nm.size + 1 ≤ Rows.uptoBulk x2.1 := by
      rw [hnm]
      show _ ≤ Rows.uptoBulk (DataW.lit (.string nm.data.toList) : DataW H)
      have q10 : Rows.uptoBulk (DataW.lit (.string nm.data.toList) : DataW H) = nm.data.toList.length + 1 := by simp only [Rows.uptoBulk]
      have q11 : nm.data.toList.length = nm.size := by simp
      omega
    have hl := bulk_len (ys.map (·.1))
    rw [List.length_map] at hl
    obtain ⟨L, hLl, hL⟩ := list_of (P := fun i (z : List Value × Ty) => ∃ b off y, ys[i]? = some y ∧ a = some ⟨b, off, none⟩ ∧ b < W.heap.size ∧ z.1.length = 6 ∧ (∀ j, j < 6 → W.cell? ⟨b, off + i * 6 + j, none⟩ = z.1[j]?) ∧ TIs W.heap.size W z.1 z.2 ∧ z.2.nodes ≤ Rows.uptoBulk y.1) l (fun i hi => by
      obtain ⟨y, hy⟩ : ∃ y, ys[i]? = some y := ⟨_, List.getElem?_eq_getElem (by omega)⟩
      obtain ⟨b, off, us, m', q1, q2, q3, q4, q6, q5⟩ := h6 i y hy
      have q9 := bulk_mem (List.mem_map.2 ⟨_, List.mem_of_getElem? hy, rfl⟩ : y.1 ∈ ys.map (·.1))
      obtain ⟨t, ht, hn⟩ := ih m' (by omega) us y q5 (by omega)
      exact ⟨(us, t), b, off, y, hy, q1, q2, q3, q4, ht, hn⟩)
    have hps : (L.map (·.2)).length = l := by rw [List.length_map, hLl]
    have hsum := sum_le_bulk L ys (by omega) (fun i x y q1 q2 => by
      obtain ⟨_, _, y', r1, _, _, _, _, _, r7⟩ := hL i x q1
      rw [q2] at r1
      cases r1
      exact r7)
    refine ⟨.mk k n nm (L.map (·.2)) ns ms, ?_, ?_⟩
    · have q := TIs.mk (B := W.heap.size) (w := W) (k := k) (n := n) (nm := nm) (pa := a) (cap := c) (nv := c4) (mv := c5) (ps := L.map (·.2)) (ns := ns) (ms := ms) (L.map (·.1)) hnb.1 hnb.2 (by omega) hnv hln hsm hmv hlm (by simp) (by omega) (by omega) (fun j u hj => by
        rw [List.getElem?_map] at hj
        cases hz : L[j]? with
        | none => rw [hz] at hj; cases hj
        | some z =>
          rw [hz] at hj
          cases hj
          obtain ⟨b, off, _, _, r1, r2, r3, r4, _, _⟩ := hL j z hz
          exact ⟨b, off, r1, r2, r3, r4⟩) (fun j u p hj hp => by
        rw [List.getElem?_map] at hj hp
        cases hz : L[j]? with
        | none => rw [hz] at hj; cases hj
        | some z =>
          rw [hz] at hj hp
          cases hj
          cases hp
          obtain ⟨_, _, _, _, _, _, _, _, r5, _⟩ := hL j z hz
          exact r5)
      rw [hps] at q
      exact q
    · rw [Ty.nodes_mk]
      omega
end

end Go.Proofs.YtbghpkoimbmijaaGreatDoor

/- Walk: the size of a type, as the document counts it. -/
namespace Go.Proofs.YtbghpkoimbmijaaGreatDoor
open Go.RowKit
set_option linter.unusedSimpArgs false
set_option linter.unusedVariables false

theorem TIs.six {B : Nat} {w : World} {us : List Value} {t : Ty} (h : TIs B w us t) : ∃ u0 u1 u2 u3 u4 u5, us = [u0, u1, u2, u3, u4, u5] := by
  cases h
  exact ⟨_, _, _, _, _, _, rfl⟩

/-- a part of a type that came in -/
theorem parts_at {B : Nat} {w : World} {pa : Option Addr} {ps : List Ty} {us : List (List Value)} (hl : us.length = ps.length)
    (hc : ∀ (j : Nat) (u : List Value), us[j]? = some u → ∃ b off, pa = some ⟨b, off, none⟩ ∧ b < B ∧ u.length = 6 ∧ ∀ i, i < 6 → w.cell? ⟨b, off + j * 6 + i, none⟩ = u[i]?)
    (hq : ∀ (j : Nat) (u : List Value) (p : Ty), us[j]? = some u → ps[j]? = some p → TIs B w u p) {j : Nat} (hj : j < ps.length) :
    ∃ p b off u0 u1 u2 u3 u4 u5, ps[j]? = some p ∧ pa = some ⟨b, off, none⟩ ∧ b < B ∧ w.cell? ⟨b, off + j * 6, none⟩ = some u0 ∧ w.cell? ⟨b, off + j * 6 + 1, none⟩ = some u1 ∧ w.cell? ⟨b, off + j * 6 + 2, none⟩ = some u2 ∧ w.cell? ⟨b, off + j * 6 + 3, none⟩ = some u3 ∧ w.cell? ⟨b, off + j * 6 + 4, none⟩ = some u4 ∧ w.cell? ⟨b, off + j * 6 + 5, none⟩ = some u5 ∧ TIs B w [u0, u1, u2, u3, u4, u5] p := by
  obtain ⟨u, hu⟩ : ∃ u, us[j]? = some u := ⟨_, List.getElem?_eq_getElem (by omega)⟩
  obtain ⟨p, hp⟩ : ∃ p, ps[j]? = some p := ⟨_, List.getElem?_eq_getElem hj⟩
  obtain ⟨b, off, h1, h2, _, h4⟩ := hc j u hu
  have ht := hq j u p hu hp
  obtain ⟨u0, u1, u2, u3, u4, u5, rfl⟩ := ht.six
  exact ⟨p, b, off, u0, u1, u2, u3, u4, u5, hp, h1, h2, h4 0 (by decide), h4 1 (by decide), h4 2 (by decide), h4 3 (by decide), h4 4 (by decide), h4 5 (by decide), ht⟩

def sumN (l : List Ty) : Nat := (l.map Ty.nodes).sum
theorem sumN_next {l : List Ty} {j : Nat} {p : Ty} (h : l[j]? = some p) : sumN (l.take (j + 1)) = sumN (l.take j) + p.nodes := by
  unfold sumN
  rw [List.take_add_one, h]
  simp
theorem sumN_take (l : List Ty) (j : Nat) : sumN (l.take j) ≤ sumN l := by
  unfold sumN
  rw [← List.take_append_drop j l, List.map_append, List.sum_append, List.take_append_drop]
  omega

def SizeR (t : Ty) (w : World) (e : Ending) (w' : World) : Prop := ∃ r : Nat, e = .returned (.int .i64 r) ∧ r ≤ t.nodes ∧ (r ≤ 500 → r = t.nodes) ∧ Up w w'

set_option maxRecDepth 100000 in
set_option maxHeartbeats 3200000 in
theorem Size_any (B : Nat) : ∀ (m : Nat) (t : Ty) (us : List Value) (w : World), t.nodes ≤ m → TIs B w us t → B ≤ w.heap.size → t.nodes ≤ 2000000 → Calls Tryz.prog 20 #[.agg us.toArray] w (SizeR t w) := by
  intro m
  induction m with
  | zero => intro t us w h; have := t.nodes_pos; omega
  | succ m ih =>
    intro t us w hm h hB hn
    cases h with
    | @mk k n nm pa cap nv mv ps ns ms us hn1 hn2 hnm hnv hln hsm hmv hlm hl hpl hpc hc hq =>
      have hsum : Hid ((Ty.mk k n nm ps ns ms).nodes = 1 + sumN ps) := Ty.nodes_mk _ _ _ _ _ _
      have HP := Lib.hid (fun (j : Nat) (hj : j < ps.length) => parts_at hl hc hq hj)
      have IH := Lib.hid ih
      have HB := Lib.hid (And.intro hB (And.intro hm hn))
      obtain ⟨na, ncap, rfl, _, _⟩ := hnv.form
      obtain ⟨ma, mcap, rfl, _, _⟩ := hmv.form
      obtain ⟨nl, hnl⟩ : ∃ nl, Hid ((ns.map Value.string).length = nl) := ⟨_, rfl⟩
      obtain ⟨ml, hml⟩ : ∃ ml, Hid ((ms.map Value.bool).length = ml) := ⟨_, rfl⟩
      rw [hnl.out, hml.out]
      clear ih hm hB hn hl hc hq hn1 hn2 hnm hnv hln hsm hmv hlm hnl hml
      go_enter Tryz.func20, Tryz.ntmps20
      go_wp2_with fail
      refine range_named fun A2 W2 hA2 hW2 => ?_
      have hu0 : Hid (Up w W2) := by subst hW2; exact uq
      obtain ⟨q, hq⟩ : ∃ q, Hid (w.heap.size = q) := ⟨_, rfl⟩
      have HQ : Hid (W2.heap[q]? = some (.cells #[.int .i64 k, .int .i64 n, .string nm, .slice pa ps.length cap, .slice na nl ncap, .slice ma ml mcap] RefT (0, 0))) := by subst hW2; rw [← hq.out]; exact alloc_at _ _ _ rfl
      rw [hq.out] at hA2
      clear hW2
      subst hA2
      go_loopw [3, 4] (fun v i wr => ∃ (j r : Nat), j ≤ ps.length ∧ i = .int .i64 j ∧ v = .int .i64 r ∧ Hid (r ≤ 1 + sumN (ps.take j) ∧ (r ≤ 500 → r = 1 + sumN (ps.take j))) ∧ Up W2 wr) (fun _ i _ => ps.length - (intOf i).toNat)
      case atStart => exact ⟨0, 1, Nat.zero_le _, rfl, rfl, ⟨by simp [sumN], fun _ => by simp [sumN]⟩, Up.refl _⟩
      case round =>
        obtain ⟨j, r, hj, rfl, rfl, hX, hup2⟩ := hrel
        have HU := Lib.hid (hu0.out.trans hup2)
        have HQr := Lib.hid (hup2.get HQ.out)
        have x3 := cell_of HQr.out 3
        have xl := lt_of_heap HQr.out
        simp only [List.getElem?_toArray, List.getElem?_cons_zero, List.getElem?_cons_succ] at x3
        by_cases hlt : j < ps.length
        · have hji : (j : Int) < ps.length := by omega
          by_cases h5 : r ≤ 500
          · have h5i : (r : Int) ≤ 500 := by omega
            obtain ⟨p, b, off, u0, u1, u2, u3, u4, u5, hp, rfl, hb, c0, c1, c2, c3, c4, c5, ht⟩ := HP.out j hlt
            have hbw := Nat.lt_of_lt_of_le hb HB.out.1
            have c0 := (HU.out.cells _ _ hbw).trans c0
            have c1 := (HU.out.cells _ _ hbw).trans c1
            have c2 := (HU.out.cells _ _ hbw).trans c2
            have c3 := (HU.out.cells _ _ hbw).trans c3
            have c4 := (HU.out.cells _ _ hbw).trans c4
            have c5 := (HU.out.cells _ _ hbw).trans c5
            have hbl := Nat.lt_of_lt_of_le hbw HU.out.size
            have hpn : Hid (sumN (ps.take (j + 1)) = sumN (ps.take j) + p.nodes ∧ sumN (ps.take (j + 1)) ≤ sumN ps) := ⟨sumN_next hp, sumN_take _ _⟩
            have HT := Lib.hid (fun W (hW : Up w W) => IH.out p [u0, u1, u2, u3, u4, u5] W (by have := hpn.out; have := HB.out; have := hsum.out; omega) (ht.low (hW.below HB.out.1)) (Nat.le_trans HB.out.1 hW.size) (by have := hpn.out; have := HB.out; have := hsum.out; omega))
            clear hp ht hlt
            go_wp2_with (first | (go_at_call 20; refine (HT.out _ (HU.out.trans (show Up wr _ from uq))).mono ?_; rintro e w2 ⟨r2, rfl, hr1, hr2, hu2⟩; have HR := Lib.hid (And.intro hr1 hr2); have hr3 : (r2 : Int) ≤ 2000000 := (by have := hpn.out; have := HB.out; have := hsum.out; omega); clear hr1 hr2))
            exact ⟨⟨j + 1, r + r2, by omega, by simp, by simp, ⟨by have := hpn.out; have := HR.out; have := hX.out; omega, fun h => by have := hpn.out; have := HR.out; have := hX.out; omega⟩, uq⟩, by simp [intOf]; omega⟩
          · have h5i : ¬ (r : Int) ≤ 500 := by omega
            have HX := Lib.hid (And.intro hX h5)
            clear hX hlt
            go_wp2_with fail
            go_ret
            exact ⟨r, rfl, by have := HX.out.1.out; have := sumN_take ps j; have := hsum.out; omega, fun h => absurd h HX.out.2, HU.out.trans uq⟩
        · obtain rfl : j = ps.length := by omega
          have HX : Hid (r ≤ 1 + sumN ps ∧ (r ≤ 500 → r = 1 + sumN ps)) := by have := hX.out; rw [List.take_length] at this; exact this
          clear hX hlt
          go_wp2_with fail
          all_goals go_ret
          all_goals exact ⟨r, rfl, by have := HX.out; have := hsum.out; omega, fun h => by have := HX.out; have := hsum.out; omega, HU.out.trans uq⟩

set_option maxHeartbeats 800000 in
theorem large_any (B : Nat) (t : Ty) (us : List Value) (w : World) (h : TIs B w us t) (hB : B ≤ w.heap.size) (hn : t.nodes ≤ 2000000) : Calls Tryz.prog 5 #[.agg us.toArray] w fun e w' => ∃ b : Bool, e = .returned (.bool b) ∧ (b = false → t.nodes ≤ 60) ∧ Up w w' := by
  obtain ⟨u0, u1, u2, u3, u4, u5, rfl⟩ := h.six
  have HS := Lib.hid (fun W (hW : Up w W) => Size_any B _ t _ W (Nat.le_refl _) (h.low (hW.below hB)) (Nat.le_trans hB hW.size) hn)
  have HN := Lib.hid hn
  clear h hB hn
  go_enter Tryz.func5, Tryz.ntmps5
  go_wp2_with (first | (go_at_call 20; refine (HS.out _ (show Up w _ from uq)).mono ?_; rintro e w2 ⟨r, rfl, hr1, hr2, hu2⟩; have HR := Lib.hid (And.intro hr1 hr2); clear hr1 hr2))
  go_ret
  refine ⟨_, rfl, fun e => ?_, uq⟩
  have := HR.out
  simp only [decide_eq_false_iff_not] at e
  omega

end Go.Proofs.YtbghpkoimbmijaaGreatDoor

/- Plain law: how large a type is that was widened, or substituted in; its parameters. -/
namespace Go.Proofs.YtbghpkoimbmijaaGreatDoor
open Go.RowKit
set_option linter.unusedSimpArgs false
set_option linter.unusedVariables false

theorem basicT_nodes (k : Int) : (basicT k).nodes = 1 := by unfold basicT; rw [Ty.nodes_mk]; rfl
theorem boolT_nodes : boolT.nodes = 3 := by
  rw [boolT_eq]
  show (Ty.mk 16 0 ⟨#[]⟩ [basicT 10, basicT 9] [] []).nodes = 3
  rw [Ty.nodes_mk]
  simp [basicT_nodes]
theorem headD_nodes (ps : List Ty) : (ps.headD (basicT 3)).nodes ≤ 1 + (ps.map Ty.nodes).sum := by
  cases ps with
  | nil => simp [basicT_nodes]
  | cons p r => simp; omega
mutual
theorem widenC_nodes : ∀ t : Ty, (widenC t).nodes ≤ 3 * t.nodes
  | .mk k n nm ps ns ms => by
    have hl := widenL_nodes ps
    rw [widenC, Ty.nodes_mk]
    repeat' split
    · rw [basicT_nodes]; omega
    · rw [basicT_nodes]; omega
    · rw [boolT_nodes]; omega
    · have := headD_nodes ps; omega
    · have := unionC_nodes (widenL ps); omega
    · rw [Ty.nodes_mk]; omega
    · rw [Ty.nodes_mk]; omega
theorem widenL_nodes : ∀ ps : List Ty, ((widenL ps).map Ty.nodes).sum ≤ 3 * (ps.map Ty.nodes).sum
  | [] => by rw [widenL]; simp
  | p :: r => by
    have h1 := widenC_nodes p
    have h2 := widenL_nodes r
    rw [widenL]
    simp only [List.map_cons, List.sum_cons]
    omega
end
mutual
theorem widenC_names {M : Nat} : ∀ t : Ty, t.namesLe M → (widenC t).namesLe M
  | .mk k n nm ps ns ms, h => by
    have h' := Ty.namesLe_mk.1 h
    have hl := widenL_names ps h'.2.2
    rw [widenC]
    repeat' split
    · exact basicT_names _ _
    · exact basicT_names _ _
    · unfold boolT
      exact unionC_names fun t ht => by
        simp only [List.mem_cons, List.not_mem_nil, or_false] at ht
        rcases ht with rfl | rfl <;> exact basicT_names _ _
    · cases ps with
      | nil => exact basicT_names _ _
      | cons p r => exact h'.2.2 p (by simp)
    · exact unionC_names hl
    · exact Ty.namesLe_mk.2 ⟨h'.1, h'.2.1, hl⟩
    · exact h
theorem widenL_names {M : Nat} : ∀ ps : List Ty, (∀ p ∈ ps, p.namesLe M) → ∀ p ∈ widenL ps, p.namesLe M
  | [], _ => by rw [widenL]; intro p hp; cases hp
  | p :: r, h => by
    rw [widenL]
    intro q hq
    rcases List.mem_cons.1 hq with rfl | hq
    · exact widenC_names p (h p (by simp))
    · exact widenL_names r (fun x hx => h x (by simp [hx])) q hq
end
mutual
theorem substC_nodes {f : Int → Option Ty} (hf : ∀ n u, f n = some u → u.nodes ≤ 1) : ∀ t : Ty, (substC f t).nodes ≤ t.nodes
  | .mk k n nm ps ns ms => by
    have hl := substL_nodes hf ps
    by_cases h18 : k = 18
    · subst h18
      rw [subst_var, Ty.nodes_mk]
      cases hn : f n with
      | none => simp only [Option.getD_none]; rw [Ty.nodes_mk]; omega
      | some u => have := hf n u hn; simp only [Option.getD_some]; omega
    · by_cases h16 : k = 16
      · subst h16
        rw [subst_un, Ty.nodes_mk, ← substL_eq]
        have := unionC_nodes (substL f ps)
        omega
      · rw [subst_in h18 h16, Ty.nodes_mk, Ty.nodes_mk, ← substL_eq]
        omega
theorem substL_nodes {f : Int → Option Ty} (hf : ∀ n u, f n = some u → u.nodes ≤ 1) : ∀ ps : List Ty, ((substL f ps).map Ty.nodes).sum ≤ (ps.map Ty.nodes).sum
  | [] => by rw [substL]; simp
  | p :: r => by
    have h1 := substC_nodes hf p
    have h2 := substL_nodes hf r
    rw [substL]
    simp only [List.map_cons, List.sum_cons]
    omega
end
mutual
theorem substC_names {M : Nat} {f : Int → Option Ty} (hf : ∀ n u, f n = some u → u.namesLe M) : ∀ t : Ty, t.namesLe M → (substC f t).namesLe M
  | .mk k n nm ps ns ms, h => by
    have h' := Ty.namesLe_mk.1 h
    have hl := substL_names hf ps h'.2.2
    by_cases h18 : k = 18
    · subst h18
      rw [subst_var]
      cases hn : f n with
      | none => exact h
      | some u => exact hf n u hn
    · by_cases h16 : k = 16
      · subst h16
        rw [subst_un, ← substL_eq]
        exact unionC_names hl
      · rw [subst_in h18 h16, ← substL_eq]
        exact Ty.namesLe_mk.2 ⟨h'.1, h'.2.1, hl⟩
theorem substL_names {M : Nat} {f : Int → Option Ty} (hf : ∀ n u, f n = some u → u.namesLe M) : ∀ ps : List Ty, (∀ p ∈ ps, p.namesLe M) → ∀ p ∈ substL f ps, p.namesLe M
  | [], _ => by rw [substL]; intro p hp; cases hp
  | p :: r, h => by
    rw [substL]
    intro q hq
    rcases List.mem_cons.1 hq with rfl | hq
    · exact substC_names hf p (h p (by simp))
    · exact substL_names hf r (fun x hx => h x (by simp [hx])) q hq
end

theorem Ty.varsOk_mk {P : Int → ByteArray → Prop} {k n : Int} {nm : ByteArray} {ps : List Ty} {ns : List ByteArray} {ms : List Bool} : (Ty.mk k n nm ps ns ms).varsOk P ↔ (k = 18 → P n nm) ∧ ∀ p ∈ ps, p.varsOk P := by
  rw [Ty.varsOk]
  constructor
  · exact fun h => ⟨h.1, Ty.varsOkL_mem h.2⟩
  · refine fun h => ⟨h.1, ?_⟩
    have key : ∀ l : List Ty, (∀ p ∈ l, p.varsOk P) → Ty.varsOkL P l := by
      intro l
      induction l with
      | nil => intro _; rw [Ty.varsOkL]; trivial
      | cons p r ih => intro h; rw [Ty.varsOkL]; exact ⟨h p (by simp), ih fun q hq => h q (by simp [hq])⟩
    exact key ps h.2
mutual
theorem Ty.varsOk_canon {P : Int → ByteArray → Prop} : ∀ t : Ty, t.canon.varsOk P ↔ t.varsOk P
  | .mk k n nm ps ns ms => by
    have hl := Ty.varsOkL_canons (P := P) ps
    rw [Ty.canon, Ty.varsOk, Ty.varsOk, hl]
    by_cases hk : k = 20
    · constructor
      · exact fun h => ⟨fun e => by omega, h.2⟩
      · exact fun h => ⟨fun e => by omega, h.2⟩
    · rw [if_neg hk]
theorem Ty.varsOkL_canons {P : Int → ByteArray → Prop} : ∀ ps : List Ty, Ty.varsOkL P (Ty.canons ps) ↔ Ty.varsOkL P ps
  | [] => by rw [Ty.canons]
  | p :: r => by rw [Ty.canons, Ty.varsOkL, Ty.varsOkL, Ty.varsOk_canon p, Ty.varsOkL_canons r]
end
theorem basicT_vars (P : Int → ByteArray → Prop) {k : Int} (hk : k ≠ 18) : (basicT k).varsOk P := Ty.varsOk_mk.2 ⟨fun e => absurd e hk, fun p hp => by cases hp⟩
theorem flat_vars {P : Int → ByteArray → Prop} {t : Ty} (h : t.varsOk P) : ∀ p ∈ t.flat, p.varsOk P := by
  intro p hp
  unfold Ty.flat at hp
  split at hp
  · cases t with
    | mk k n nm ps ns ms => exact (Ty.varsOk_mk.1 h).2 p hp
  · rw [List.mem_singleton.1 hp]; exact h
theorem unionC_vars {P : Int → ByteArray → Prop} {l : List Ty} (h : ∀ t ∈ l, t.varsOk P) : (unionC l).varsOk P := by
  unfold unionC
  rcases unionF_cases (l.flatMap Ty.flat) with ⟨_, e⟩ | ⟨_, _, e⟩ | ⟨_, _, e⟩
  · rw [e]; exact basicT_vars _ (by decide)
  · rw [e]; exact basicT_vars _ (by decide)
  · rw [e]
    have hm : ∀ z ∈ sortU (restU (l.flatMap Ty.flat)), z.varsOk P := fun z hz => by
      have h1 := (restU_mem.1 (sortU_sub _ z hz)).1
      obtain ⟨t, ht, hzt⟩ := List.mem_flatMap.1 h1
      exact flat_vars (h t ht) z hzt
    rcases wrapU_cases (sortU (restU (l.flatMap Ty.flat))) with ⟨_, e2⟩ | ⟨x, e1, e2⟩ | ⟨_, e2⟩
    · rw [e2]; exact basicT_vars _ (by decide)
    · rw [e2]; exact hm x (by rw [e1]; simp)
    · rw [e2]
      exact Ty.varsOk_mk.2 ⟨fun e => absurd e (by decide), hm⟩

end Go.Proofs.YtbghpkoimbmijaaGreatDoor
