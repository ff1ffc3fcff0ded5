import Derived.Test.YtmbipadiaggolaaGreatDoorCards
import Derived.Test.YtmbipadiaggolaaGreatDoorTie
import Derived.WalkKit
import Derived.ProofKit
import Derived.OpenShut
import Derived.ShutString
import Derived.ChangeOld
import Derived.Below
import Derived.SliceStrings
import Derived.Deep.DeepHandedRow
import Derived.Lib.LaidTab
import Derived.LaidSub
import Derived.SizedLaws
import Derived.Test.YtmbipadiaggolaaGreatDoorM40
import Derived.Test.YtmbipadiaggolaaGreatDoorM18
/- YtmbipadiaggolaaGreatDoorM43: lemmas of the proof, in order: Laid, OpenS. -/
/- What the cards of this seat share: a world for the witness. -/
namespace Go.Proofs.YtmbipadiaggolaaGreatDoor
open Go.ChangeShapes Go.WideShapes Go.ChangeAt Go.RowKit
set_option maxRecDepth 100000

theorem own_knob : ownKnob Tryz.prog.godebug = none := by kernel_rfl
theorem laid_out : laidOutB Tryz.prog = true := by kernel_rfl

def datCells {H : Type} : DataW H → Array Value
  | .agg l => (l.map fun d => match d with | .lit (.int k n) => Value.int k n | _ => .nilIface).toArray
  | _ => #[]

def layDat (d : DataW Unit) : Obj → Obj
  | .cells _ t frozen => .cells (datCells d) t frozen
  | o => o

/-- the settled world, the three tables as their initialisers lay them -/
noncomputable def laidWorld (os : Os) : World :=
  { World.holding Tryz.prog os ⟨#[], #[], []⟩ with heap := (((World.holding Tryz.prog os ⟨#[], #[], []⟩).heap.modify 0 (layDat Rows.laid_internal_strconv_uint64pow10)).modify 1 (layDat Rows.laid_math_bits_deBruijn32tab)).modify 2 (layDat Rows.laid_math_bits_deBruijn64tab) }

/-- WHAT THE WALK IS TOLD OF A SLICE OF INTEGERS THAT CAME IN -/
def IsRow (k : IntKind) (w : World) (a : Option Addr) (len cap : Nat) (zs : List Int) : Prop :=
  (a = none ∧ len = 0 ∧ cap = 0 ∧ zs = []) ∨
  ∃ x, a = some x ∧ len ≤ cap ∧ cap ≤ maxLen ∧ zs.length = cap ∧ (∀ i, i < zs.length → w.cell? (x.add i) = some (.int k (zs.getD i 0))) ∧ ∀ n ∈ zs, (Lit.int k n).wf = true

theorem IsRow.cells {k : IntKind} {w : World} {a : Option Addr} {len cap : Nat} {zs : List Int} (h : IsRow k w a len cap zs) : len ≤ 9223372036854775807 ∧ ∀ i, i < len → ∃ b off, a = some ⟨b, off, none⟩ ∧ w.cell? ⟨b, off + i, none⟩ = some (.int k (zs.getD i 0)) := by
  rcases h with ⟨rfl, rfl, rfl, rfl⟩ | ⟨x, rfl, h1, h2, h3, h4, _⟩
  · exact ⟨by omega, fun i hi => by omega⟩
  · refine ⟨by unfold maxLen at h2; omega, fun i hi => ?_⟩
    obtain ⟨b, off, rfl, hc⟩ := ints_at h4 (by omega)
    exact ⟨b, off, rfl, hc i (by omega)⟩

/-- of a slice of texts -/
def IsTexts (w : World) (a : Option Addr) (len cap : Nat) (ss : List ByteArray) : Prop :=
  (a = none ∧ len = 0 ∧ cap = 0 ∧ ss = []) ∨
  ∃ x, a = some x ∧ len ≤ cap ∧ cap ≤ maxLen ∧ ss.length = cap ∧ (∀ i, i < ss.length → w.cell? (x.add i) = some (.string (ss.getD i ByteArray.empty))) ∧ ∀ s ∈ ss, s.size ≤ maxLen

theorem IsTexts.cells {w : World} {a : Option Addr} {len cap : Nat} {ss : List ByteArray} (h : IsTexts w a len cap ss) : len ≤ 9223372036854775807 ∧ ∀ i, i < len → ∃ b off, a = some ⟨b, off, none⟩ ∧ w.cell? ⟨b, off + i, none⟩ = some (.string (ss.getD i ByteArray.empty)) ∧ (ss.getD i ByteArray.empty).size ≤ 9223372036854775807 := by
  rcases h with ⟨rfl, rfl, rfl, rfl⟩ | ⟨x, rfl, h1, h2, h3, h4, h5⟩
  · exact ⟨by omega, fun i hi => by omega⟩
  · refine ⟨by unfold maxLen at h2; omega, fun i hi => ?_⟩
    obtain ⟨b, off, spot⟩ := x
    have hspot : spot = none := by simpa [Addr.add] using World.cell?_spot (h4 0 (by omega))
    subst hspot
    refine ⟨b, off, rfl, by rw [← Go.WideShapes.add_plain]; exact h4 i (by omega), ?_⟩
    have hm : ss.getD i ByteArray.empty ∈ ss := by
      rw [List.getD, List.getElem?_eq_getElem (by omega)]
      exact List.getElem_mem (by omega)
    have := h5 _ hm
    unfold maxLen at this
    omega

end Go.Proofs.YtmbipadiaggolaaGreatDoor

/- How a script comes in: a slice of steps read out of the memory; the tables. -/
namespace Go.Proofs.YtmbipadiaggolaaGreatDoor
open Go.ChangeShapes Go.WideShapes Go.ChangeAt Go.RowKit
set_option linter.unusedVariables false
set_option maxRecDepth 100000

theorem cellsI : Tryz.prog.cellsOf 3 = 1 := by kernel_rfl
theorem cellsS : Tryz.prog.cellsOf 9 = 1 := by kernel_rfl
theorem cellsV : Tryz.prog.cellsOf 34 = 3 := by kernel_rfl
theorem cellsStep : Tryz.prog.cellsOf 36 = 13 := by kernel_rfl

/-- the tables, of the rows' own condition -/
theorem tab_of {W : World} (h : laidMetH Tryz.prog Rows.heapPlaysRow.laid W) : Tab W := by
  have h1 := (laidMetH_iff.1 h).1
  have h2 := h1.filter (fun x => x.1 == "internal/strconv.uint64pow10")
  exact Lib.tabIs_of_head (g := 0) (rest := []) (by kernel_rfl) (by kernel_rfl) Tryz.underlying159 Tryz.underlying153 (by kernel_rfl) (by kernel_rfl) (show laidMet Tryz.prog [("internal/strconv.uint64pow10", Lib.tabData .u64 Lib.pow10Tab)] W from h2)
def bruTab : List Int := [0, 1, 56, 2, 57, 49, 28, 3, 61, 58, 42, 50, 38, 29, 17, 4, 62, 47, 59, 36, 45, 43, 51, 22, 53, 39, 33, 30, 24, 18, 12, 5, 63, 55, 48, 27, 60, 41, 37, 16, 46, 35, 44, 21, 52, 32, 23, 11, 54, 26, 40, 15, 34, 20, 31, 10, 25, 14, 19, 9, 13, 8, 7, 6]
theorem bru_of {W : World} (h : laidMetH Tryz.prog Rows.heapPlaysRow.laid W) : Bru W := by
  have h1 := (laidMetH_iff.1 h).1
  have h2 := h1.filter (fun x => x.1 == "math/bits.deBruijn64tab")
  have h3 : Lib.TabIs Tryz.prog W "math/bits.deBruijn64tab" .u8 bruTab := Lib.tabIs_of_head (g := 2) (rest := []) (by kernel_rfl) (by kernel_rfl) Tryz.underlying164 Tryz.underlying5 (by kernel_rfl) (by kernel_rfl) (show laidMet Tryz.prog [("math/bits.deBruijn64tab", Lib.tabData .u8 bruTab)] W from h2)
  exact h3.cell (g := 2) (by kernel_rfl) 15 (by decide)

section
variable {H : Type} {enc : TypeId × Value → H}
/-- a value among the cells of a step -/
theorem open_val {W : World} {sp : Nat → Bool} {n : Nat} {c0 c1 c2 : Value} {y : DataW H × List MemPlace} (h : DataW.trod enc Tryz.prog W 0 sp true n 34 [c0, c1, c2] = some y) :
    ∃ v : Val, c0 = .int .i64 v.k ∧ c1 = .int .i64 v.n ∧ c2 = .string v.s ∧ y.1 = .agg [.lit (.int .i64 v.k), .lit (.int .i64 v.n), .lit (.string v.s.data.toList)] := by
  obtain ⟨xs, m, rfl, hx, _, hxl, hf⟩ := DataW.trod_struct Tryz.underlying34 h
  match xs, hxl with
  | [x0, x1, x2], _ =>
    have f0 : DataW.trod enc Tryz.prog W 0 sp true m 3 ((([c0, c1, c2] : List Value).drop 0).take (Tryz.prog.cellsOf 3)) = some x0 := hf 0 _ rfl
    rw [cellsI] at f0
    have f1 : DataW.trod enc Tryz.prog W 0 sp true m 3 ((([c0, c1, c2] : List Value).drop 1).take (Tryz.prog.cellsOf 3)) = some x1 := hf 1 _ rfl
    rw [cellsI] at f1
    have f2 : DataW.trod enc Tryz.prog W 0 sp true m 9 ((([c0, c1, c2] : List Value).drop 2).take (Tryz.prog.cellsOf 9)) = some x2 := hf 2 _ rfl
    rw [cellsS] at f2
    simp only [List.drop, List.take] at f0 f1 f2
    obtain ⟨k, e0, rfl, _⟩ := DataW.trod_int Tryz.underlying3 f0
    obtain ⟨n, e1, rfl, _⟩ := DataW.trod_int Tryz.underlying3 f1
    obtain ⟨s, e2, rfl, _⟩ := DataW.trod_string Tryz.underlying9 f2
    simp only [List.cons.injEq, and_true] at e0 e1 e2
    exact ⟨⟨k, n, s⟩, e0, e1, e2, by rw [hx]; rfl⟩

/-- a step that came in -/
theorem open_step {W : World} {sp : Nat → Bool} {n : Nat} {cs : Array Value} {y : DataW H × List MemPlace} (hs : cs.size = 13) (h : DataW.trod enc Tryz.prog W 0 sp true n 36 cs.toList = some y) :
    ∃ (K N M : Int) (v x z : Val) (key : ByteArray), cs = stepCells K N M v x z key ∧
      y.1 = .agg [.lit (.int .i64 K), .lit (.int .i64 N), .lit (.int .i64 M), .agg [.lit (.int .i64 v.k), .lit (.int .i64 v.n), .lit (.string v.s.data.toList)], .agg [.lit (.int .i64 x.k), .lit (.int .i64 x.n), .lit (.string x.s.data.toList)], .agg [.lit (.int .i64 z.k), .lit (.int .i64 z.n), .lit (.string z.s.data.toList)], .lit (.string key.data.toList)] := by
  obtain ⟨xs, m, rfl, hx, _, hxl, hf⟩ := DataW.trod_struct Tryz.underlying36 h
  obtain ⟨cs⟩ := cs
  match cs, hs, xs, hxl with
  | [c0, c1, c2, c3, c4, c5, c6, c7, c8, c9, c10, c11, c12], _, [x0, x1, x2, x3, x4, x5, x6], _ =>
    have f0 : DataW.trod enc Tryz.prog W 0 sp true m 3 ((([c0, c1, c2, c3, c4, c5, c6, c7, c8, c9, c10, c11, c12] : List Value).drop 0).take (Tryz.prog.cellsOf 3)) = some x0 := hf 0 _ rfl
    rw [cellsI] at f0
    have f1 : DataW.trod enc Tryz.prog W 0 sp true m 3 ((([c0, c1, c2, c3, c4, c5, c6, c7, c8, c9, c10, c11, c12] : List Value).drop 1).take (Tryz.prog.cellsOf 3)) = some x1 := hf 1 _ rfl
    rw [cellsI] at f1
    have f2 : DataW.trod enc Tryz.prog W 0 sp true m 3 ((([c0, c1, c2, c3, c4, c5, c6, c7, c8, c9, c10, c11, c12] : List Value).drop 2).take (Tryz.prog.cellsOf 3)) = some x2 := hf 2 _ rfl
    rw [cellsI] at f2
    have f3 : DataW.trod enc Tryz.prog W 0 sp true m 34 ((([c0, c1, c2, c3, c4, c5, c6, c7, c8, c9, c10, c11, c12] : List Value).drop 3).take (Tryz.prog.cellsOf 34)) = some x3 := hf 3 _ rfl
    rw [cellsV] at f3
    have f4 : DataW.trod enc Tryz.prog W 0 sp true m 34 ((([c0, c1, c2, c3, c4, c5, c6, c7, c8, c9, c10, c11, c12] : List Value).drop 6).take (Tryz.prog.cellsOf 34)) = some x4 := hf 4 _ rfl
    rw [cellsV] at f4
    have f5 : DataW.trod enc Tryz.prog W 0 sp true m 34 ((([c0, c1, c2, c3, c4, c5, c6, c7, c8, c9, c10, c11, c12] : List Value).drop 9).take (Tryz.prog.cellsOf 34)) = some x5 := hf 5 _ rfl
    rw [cellsV] at f5
    have f6 : DataW.trod enc Tryz.prog W 0 sp true m 9 ((([c0, c1, c2, c3, c4, c5, c6, c7, c8, c9, c10, c11, c12] : List Value).drop 12).take (Tryz.prog.cellsOf 9)) = some x6 := hf 6 _ rfl
    rw [cellsS] at f6
    simp only [List.drop, List.take] at f0 f1 f2 f3 f4 f5 f6
    obtain ⟨K, e0, rfl, _⟩ := DataW.trod_int Tryz.underlying3 f0
    obtain ⟨N, e1, rfl, _⟩ := DataW.trod_int Tryz.underlying3 f1
    obtain ⟨M, e2, rfl, _⟩ := DataW.trod_int Tryz.underlying3 f2
    obtain ⟨v, a0, a1, a2, a3⟩ := open_val f3
    obtain ⟨x, b0, b1, b2, b3⟩ := open_val f4
    obtain ⟨z, d0, d1, d2, d3⟩ := open_val f5
    obtain ⟨key, e6, rfl, _⟩ := DataW.trod_string Tryz.underlying9 f6
    simp only [List.cons.injEq, and_true] at e0 e1 e2 e6
    subst e0 e1 e2 e6 a0 a1 a2 b0 b1 b2 d0 d1 d2
    exact ⟨K, N, M, v, x, z, key, rfl, by rw [hx]; simp only [List.map_cons, List.map_nil, a3, b3, d3]⟩
end


/-- each text of a step is within reach -/
theorem step_core {H : Type} {a b c v0 v1 x0 x1 z0 z1 : DataW H} {vs xs zs key : List UInt8}
    (hs : ∀ n ∈ DataW.weights Tryz.prog 36 (.agg [a, b, c, .agg [v0, v1, .lit (.string vs)], .agg [x0, x1, .lit (.string xs)], .agg [z0, z1, .lit (.string zs)], .lit (.string key)] : DataW H), n ≤ reachBytes) :
    key.length ≤ 140737488351232 ∧ vs.length ≤ 140737488351232 ∧ xs.length ≤ 140737488351232 ∧ zs.length ≤ 140737488351232 := by
  simp only [DataW.weights, Tryz.underlying36, Tryz.underlying34, DataW.weightsEach, List.map_cons, List.map_nil, List.mem_append, List.mem_cons, List.not_mem_nil, or_false, reachBytes] at hs
  refine ⟨hs _ ?_, hs _ ?_, hs _ ?_, hs _ ?_⟩
  all_goals simp

theorem weights_all {H : Type} {P : Program} {e : TypeId} : ∀ {l : List (DataW H)} {d : DataW H}, d ∈ l → ∀ n ∈ d.weights P e, n ∈ DataW.weightsAll P e l
  | d0 :: l, d, hd, n, hn => by
    simp only [DataW.weightsAll, List.mem_append]
    rcases List.mem_cons.1 hd with rfl | hd
    · exact .inl hn
    · exact .inr (weights_all hd n hn)

theorem choose_list {α : Type} {P : Nat → α → Prop} : ∀ n : Nat, (∀ i, i < n → ∃ s, P i s) → ∃ l : List α, l.length = n ∧ ∀ i s, l[i]? = some s → P i s
  | 0, _ => ⟨[], rfl, fun i s h => by simp at h⟩
  | n + 1, h => by
    obtain ⟨l, hl, hp⟩ := choose_list n fun i hi => h i (by omega)
    obtain ⟨s, hs⟩ := h n (by omega)
    refine ⟨l ++ [s], by simp [hl], fun i u hu => ?_⟩
    rcases Nat.lt_or_ge i l.length with hi | hi
    · rw [List.getElem?_append_left hi] at hu
      exact hp i u hu
    · rw [List.getElem?_append_right hi] at hu
      have e : i = n := by
        have := (List.getElem?_eq_some_iff.1 hu).1
        simp at this
        omega
      subst e
      rw [hl, Nat.sub_self] at hu
      simp at hu
      subst hu
      exact hs

/-- a script that came in -/
theorem open_steps {H : Type} {enc : TypeId × Value → H} {W : World} {sp : Nat → Bool} {fuel : Nat} {a : Option Addr} {len cap : Nat} {x : DataW H × List MemPlace} (h : DataW.trod enc Tryz.prog W 0 sp true fuel 22 [.slice a len cap] = some x)
    (hsz : ∀ n ∈ DataW.weights Tryz.prog 22 x.1, n ≤ reachBytes) : ∃ ss, IsSteps W a len ss := by
  rcases DataW.trod_slice Tryz.underlying22 h with ⟨hcs, _⟩ | ⟨a0, len0, cap0, elems, rest, n, _, hcs, rfl, _, hl, hm, hlen, hel, _, _⟩
  · simp at hcs
    obtain ⟨rfl, rfl, rfl⟩ := hcs
    exact ⟨[], rfl, by omega, fun i s hs => by simp at hs, fun s hs => by simp at hs⟩
  · simp only [List.cons.injEq, Value.slice.injEq, and_true] at hcs
    obtain ⟨rfl, rfl, rfl⟩ := hcs
    have spot0 : 0 < len → ∃ b off, a0 = ⟨b, off, none⟩ := fun h0 => by
      obtain ⟨y, hy⟩ : ∃ y, elems[0]? = some y := ⟨_, List.getElem?_eq_getElem (by omega)⟩
      have h1 := hel 0 h0
      rw [hy, Option.bind_eq_some_iff] at h1
      obtain ⟨cs, hcs, hty⟩ := h1
      rw [cellsStep] at hcs
      obtain ⟨_, hcl, hcell⟩ := World.cells?_some hcs
      obtain ⟨b, off, spot⟩ := a0
      have h2 := hcell 0 (by omega)
      rw [List.getElem?_eq_getElem (by omega)] at h2
      have hspot : spot = none := by simpa [Addr.add] using World.cell?_spot h2
      subst hspot
      exact ⟨b, off, rfl⟩
    have key : ∀ i, i < len → ∃ s : StepM, (∃ b off, a0 = ⟨b, off, none⟩ ∧ b < W.heap.size ∧ ∀ (j : Nat) (u : Value), s.arr[j]? = some u → W.cell? ⟨b, off + i * 13 + j, none⟩ = some u) ∧ s.key.size ≤ 140737488351232 ∧ s.v.s.size ≤ 140737488351232 ∧ s.x.s.size ≤ 140737488351232 ∧ s.z.s.size ≤ 140737488351232 := by
      intro i hi
      obtain ⟨y, hy⟩ : ∃ y, elems[i]? = some y := ⟨_, List.getElem?_eq_getElem (by omega)⟩
      have h1 := hel i hi
      rw [hy, Option.bind_eq_some_iff] at h1
      obtain ⟨cs, hcs, hty⟩ := h1
      rw [cellsStep] at hcs
      obtain ⟨_, hcl, hcell⟩ := World.cells?_some hcs
      have hblk := World.cells?_block hcs (by omega)
      obtain ⟨K, N, M, v, x, z, key, he, hd⟩ := open_step (cs := cs.toArray) (by simpa using hcl) (by simpa using hty)
      have hcs2 : cs = (stepCells K N M v x z key).toList := by rw [← he]
      obtain ⟨b, off, rfl⟩ := spot0 (by omega)
      rw [Go.WideShapes.add_plain] at hblk
      refine ⟨⟨K, N, M, v, x, z, key⟩, ⟨b, off, rfl, hblk, fun j u hu => ?_⟩, ?_⟩
      · have hj : j < 13 := by
          have h3 := (Array.getElem?_eq_some_iff.1 hu).1
          simpa using h3
        have h2 := hcell j hj
        rw [Go.WideShapes.add_plain, Go.WideShapes.add_plain] at h2
        rw [h2, hcs2]
        simpa using hu
      · have hw : ∀ n ∈ DataW.weights Tryz.prog 36 y.1, n ≤ reachBytes := fun n hn => hsz n (by
          simp only [DataW.weights, Tryz.underlying22, List.mem_cons, List.mem_append]
          exact .inr (.inl (weights_all (List.mem_map.2 ⟨y, List.mem_of_getElem? hy, rfl⟩) n hn)))
        rw [hd] at hw
        obtain ⟨s1, s2, s3, s4⟩ := step_core hw
        exact ⟨by simpa using s1, by simpa using s2, by simpa using s3, by simpa using s4⟩
    obtain ⟨ss, hs1, hs2⟩ := choose_list len key
    refine ⟨ss, hs1, by unfold maxLen at hm; omega, fun i s hs => ?_, fun s hs => ?_⟩
    · obtain ⟨⟨b, off, rfl, h2, h3⟩, _⟩ := hs2 i s hs
      exact ⟨b, off, rfl, h2, h3⟩
    · obtain ⟨i, hi⟩ := List.getElem?_of_mem hs
      exact (hs2 i s hi).2

end Go.Proofs.YtmbipadiaggolaaGreatDoor
