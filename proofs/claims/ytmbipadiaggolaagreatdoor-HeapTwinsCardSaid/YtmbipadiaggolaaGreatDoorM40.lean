import Derived.Shelf.Utf8.AppendRunePlain
import Derived.Test.YtmbipadiaggolaaGreatDoorProg
import Derived.Lib.OthersKept
import Derived.Lib.OwnKind
import Derived.Lib.RuneBytes
import Derived.Test.YtmbipadiaggolaaGreatDoorM38
import Derived.Test.YtmbipadiaggolaaGreatDoorM36
import Derived.Test.YtmbipadiaggolaaGreatDoorM39
import Derived.Test.YtmbipadiaggolaaGreatDoorM37
import Derived.Test.YtmbipadiaggolaaGreatDoorM12
import Derived.Test.YtmbipadiaggolaaGreatDoorM19
/- YtmbipadiaggolaaGreatDoorM40: lemmas of the proof, in order: Script, Steps, RuneL, BuiP, RunB. -/
/- Scripts: a list of steps, how it came in; how heavy it is. -/
namespace Go.Proofs.YtmbipadiaggolaaGreatDoor
open Go.RowKit
set_option linter.unusedSimpArgs false

structure StepM where
  K : Int
  N : Int
  M : Int
  v : Val
  x : Val
  z : Val
  key : ByteArray
abbrev StepM.arr (s : StepM) : Array Value := stepCells s.K s.N s.M s.v s.x s.z s.key
def StepM.weight (s : StepM) : Nat := s.key.size + s.v.s.size + s.x.s.size + s.z.s.size
def heavyL : Nat → List StepM → Bool
  | _, [] => false
  | n, s :: l => if 8000 < n + s.weight then true else heavyL (n + s.weight) l
/-- is a script more than is looked at? -/
def heavyS (l : List StepM) : Bool := heavyL 0 (l.take 100)

theorem heavyL_short : ∀ (l : List StepM) (n : Nat), heavyL n l = false → ∀ s ∈ l, s.weight ≤ 8000
  | [], _, _, s, hs => by cases hs
  | y :: l, n, h, s, hs => by
    unfold heavyL at h
    split at h
    · cases h
    · rcases List.mem_cons.1 hs with rfl | hs
      · omega
      · exact heavyL_short l _ h s hs

/-- how a script came in -/
structure IsSteps (w : World) (a : Option Addr) (len : Nat) (ss : List StepM) : Prop where
  num : ss.length = len
  few : len ≤ 9223372036854775807
  at_ : ∀ (i : Nat) (s : StepM), ss[i]? = some s → ∃ b off, a = some ⟨b, off, none⟩ ∧ b < w.heap.size ∧ ∀ (j : Nat) (u : Value), s.arr[j]? = some u → w.cell? ⟨b, off + i * 13 + j, none⟩ = some u
  short : ∀ s ∈ ss, s.key.size ≤ 140737488351232 ∧ s.v.s.size ≤ 140737488351232 ∧ s.x.s.size ≤ 140737488351232 ∧ s.z.s.size ≤ 140737488351232
theorem IsSteps.up {w w' : World} {a : Option Addr} {len : Nat} {ss : List StepM} (h : IsSteps w a len ss) (k : Up w w') : IsSteps w' a len ss :=
  ⟨h.num, h.few, fun i s hs => let ⟨b, off, h1, h2, h3⟩ := h.at_ i s hs; ⟨b, off, h1, Nat.lt_of_lt_of_le h2 k.size, fun j u hu => (k.cells b _ h2).trans (h3 j u hu)⟩, h.short⟩

set_option maxRecDepth 100000 in
set_option maxHeartbeats 3200000 in
theorem heavy_any (a : Option Addr) (len cap : Nat) (ss : List StepM) (w : World) (h : IsSteps w a len ss) : Calls Tryz.prog 6 #[.slice a len cap] w fun e w' => e = .returned (.bool (heavyS ss)) ∧ Up w w' := by
  have HI := Lib.hid h
  have hfew : (len : Int) ≤ 9223372036854775807 := by have := h.few; omega
  clear h
  obtain ⟨tot, htot⟩ : ∃ tot, Hid (heavyL 0 (ss.take 100) = tot) := ⟨_, rfl⟩
  unfold heavyS
  rw [htot.out]
  go_enter Tryz.func6, Tryz.ntmps6
  go_wp2_with fail
  go_loopw [3, 4] (fun n i wr => ∃ (j acc : Nat), j ≤ len ∧ j ≤ 100 ∧ i = .int .i64 j ∧ n = .int .i64 acc ∧ acc ≤ 8000 ∧ Hid (heavyL acc ((ss.take 100).drop j) = tot) ∧ Up w wr) (fun _ i _ => len - (intOf i).toNat)
  case atStart => exact ⟨0, 0, Nat.zero_le _, by omega, rfl, rfl, by omega, by unfold Hid; rw [List.drop_zero]; exact htot.out, Up.refl _⟩
  case round =>
    obtain ⟨j, acc, hj, hj100, rfl, rfl, hac, hq, hup⟩ := hrel
    have hl := HI.out.num
    by_cases hlt : j < len
    · have hji : (j : Int) < len := by omega
      by_cases h100 : j < 100
      · have h100i : (j : Int) < 100 := by omega
        have hjl : j < ss.length := by omega
        obtain ⟨s, hs⟩ : ∃ s, ss[j]? = some s := ⟨_, List.getElem?_eq_getElem hjl⟩
        obtain ⟨b, off, rfl, hb, hc⟩ := HI.out.at_ j s hs
        obtain ⟨z1, z2, z3, z4⟩ := HI.out.short s (List.mem_of_getElem? hs)
        have hcons : (ss.take 100).drop j = s :: (ss.take 100).drop (j + 1) := by
          have hj2 : j < (ss.take 100).length := by rw [List.length_take]; omega
          rw [List.drop_eq_getElem_cons hj2]
          have e : (ss.take 100)[j] = s := by
            rw [List.getElem_take]
            exact (List.getElem?_eq_some_iff.1 hs).2
          rw [e]
        have y5 := (hup.cells b _ hb).trans (hc 5 _ rfl)
        have y8 := (hup.cells b _ hb).trans (hc 8 _ rfl)
        have y11 := (hup.cells b _ hb).trans (hc 11 _ rfl)
        have y12 := (hup.cells b _ hb).trans (hc 12 _ rfl)
        have hnext := hq.out
        rw [hcons] at hnext
        unfold heavyL at hnext
        have HQ := Lib.hid hnext
        have hwt : s.weight = s.key.size + s.v.s.size + s.x.s.size + s.z.s.size := rfl
        have i1 : (s.key.size : Int) ≤ 140737488351232 := by omega
        have i2 : (s.v.s.size : Int) ≤ 140737488351232 := by omega
        have i3 : (s.x.s.size : Int) ≤ 140737488351232 := by omega
        have i4 : (s.z.s.size : Int) ≤ 140737488351232 := by omega
        have i5 : (acc : Int) ≤ 8000 := by omega
        clear hs hc hcons hq hnext hb hlt h100 z1 z2 z3 z4
        by_cases hbig : 8000 < acc + s.weight
        · have hb2 : (8000 : Int) < (acc : Int) + s.key.size + s.v.s.size + s.x.s.size + s.z.s.size := by omega
          have he := HQ.out
          rw [if_pos hbig] at he
          subst he
          clear hbig hwt
          go_wp2_with fail
          go_quiet (fail)
          go_wp2_with fail
          refine bodyPost_eq (by (simp [results, Tryz.results6, go_sem, *]) <;> rfl) rfl rfl ?_
          exact ⟨rfl, uq⟩
        · have hb2 : ¬ (8000 : Int) < (acc : Int) + s.key.size + s.v.s.size + s.x.s.size + s.z.s.size := by omega
          have he := HQ.out
          rw [if_neg hbig] at he
          have hac2 : acc + s.weight ≤ 8000 := by omega
          have HE := Lib.hid he
          have hwi : ((acc + s.weight : Nat) : Int) = (acc : Int) + s.key.size + s.v.s.size + s.x.s.size + s.z.s.size := by omega
          clear hbig hwt he
          go_wp2_with fail
          go_quiet (fail)
          go_wp2_with fail
          go_roundw
          case rel => exact ⟨j + 1, acc + s.weight, by omega, by omega, by simp, by rw [hwi], hac2, HE.out, uq⟩
          case measure => simp [intOf]; omega
      · have h100i : ¬ (j : Int) < 100 := by omega
        have hend : tot = false := by
          rw [← hq.out, List.drop_eq_nil_of_le (by rw [List.length_take]; omega)]
          rfl
        subst hend
        clear hq hlt h100
        go_wp2_with fail
        refine bodyPost_eq (by (simp [results, Tryz.results6, go_sem, *]) <;> rfl) rfl rfl ?_
        exact ⟨rfl, uq⟩
    · obtain rfl : j = len := by omega
      have hend : tot = false := by
        rw [← hq.out, List.drop_eq_nil_of_le (by rw [List.length_take]; omega)]
        rfl
      subst hend
      clear hq hlt
      go_wp2_with fail
      refine bodyPost_eq (by (simp [results, Tryz.results6, go_sem, *]) <;> rfl) rfl rfl ?_
      exact ⟨rfl, uq⟩

end Go.Proofs.YtmbipadiaggolaaGreatDoor

/- Scripts: a list of steps, how it came in, how both heaps go through it. -/
namespace Go.Proofs.YtmbipadiaggolaaGreatDoor
open Go.RowKit
set_option linter.unusedSimpArgs false

def HM.stepM (H : HM) (s : StepM) : HM := H.step s.K s.N s.M s.v s.x s.z s.key
/-- the heap behind steps -/
def HM.plays (H : HM) (l : List StepM) : HM := l.foldl HM.stepM H
theorem plays_snoc (H : HM) (l : List StepM) (s : StepM) : H.plays (l ++ [s]) = (H.plays l).stepM s := by simp [HM.plays]
theorem plays_take (H : HM) (l : List StepM) (j : Nat) (s : StepM) (h : l[j]? = some s) : H.plays (l.take (j + 1)) = (H.plays (l.take j)).stepM s := by
  rw [List.take_add_one, h]
  exact plays_snoc _ _ _

theorem good_stepM {H : HM} (h : H.Good 8000) (s : StepM) (hs : s.weight ≤ 8000) : (H.stepM s).Good 8000 := by
  unfold StepM.weight at hs
  exact good_step h _ _ _ _ _ _ _ (by omega) (by omega) (by omega) (by omega)
theorem good_plays : ∀ (l : List StepM) {H : HM}, H.Good 8000 → (∀ s ∈ l, s.weight ≤ 8000) → (H.plays l).Good 8000
  | [], _, h, _ => h
  | s :: l, H, h, hs => by
    show ((H.stepM s).plays l).Good 8000
    exact good_plays l (good_stepM h s (hs s (by simp))) fun y hy => hs y (List.mem_cons_of_mem _ hy)

/-- a heap of the document's, new -/
theorem RRep.fresh (n : Int) (w : World) : RRep (w.alloc (.cells #[.int .i64 n, .int .i64 0, .slice none 0 0] 40)) w.heap.size ⟨n, 0, []⟩ [] (fun b => if b = w.heap.size then some (0, 0) else none) where
  lt b m hm := by
    split at hm
    · rename_i h; subst h; simp
    · cases hm
  mine := by simp
  head := ⟨.slice none 0 0, alloc_get _ _, ⟨by simp, .inl ⟨rfl, rfl⟩⟩, fun g hg => by simp [Value.ownBlock] at hg⟩
  len := rfl
  things i t ht := by simp at ht

theorem behind_none (r u : Int) : HM.Behind ⟨r, u, []⟩ := fun i t ht => by simp at ht

/-- both heaps hold a model; since then just their own blocks were written -/
def Now (W0 : World) (p0 r0 : Own) (hb rb : Nat) (H : HM) (w : World) : Prop := ∃ tvs rs o1 o2, Both w hb rb H tvs rs o1 o2 ∧ Mut2 p0 r0 o1 o2 W0 w

theorem Now.up {W0 w w' : World} {p0 r0 : Own} {hb rb : Nat} {H : HM} (h : Now W0 p0 r0 hb rb H w) (k : Up w w') : Now W0 p0 r0 hb rb H w' :=
  let ⟨tvs, rs, o1, o2, h1, h2⟩ := h
  ⟨tvs, rs, o1, o2, h1.up k, h2.trans (k.mut2 o1 o2)⟩
theorem Now.base {a W0 w : World} {p0 r0 : Own} {hb rb : Nat} {H : HM} (h : Now W0 p0 r0 hb rb H w) (k : Up a W0) (hp : ∀ b, b < a.heap.size → p0 b = none ∧ r0 b = none) : Up a w :=
  let ⟨_, _, _, _, _, h2⟩ := h
  ⟨h2.os.trans k.os, h2.tape.trans k.tape, h2.output.trans k.output, Nat.le_trans k.size h2.size, fun b hb => (h2.block b (Nat.lt_of_lt_of_le hb k.size) (hp b hb).1 (hp b hb).2).trans (k.block b hb)⟩
theorem Now.wf {W0 w : World} {p0 r0 : Own} {hb rb : Nat} {H : HM} (h : Now W0 p0 r0 hb rb H w) : H.Wf := let ⟨_, _, _, _, h1, _⟩ := h; h1.p.wf
theorem Now.stepped {W0 w w' : World} {p0 r0 : Own} {hb rb : Nat} {H' : HM} {e : Ending} {o1 o2 : Own} (h2 : Mut2 p0 r0 o1 o2 W0 w) (h : Stepped hb rb H' o1 o2 w e w') : e = .returned (.bool true) ∧ Now W0 p0 r0 hb rb H' w' :=
  let ⟨h1, tvs, rs, q1, q2, h3, h4⟩ := h
  ⟨h1, tvs, rs, q1, q2, h3, h2.trans h4⟩

def own1 (b : Nat) : Own := fun x => if x = b then some (0, 0) else none
theorem Now.fresh {w : World} (n : Int) (h0 : 0 ≤ n) (h1 : n ≤ 1048576) : Now ((w.alloc (.cells #[.int .i64 n, .int .i64 0, .slice none 0 0] 46)).alloc (.cells #[.int .i64 n, .int .i64 0, .slice none 0 0] 40)) (own1 w.heap.size) (own1 (w.heap.size + 1)) w.heap.size (w.heap.size + 1) ⟨n, 0, []⟩ ((w.alloc (.cells #[.int .i64 n, .int .i64 0, .slice none 0 0] 46)).alloc (.cells #[.int .i64 n, .int .i64 0, .slice none 0 0] 40)) := by
  refine ⟨[], [], own1 w.heap.size, own1 (w.heap.size + 1), ⟨(Rep.fresh n w h0 h1).up ((Up.refl _).alloc _), ?_, fun b hb => ?_, behind_none _ _⟩, (Up.refl _).mut2 _ _⟩
  · have h := RRep.fresh n (w.alloc (.cells #[.int .i64 n, .int .i64 0, .slice none 0 0] 46))
    rw [World.size_alloc] at h
    exact h
  · unfold own1 at hb ⊢
    by_cases e : b = w.heap.size
    · rw [if_neg (by omega)]
    · rw [if_neg e] at hb
      exact absurd rfl hb
theorem Now.head {W0 w : World} {p0 r0 : Own} {hb rb : Nat} {H : HM} (h : Now W0 p0 r0 hb rb H w) : ∃ sa cap, w.heap[rb]? = some (.cells #[.int .i64 H.room, .int .i64 H.used, .slice sa H.things.length cap] 40 (0, 0)) := by
  obtain ⟨tvs, rs, o1, o2, h1, _⟩ := h
  obtain ⟨tv, h3, h4⟩ := h1.r.head
  obtain ⟨sa, cap, rfl⟩ := ownsRow_form h4.1
  rw [h1.r.len] at h3
  exact ⟨sa, cap, h3⟩
theorem Now.few {W0 w : World} {p0 r0 : Own} {hb rb : Nat} {H : HM} (h : Now W0 p0 r0 hb rb H w) : H.things.length ≤ 1048576 := wf_len h.wf
theorem Used_now {W0 w : World} {p0 r0 : Own} {hb rb : Nat} {H : HM} (h : Now W0 p0 r0 hb rb H w) : Calls Tryz.prog 11 #[.pointer (some ⟨hb, 0, none⟩)] w fun e w' => e = .returned (.int .i64 H.used) ∧ w = w' :=
  let ⟨tvs, _, o1, _, h1, _⟩ := h
  Used_any _ H tvs o1 w (.some hb _ _ _ h1.p)
theorem Kind_now {W0 w : World} {p0 r0 : Own} {hb rb : Nat} {H : HM} (n : Int) (h : Now W0 p0 r0 hb rb H w) : Calls Tryz.prog 14 #[.pointer (some ⟨hb, 0, none⟩), .int .i64 n] w fun e w' => e = .returned (.int .i64 (H.kindOf n)) ∧ Up w w' :=
  let ⟨tvs, _, o1, _, h1, _⟩ := h
  Kind_any _ H tvs o1 n w (.some hb _ _ _ h1.p)
theorem Len_now {W0 w : World} {p0 r0 : Own} {hb rb : Nat} {H : HM} (n : Int) (h : Now W0 p0 r0 hb rb H w) : Calls Tryz.prog 16 #[.pointer (some ⟨hb, 0, none⟩), .int .i64 n] w fun e w' => e = .returned (.int .i64 (H.lenOf n)) ∧ Up w w' :=
  let ⟨tvs, _, o1, _, h1, _⟩ := h
  Len_any _ H tvs o1 n w (.some hb _ _ _ h1.p)
theorem s_kind_now {W0 w : World} {p0 r0 : Own} {hb rb : Nat} {H : HM} (n : Int) (h : Now W0 p0 r0 hb rb H w) : Calls Tryz.prog 15 #[.pointer (some ⟨rb, 0, none⟩), .int .i64 n] w fun e w' => e = .returned (.int .i64 (H.kindOf n)) ∧ w = w' :=
  let ⟨_, rs, _, o2, h1, _⟩ := h
  s_kind rb H rs o2 n w h1.r h1.p.wf
theorem s_len_now {W0 w : World} {p0 r0 : Own} {hb rb : Nat} {H : HM} (n : Int) (h : Now W0 p0 r0 hb rb H w) : Calls Tryz.prog 17 #[.pointer (some ⟨rb, 0, none⟩), .int .i64 n] w fun e w' => e = .returned (.int .i64 (H.lenOf n)) ∧ w = w' :=
  let ⟨_, rs, _, o2, h1, _⟩ := h
  s_len rb H rs o2 n w h1.r h1.p.wf
theorem s_show_now {W0 w : World} {p0 r0 : Own} {hb rb : Nat} {H : HM} (k n : Int) (s : ByteArray) (h : Now W0 p0 r0 hb rb H w) (hg : H.Good 8000) (hs : s.size ≤ 8000) :
    Calls Tryz.prog 13 #[.pointer (some ⟨rb, 0, none⟩), .agg #[.int .i64 k, .int .i64 n, .string s]] w fun e w' => e = .returned (.string (H.says ⟨k, n, s⟩)) ∧ Up w w' :=
  let ⟨_, rs, _, o2, h1, _⟩ := h
  s_show rb H rs o2 k n s w h1.r h1.p.wf hg hs
theorem Typeof_now {W0 w : World} {p0 r0 : Own} {hb rb : Nat} {H : HM} (x : Val) (h : Now W0 p0 r0 hb rb H w) : Calls Tryz.prog 18 #[.pointer (some ⟨hb, 0, none⟩), .agg #[.int .i64 (x).k, .int .i64 (x).n, .string (x).s]] w fun e w' => (∃ v, e = .returned v) ∧ Up w w' :=
  let ⟨tvs, _, o1, _, h1, _⟩ := h
  (Typeof_any (.pointer (some ⟨hb, 0, none⟩)) H tvs o1 x.k x.n x.s w (.some hb _ _ _ h1.p)).mono fun _ _ ⟨h, k⟩ => ⟨⟨_, h⟩, k⟩

end Go.Proofs.YtmbipadiaggolaaGreatDoor

/- The kit's contract of utf8.AppendRune at this program: printed by lay-shelf.mjs and lay-plain.mjs, two layings taken out of the print. -/
namespace Go.Proofs
open Go.Shelf
def Tryz.lays278_ren : Go.Shelf.Ren := ⟨fun | 278 => 90 | n => n, fun | 37 => 70 | 21 => 21 | 51 => 151 | 4 => 4 | 46 => 144 | 5 => 5 | n => n, fun | n => n⟩
theorem Tryz.lays278 : Go.Proofs.Lays.n278 Tryz.prog Tryz.lays278_ren := {
  mixed := by kernel_rfl
  f278 := Tryz.func90.trans (congrArg some (by kernel_rfl))
  t4 := Tryz.underlying4
  a4 := Tryz.isAgg4
  z4 := Tryz.sizeOf4
  v4 := Tryz.zeroValue4
  t5 := Tryz.underlying5
  a5 := Tryz.isAgg5
  z5 := Tryz.sizeOf5
  v5 := Tryz.zeroValue5
  t21 := Tryz.underlying21
  a21 := Tryz.isAgg21
  z21 := Tryz.sizeOf21
  v21 := Tryz.zeroValue21
  t37 := Tryz.underlying70
  a37 := Tryz.isAgg70
  z37 := Tryz.sizeOf70
  v37 := Tryz.zeroValue70
  t46 := Tryz.underlying144
  a46 := Tryz.isAgg144
  z46 := Tryz.sizeOf144
  v46 := Tryz.zeroValue144
  t51 := Tryz.underlying151
  a51 := Tryz.isAgg151
  z51 := Tryz.sizeOf151
  v51 := Tryz.zeroValue151 }
open Go.RowKit in
/-- unicode/utf8.appendRuneNonASCII (what AppendRune calls for all but ASCII), ONTO A ROW OF BYTES THAT THE CALL OWNS: every int32 that is no ASCII rune: 'Lib.runeCells r' goes in behind what the row holds. (LAID: no walk: one application.) -/
theorem Tryz.utf8_appendRuneNonASCII_plain (B : Nat) (v : Value) (n : Nat) (xs : List Value) (r : Int) (hr0 : -2147483648 ≤ r) (hr1 : r ≤ 2147483647) (hna : r < 0 ∨ 128 ≤ r) (w : World) (hown : w.ownsRow B 5 1 v n xs) (hlen : n + 4 ≤ 140737488355328) (hBw : B ≤ w.heap.size) :
    Calls Tryz.prog 90 #[v, .int .i32 r] w fun e w' => ∃ v', e = .returned v' ∧ w'.ownsRow B 5 1 v' (n + (Lib.runeCells r).length) (xs ++ Lib.runeCells r) ∧ ∃ o, (w.alloc o).grownBy w' v.ownBlock := Any.utf8_appendRuneNonASCII_plain Tryz.lays278 (by kernel_rfl) B v n xs r hr0 hr1 hna w hown hlen hBw
def Tryz.lays242_ren : Go.Shelf.Ren := ⟨fun | 242 => 82 | 278 => 90 | n => n, fun | 37 => 70 | 21 => 21 | 51 => 151 | 4 => 4 | 5 => 5 | 46 => 144 | n => n, fun | n => n⟩
theorem Tryz.lays242 : Go.Proofs.Lays.n242 Tryz.prog Tryz.lays242_ren := {
  mixed := by kernel_rfl
  f242 := Tryz.func82.trans (congrArg some (by kernel_rfl))
  f278 := Tryz.func90.trans (congrArg some (by kernel_rfl))
  t4 := Tryz.underlying4
  a4 := Tryz.isAgg4
  z4 := Tryz.sizeOf4
  v4 := Tryz.zeroValue4
  t5 := Tryz.underlying5
  a5 := Tryz.isAgg5
  z5 := Tryz.sizeOf5
  v5 := Tryz.zeroValue5
  t21 := Tryz.underlying21
  a21 := Tryz.isAgg21
  z21 := Tryz.sizeOf21
  v21 := Tryz.zeroValue21
  t37 := Tryz.underlying70
  a37 := Tryz.isAgg70
  z37 := Tryz.sizeOf70
  v37 := Tryz.zeroValue70
  t46 := Tryz.underlying144
  a46 := Tryz.isAgg144
  z46 := Tryz.sizeOf144
  v46 := Tryz.zeroValue144
  t51 := Tryz.underlying151
  a51 := Tryz.isAgg151
  z51 := Tryz.sizeOf151
  v51 := Tryz.zeroValue151 }
open Go.RowKit in
/-- unicode/utf8.AppendRune: "AppendRune appends the UTF-8 encoding of r to the end of p and returns the extended buffer. If the rune is out of range, it appends the encoding of RuneError.": ONTO A ROW OF BYTES THAT THE CALL OWNS (its head frozen or not): EVERY int32: 'Lib.runeCells r' goes in behind what the row holds; the world: one new block (the bytes as the call's variadic argument), then what 'append' does to the row. (LAID: no walk: one application.) -/
theorem Tryz.utf8_AppendRune_plain (B : Nat) (v : Value) (n : Nat) (xs : List Value) (r : Int) (hr0 : -2147483648 ≤ r) (hr1 : r ≤ 2147483647) (w : World) (hown : w.ownsRow B 5 1 v n xs) (hlen : n + 4 ≤ 140737488355328) (hBw : B ≤ w.heap.size) :
    Calls Tryz.prog 82 #[v, .int .i32 r] w fun e w' => ∃ v', e = .returned v' ∧ w'.ownsRow B 5 1 v' (n + (Lib.runeCells r).length) (xs ++ Lib.runeCells r) ∧ ∃ o, (w.alloc o).grownBy w' v.ownBlock := Any.utf8_AppendRune_plain Tryz.lays242 (by kernel_rfl) B v n xs r hr0 hr1 w hown hlen hBw
end Go.Proofs

/- Walks: a strings.Builder in a block of its own. -/
namespace Go.Proofs.YtmbipadiaggolaaGreatDoor
open Go.RowKit
set_option linter.unusedSimpArgs false

abbrev BuT : TypeId := 72
theorem liesBu : liesAt Tryz.prog Tryz.prog.depth BuT (2 / Tryz.prog.cellsOf BuT) 0 BuT 1 = true := by kernel_rfl

/-- what a call on the builder at b leaves -/
structure Built (b : Nat) (bs : List UInt8) (w w' : World) : Prop where
  at_ : Lib.BuilderAt BuT ByT b b (.pointer (some ⟨b, 0, none⟩)) (Lib.byteCells bs) w'
  low : Below b w w'
  others : Lib.OthersKept ByT (some b) w w'
abbrev IsB (b : Nat) (bs : List UInt8) (w : World) : Prop := Lib.IsBuilder BuT ByT b b (Lib.byteCells bs) w
theorem Built.is {b : Nat} {bs : List UInt8} {w w' : World} (h : Built b bs w w') : IsB b bs w' := .inr h.at_

theorem IsB.lt {b : Nat} {bs : List UInt8} {w : World} (h : IsB b bs w) : b < w.heap.size := by
  rcases h with h | h
  · exact h.lt
  · exact h.lt
theorem BuilderAt.kept {b : Nat} {p : Value} {bs : List Value} {w w' : World} (h : Lib.BuilderAt BuT ByT b b p bs w) (hk : ∀ (x : Nat) (cs : Array Value) (t : TypeId) (fz : Nat × Nat), w.heap[x]? = some (.cells cs t fz) → w'.heap[x]? = some (.cells cs t fz)) : Lib.BuilderAt BuT ByT b b p bs w' := by
  obtain ⟨hB, v, h1, h2, h3⟩ := h
  refine ⟨hB, v, hk _ _ _ _ h1, ⟨h2.1, ?_⟩, h3⟩
  rcases h2.2 with h5 | ⟨g, cap, cur, hv, hg, hc, r⟩
  · exact .inl h5
  · exact .inr ⟨g, cap, cur, hv, hg, hk _ _ _ _ hc, r⟩
theorem IsB.kept {b : Nat} {bs : List UInt8} {w w' : World} (h : IsB b bs w) (hk : ∀ (x : Nat) (cs : Array Value) (t : TypeId) (fz : Nat × Nat), w.heap[x]? = some (.cells cs t fz) → w'.heap[x]? = some (.cells cs t fz)) : IsB b bs w' := by
  rcases h with h | h
  · exact .inl (BuilderAt.kept h hk)
  · exact .inr (BuilderAt.kept h hk)
theorem IsB.up {b : Nat} {bs : List UInt8} {w w' : World} (h : IsB b bs w) (k : Up w w')   : IsB b bs w' := IsB.kept h fun _ _ _ _ hx => k.get hx
theorem IsB.new (w : World) : IsB w.heap.size [] (w.alloc (.cells #[.pointer none, .slice none 0 0] BuT)) :=
  .inl ⟨Nat.le_refl _, _, alloc_get _ _, ⟨rfl, .inl ⟨rfl, rfl⟩⟩, by simp [Value.ownBlock]⟩

set_option maxRecDepth 100000 in
set_option maxHeartbeats 1000000 in
theorem cc_used (b : Nat) (w : World) (h0 : w.cell? ⟨b, 0, none⟩ = some (.pointer (some ⟨b, 0, none⟩))) :
    Calls Tryz.prog 81 #[.pointer (some ⟨b, 0, none⟩)] w fun e w' => e = .returned (.tuple #[]) ∧ w' = w := by
  obtain ⟨j, hj, _⟩ := Option.map_eq_some_iff.1 infoB
  go_enter Tryz.func81, Tryz.ntmps81
  go_wp2
  rw [Lib.run_neq_ptr_same w _ Tryz.underlying69 hj]
  go_wp2
  go_end0
  exact ⟨rfl, rfl⟩

set_option maxRecDepth 100000 in
set_option maxHeartbeats 1000000 in
theorem cc_fresh (b : Nat) (w : World) (h0 : w.cell? ⟨b, 0, none⟩ = some (.pointer none)) (hsh : w.shape? b = some (BuT, 2)) (hfz : w.frozen? ⟨b, 0, none⟩ = false) :
    Calls Tryz.prog 81 #[.pointer (some ⟨b, 0, none⟩)] w fun e w' => e = .returned (.tuple #[]) ∧ w' = w.setCell ⟨b, 0, none⟩ (.pointer (some ⟨b, 0, none⟩)) := by
  obtain ⟨j, hj, hjs⟩ := Option.map_eq_some_iff.1 infoB
  go_enter Tryz.func81, Tryz.ntmps81
  go_wp2
  rw [Lib.run_to_unsafe w ⟨b, 0, none⟩ Tryz.underlying69 Tryz.underlying149 hj (by rw [hjs]; decide) hsh (by simp)]
  simp only [Result.andThen]
  rw [Oper.upon_value]
  go_wp2
  rw [run_callFunc_extern Tryz.func89 (by kernel_rfl) (by kernel_rfl) (by kernel_rfl) (e := Extern.AbiNoEscape.same) (by kernel_rfl)]
  rw [Lib.run_noEscape]
  simp only [Result.andThen]
  rw [Oper.upon_value]
  go_wp2
  rw [Lib.run_from_unsafe w ⟨b, 0, none⟩ Tryz.underlying149 Tryz.underlying69 hj hsh liesBu]
  simp only [Result.andThen]
  rw [Oper.upon_value]
  go_wp2
  go_end0
  exact ⟨rfl, rfl⟩

theorem cc_any (b : Nat) (bs : List UInt8) (w : World) (h : IsB b bs w) :
    Calls Tryz.prog 81 #[.pointer (some ⟨b, 0, none⟩)] w fun e w' => e = .returned (.tuple #[]) ∧ Built b bs w w' := by
  rcases h with h | h
  · refine (cc_fresh b w h.cell0 h.shape h.frozen0).mono ?_
    rintro e w' ⟨rfl, rfl⟩
    exact ⟨rfl, h.used _, (Below.refl b w).setCell (p := ⟨b, 0, none⟩) h.1 _, (Lib.OthersKept.refl _ _ w).setCell ⟨b, 0, none⟩ rfl _⟩
  · refine (cc_used b w h.cell0).mono ?_
    rintro e w' ⟨rfl, rfl⟩
    exact ⟨rfl, h, Below.refl b _, Lib.OthersKept.refl _ _ _⟩

theorem neBu : BuT ≠ ByT := by decide

set_option maxRecDepth 100000 in
set_option maxHeartbeats 2000000 in
theorem WriteByte_b (b : Nat) (bs : List UInt8) (c : UInt8) (w : World) (h : IsB b bs w) (hlen : bs.length + 1 ≤ 140737488355328) :
    Calls Tryz.prog 68 #[.pointer (some ⟨b, 0, none⟩), .int .u8 c.toNat] w fun e w' => e = .returned .nilIface ∧ Built b (bs ++ [c]) w w' := by
  obtain ⟨i0, hi, hz0, hz1, hz2⟩ := info_parts infoByte
  have hh := Lib.hid h
  have hL := Lib.hid hlen
  have hbw := Nat.le_of_lt h.lt
  clear h hlen
  go_enter Tryz.func68, Tryz.ntmps68
  go_wp2_with (go_at_call 81; refine (cc_any b bs _ hh.out).mono ?_)
  rintro e w1 ⟨rfl, h1, hb1, hk1⟩
  obtain ⟨hB, v, hbk, hown, hne⟩ := h1
  have c0 := cell_of hbk 0
  have c1 := cell_of hbk 1
  simp only [List.getElem?_toArray, List.getElem?_cons_zero, List.getElem?_cons_succ] at c0 c1
  rw [Lib.byteCells_length] at hown
  have HX := Lib.hid (And.intro hb1 (And.intro hbk (And.intro hown (And.intro hne hk1))))
  clear hb1 hbk hown hne hk1
  go_wp2_with (at_builtin; refine wpList_append_own _ rfl _ _ 70 rfl b ByT i0 (.int .u8 0) 1 1 Tryz.underlying70 hi hz0 hz1 hz2 rfl (by decide) _ _ _ rfl (HX.out.2.2.1.alloc _) ⟨w1.heap.size, 0, none⟩ 1 1 [.int .u8 c.toNat] rfl rfl ?c1 ?c2 ?c3 ?c4 ?c5 ?_)
  case c1 =>
    intro j u hj
    match j, hj with
    | 0, hj => simp at hj; subst hj; simp [Addr.add]
  case c2 => intro u hu; simp at hu; subst hu; rfl
  case c3 => have := hL.out; unfold maxLen; omega
  case c4 => have := hL.out; omega
  case c5 => have := HX.out.1.size; simp; omega
  intro v' w2 hown' hgrow _
  obtain ⟨hb1, hbk, hown, hne, hk1⟩ := HX.out
  have hlt := lt_of_heap hbk
  have hb2 : w2.heap[b]? = some (.cells #[.pointer (some ⟨b, 0, none⟩), v] BuT (0, 0)) := by
    rw [hgrow.block b (by simp; omega) (fun e => hne e.symm)]
    exact alloc_keep hbk
  obtain ⟨ao, cap, rfl⟩ := slice_form hown'
  have d0 := cell_of hb2 0
  have d1 := cell_of hb2 1
  have f1 := ice_of hb2 1
  simp only [List.getElem?_toArray, List.getElem?_cons_zero, List.getElem?_cons_succ] at d0 d1
  have HY := Lib.hid (And.intro hown' (And.intro hgrow hb2))
  clear hown' hgrow hb2 hb1 hbk hown hne hk1
  go_wp2
  go_ret
  obtain ⟨hb1, hbk, hown, hne, hk1⟩ := HX.out
  obtain ⟨hown', hgrow, hb2⟩ := HY.out
  refine ⟨rfl, ?_, ?_, ?_⟩
  · exact Lib.BuilderAt.put (T := BuT) (e := ByT) hB hb2 (bs' := Lib.byteCells (bs ++ [c])) (by simpa [Lib.byteCells] using hown') neBu
  · exact ((hb1.alloc (by have := hb1.size; omega) _).grown hgrow (by have := hb1.size; simp; omega) (fun k hk => (hown.lt k hk).1)).setCell (p := ⟨b, 1, none⟩) hB _
  · exact ((hk1.alloc _).grown hgrow (Lib.ownsRow_kind (hown.alloc _))).setCell ⟨b, 1, none⟩ rfl _

set_option maxRecDepth 100000 in
set_option maxHeartbeats 2000000 in
theorem WriteString_b (b : Nat) (bs : List UInt8) (s : ByteArray) (w : World) (h : IsB b bs w) (hlen : bs.length + s.size ≤ 140737488355328) :
    Calls Tryz.prog 67 #[.pointer (some ⟨b, 0, none⟩), .string s] w fun e w' => e = .returned (.tuple #[.int .i64 s.size, .nilIface]) ∧ Built b (bs ++ s.data.toList) w w' := by
  obtain ⟨i0, hi, hz0, hz1, hz2⟩ := info_parts infoByte
  have hh := Lib.hid h
  have hL := Lib.hid hlen
  have hbw := Nat.le_of_lt h.lt
  clear h hlen
  go_enter Tryz.func67, Tryz.ntmps67
  go_wp2_with (go_at_call 81; refine (cc_any b bs _ hh.out).mono ?_)
  rintro e w1 ⟨rfl, h1, hb1, hk1⟩
  obtain ⟨hB, v, hbk, hown, hne⟩ := h1
  have c0 := cell_of hbk 0
  have c1 := cell_of hbk 1
  simp only [List.getElem?_toArray, List.getElem?_cons_zero, List.getElem?_cons_succ] at c0 c1
  rw [Lib.byteCells_length] at hown
  have HX := Lib.hid (And.intro hb1 (And.intro hbk (And.intro hown (And.intro hne hk1))))
  clear hb1 hbk hown hne hk1
  go_wp2_with (at_builtin; refine Lib.wpList_append_own_string _ rfl _ _ 70 9 rfl b ByT i0 Tryz.underlying70 Tryz.underlying9 hi hz0 hz1 hz2 _ _ _ rfl HX.out.2.2.1 s rfl ?c3 ?c4 ?c5 ?_)
  case c3 => have := hL.out; unfold maxLen; omega
  case c4 => have := hL.out; omega
  case c5 => have := HX.out.1.size; omega
  intro v' w2 hown' hgrow _
  obtain ⟨hb1, hbk, hown, hne, hk1⟩ := HX.out
  have hlt := lt_of_heap hbk
  have hb2 : w2.heap[b]? = some (.cells #[.pointer (some ⟨b, 0, none⟩), v] BuT (0, 0)) := by
    rw [hgrow.block b hlt (fun e => hne e.symm)]
    exact hbk
  obtain ⟨ao, cap, rfl⟩ := slice_form hown'
  have d0 := cell_of hb2 0
  have d1 := cell_of hb2 1
  have f1 := ice_of hb2 1
  simp only [List.getElem?_toArray, List.getElem?_cons_zero, List.getElem?_cons_succ] at d0 d1
  have HY := Lib.hid (And.intro hown' (And.intro hgrow hb2))
  clear hown' hgrow hb2 hb1 hbk hown hne hk1
  go_wp2
  go_ret2
  obtain ⟨hb1, hbk, hown, hne, hk1⟩ := HX.out
  obtain ⟨hown', hgrow, hb2⟩ := HY.out
  refine ⟨rfl, ?_, ?_, ?_⟩
  · exact Lib.BuilderAt.put (T := BuT) (e := ByT) hB hb2 (bs' := Lib.byteCells (bs ++ s.data.toList)) (by simpa [Lib.byteCells, Lib.strCells] using hown') neBu
  · exact (hb1.grown hgrow (by have := hb1.size; omega) (fun k hk => (hown.lt k hk).1)).setCell (p := ⟨b, 1, none⟩) hB _
  · exact (hk1.grown hgrow (Lib.ownsRow_kind hown)).setCell ⟨b, 1, none⟩ rfl _

theorem enc_eq (r : Nat) (h : r ≤ 1114111) : Lib.encodeRune (r : Int) = (Utf8.encode r).data.toList := by
  unfold Lib.encodeRune Utf8.encode
  by_cases h1 : r ≤ 127
  · rw [Lib.encodeRuneZ_one (by omega) (by omega)]
    have hv : Utf8.valid (r : Int) = true := by unfold Utf8.valid; simp; omega
    simp only [hv, if_true, Int.toNat_natCast]
    rw [if_pos (by omega)]
    rfl
  by_cases h2 : r ≤ 2047
  · rw [Lib.encodeRuneZ_two (by omega) (by omega)]
    have hv : Utf8.valid (r : Int) = true := by unfold Utf8.valid; simp; omega
    simp only [hv, if_true, Int.toNat_natCast]
    rw [if_neg (by omega), if_pos (by omega)]
    have e1 : ((192 : Int) + (r : Int) / 64).toNat = 0xC0 + r / 64 := by omega
    have e2 : ((128 : Int) + (r : Int) % 64).toNat = 0x80 + r % 64 := by omega
    simp only [List.map_cons, List.map_nil, e1, e2]
  by_cases h3 : r < 55296 ∨ (57343 < r ∧ r ≤ 65535)
  · rw [Lib.encodeRuneZ_three (by omega)]
    have hv : Utf8.valid (r : Int) = true := by unfold Utf8.valid; simp; omega
    simp only [hv, if_true, Int.toNat_natCast]
    rw [if_neg (by omega), if_neg (by omega), if_pos (by omega)]
    have e1 : ((224 : Int) + (r : Int) / 4096).toNat = 0xE0 + r / 4096 := by omega
    have e2 : ((128 : Int) + (r : Int) / 64 % 64).toNat = 0x80 + r / 64 % 64 := by omega
    have e3 : ((128 : Int) + (r : Int) % 64).toNat = 0x80 + r % 64 := by omega
    simp only [List.map_cons, List.map_nil, e1, e2, e3]
  by_cases h4 : 65536 ≤ r
  · rw [Lib.encodeRuneZ_four (by omega) (by omega)]
    have hv : Utf8.valid (r : Int) = true := by unfold Utf8.valid; simp; omega
    simp only [hv, if_true, Int.toNat_natCast]
    rw [if_neg (by omega), if_neg (by omega), if_neg (by omega)]
    have e1 : ((240 : Int) + (r : Int) / 262144).toNat = 0xF0 + r / 262144 := by omega
    have e4 : ((128 : Int) + (r : Int) / 4096 % 64).toNat = 0x80 + r / 4096 % 64 := by omega
    have e2 : ((128 : Int) + (r : Int) / 64 % 64).toNat = 0x80 + r / 64 % 64 := by omega
    have e3 : ((128 : Int) + (r : Int) % 64).toNat = 0x80 + r % 64 := by omega
    simp only [List.map_cons, List.map_nil, e1, e2, e3, e4]
  · rw [Lib.encodeRuneZ_bad (by omega)]
    have hv : Utf8.valid (r : Int) = false := by unfold Utf8.valid; simp; omega
    simp only [hv, Bool.false_eq_true, if_false]
    decide

set_option maxRecDepth 100000 in
set_option maxHeartbeats 2000000 in
theorem WriteRune_b (b : Nat) (bs : List UInt8) (r : Nat) (hr : r ≤ 1114111) (w : World) (h : IsB b bs w) (hlen : bs.length + 4 ≤ 140737488355328) :
    Calls Tryz.prog 69 #[.pointer (some ⟨b, 0, none⟩), .int .i32 r] w fun e w' => (∃ n, e = .returned (.tuple #[.int .i64 n, .nilIface])) ∧ Built b (bs ++ (Utf8.encode r).data.toList) w w' := by
  have hh := Lib.hid h
  have hL := Lib.hid hlen
  have hbw := Nat.le_of_lt h.lt
  have hk4 := Lib.runeCells_le (r : Int)
  have hre : Lib.runeCells (r : Int) = Lib.byteCells (Utf8.encode r).data.toList := by rw [← Lib.byteCells_encodeRune, enc_eq r hr]
  have hll : (Lib.runeCells (r : Int)).length = (Utf8.encode r).data.toList.length := by rw [hre, Lib.byteCells_length]
  have HE := Lib.hid hre
  clear h hlen hre
  go_enter Tryz.func69, Tryz.ntmps69
  go_wp2_with (go_at_call 81; refine (cc_any b bs _ hh.out).mono ?_)
  rintro e w1 ⟨rfl, h1, hb1, hk1⟩
  obtain ⟨hB, v, hbk, hown, hne⟩ := h1
  rw [Lib.byteCells_length] at hown
  obtain ⟨ao, cap, rfl⟩ := slice_form hown
  have c0 := cell_of hbk 0
  have c1 := cell_of hbk 1
  simp only [List.getElem?_toArray, List.getElem?_cons_zero, List.getElem?_cons_succ] at c0 c1
  have HX := Lib.hid (And.intro hb1 (And.intro hbk (And.intro hown (And.intro hne hk1))))
  clear hb1 hbk hown hne hk1
  go_wp2_with (go_at_call 82; refine (Tryz.utf8_AppendRune_plain b _ bs.length _ r (by omega) (by omega) _ HX.out.2.2.1 hL.out (by have := HX.out.1.size; omega)).mono ?_)
  rintro e w2 ⟨v', rfl, hown', o, hgrow⟩
  obtain ⟨hb1, hbk, hown, hne, hk1⟩ := HX.out
  have hlt := lt_of_heap hbk
  have hb2 : w2.heap[b]? = some (.cells #[.pointer (some ⟨b, 0, none⟩), .slice ao bs.length cap] BuT (0, 0)) := by
    rw [hgrow.block b (by simp; omega) (fun e => hne e.symm)]
    exact alloc_keep hbk
  obtain ⟨g, cap', rfl⟩ := slice_form hown'
  have d0 := cell_of hb2 0
  have d1 := cell_of hb2 1
  have f1 := ice_of hb2 1
  simp only [List.getElem?_toArray, List.getElem?_cons_zero, List.getElem?_cons_succ] at d0 d1
  have HY := Lib.hid (And.intro hown' (And.intro hgrow hb2))
  clear hown' hgrow hb2 hb1 hbk hown hne hk1
  have hL2 := hL.out
  have hL3 : (bs.length : Int) ≤ 140737488355328 := by omega
  have hL4 : ((Lib.runeCells (r : Int)).length : Int) ≤ 4 := by omega
  go_wp2
  go_ret2
  obtain ⟨hb1, hbk, hown, hne, hk1⟩ := HX.out
  obtain ⟨hown', hgrow, hb2⟩ := HY.out
  refine ⟨⟨_, rfl⟩, ?_, ?_, ?_⟩
  · refine Lib.BuilderAt.put (T := BuT) (e := ByT) hB hb2 (bs' := Lib.byteCells (bs ++ (Utf8.encode r).data.toList)) ?_ neBu
    have e3 : Lib.byteCells (bs ++ (Utf8.encode r).data.toList) = Lib.byteCells bs ++ Lib.runeCells (r : Int) := by rw [Lib.byteCells_append, HE.out]
    have e4 : (Lib.byteCells bs ++ Lib.runeCells (r : Int)).length = bs.length + (Lib.runeCells (r : Int)).length := by rw [List.length_append, Lib.byteCells_length]
    have e5 : (Lib.runeCells (r : Int)).length = (Utf8.encode (r : Int)).size := by rw [hll]; simp
    rw [e5] at hown'
    rw [e3, e4, e5]
    exact hown'
  · exact ((hb1.alloc (by have := hb1.size; omega) _).grown hgrow (by have := hb1.size; simp; omega) (fun k hk => (hown.lt k hk).1)).setCell (p := ⟨b, 1, none⟩) hB _
  · exact ((hk1.alloc _).grown hgrow (Lib.ownsRow_kind (hown.alloc _))).setCell ⟨b, 1, none⟩ rfl _

end Go.Proofs.YtmbipadiaggolaaGreatDoor

/- Walks: the program's Runes, whose runes are told to be within reach. -/
namespace Go.Proofs.YtmbipadiaggolaaGreatDoor
open Go.RowKit
set_option linter.unusedSimpArgs false
attribute [local go_sem] Oper.semAt_some conv_sb

/-- a rune within reach -/
abbrev RunT := { x : Nat × Nat // x.2 ≤ 1114111 }

set_option maxRecDepth 100000 in
set_option maxHeartbeats 2000000 in
theorem runes_iterB (l tb : Nat) (s : ByteArray) (hs : s.size ≤ 1000000000) (K : World → World → Prop) (hKr : ∀ W, K W W) (hKt : ∀ a b c, K a b → K b c → K a c) (hKu : ∀ a b c, K a b → Up b c → K a c) (J Jx : List (Nat × Nat) → World → Prop) (W : World)
    (hJ : AbidesFrom W.heap.size J)
    (hY : ∀ (pre : List (Nat × Nat)) (x : Nat × Nat) W1, x.2 ≤ 1114111 → J pre W1 → pre.length < (runesOf s.data.toList).length → YieldAt Fence.wide 0 Tryz.prog l (encR x) W1 fun e W' =>
      (e = .returned (.bool true) ∧ J (pre ++ [x]) W' ∧ K W1 W') ∨ (e = .returned (.bool false) ∧ Jx (pre ++ [x]) W'))
    (hbox : ∀ W', K W W' → W'.cell? ⟨tb, 0, none⟩ = some (.string s) ∧ W.heap.size ≤ W'.heap.size) (h0 : J [] W) :
    CallsIn Fence.wide 1 Tryz.prog 63 #[.func (.yield l) #[] #[], .pointer (some ⟨tb, 0, none⟩)] W fun e W' => (∃ v, e = .returned v) ∧
      ((∃ xs, xs = runesOf s.data.toList ∧ J xs W') ∨ (∃ pre, pre <+: runesOf s.data.toList ∧ Jx pre W')) := by
  refine callsIn_of_wp Tryz.func63 rfl trivial ?_ rfl
  simp only [Tryz.ntmps63, List.size_toArray, List.length_cons, List.length_nil, Nat.reduceAdd, Nat.reduceSub, Array.replicate_succ, Array.replicate_zero, List.push_toArray, List.append_toArray, List.nil_append, List.cons_append]
  gi_wp2
  gi_loopw [3] (fun i wr => ∃ (a : Nat) (pre : List (Nat × Nat)), a ≤ s.size ∧ i = .int .i64 a ∧ pre ++ restS s.data.toList a = runesOf s.data.toList ∧ J pre wr ∧ K W wr)
    (fun i _ => s.size - (intOf i).toNat)
  case atStart => exact ⟨0, [], Nat.zero_le _, rfl, rfl, h0, hKr _⟩
  case round =>
    obtain ⟨a, pre, ha, rfl, hrest, hJs, hnx⟩ := hrel
    obtain ⟨hb0, hsz⟩ := hbox wr hnx
    by_cases hlt : a < s.size
    · obtain ⟨M, hM, hM2⟩ : ∃ M : Nat, (min (s.size : Int) ((a : Int) + 4)).toNat = M ∧ M = min s.size (a + 4) := ⟨_, rfl, by omega⟩
      obtain ⟨s4, hs4⟩ : ∃ s4, s.extract a M = s4 := ⟨_, rfl⟩
      have hl4 : s4.data.toList = (s.data.toList.drop a).take 4 := by
        rw [← hs4, extract_list, hM2]
        have : s.data.toList.length = s.size := by simp
        rw [List.take_eq_take_iff, List.length_drop]
        omega
      have hd : decS s4.data.toList = decS (s.data.toList.drop a) := by rw [hl4, decS_take]
      have hz4 : 0 < s4.size ∧ s4.size ≤ 4 := by
        have h1 : s4.data.toList.length = s4.size := by simp
        have h2 : s.data.toList.length = s.size := by simp
        rw [← h1, hl4, List.length_take, List.length_drop]
        omega
      obtain ⟨hr1, hr2, hr3⟩ := restS_at s.data.toList a (by simpa using hlt)
      rw [← hd] at hr1 hr2 hr3
      obtain ⟨r, n, hrn⟩ : ∃ r n, decS s4.data.toList = (r, n) := ⟨_, _, rfl⟩
      have hrb : r ≤ 1114111 := by have := decS_big s4.data.toList; rw [hrn] at this; exact this
      rw [hrn] at hr1 hr2 hr3
      dsimp only at hr1 hr2 hr3
      have hD := fun W1 (h : BytesAt W1 (some ⟨wr.heap.size, 0, none⟩) s4.data.toList) => p_decode_s wr.heap.size (grownCap wr s4.size 0 5) s4 W1 h hz4.1 (grownCap_ge _ _ _ _)
      rw [hrn] at hD
      dsimp only at hD
      have hn3 : a + n ≤ s.size := by simpa using hr3
      rw [hr1] at hrest
      have hlen : pre.length < (runesOf s.data.toList).length := by rw [← hrest]; simp
      obtain ⟨fn, tmps, assign, body, hy, hR⟩ := hY pre (a, r) (bytesLaid wr s4) hrb (hJ _ _ _ none hJs ((bytesLaid_up wr s4).grownBy none) (fun r e => by cases e)) hlen
      simp only [encR] at hy
      clear hr1 hr3 hM2 hl4 hd
      gi_wp2_with (first | (refine ⟨trivial, ?_⟩; gi_at_call 64; refine (callsIn_wide.2 (hD _ (bytesLaid_at wr s4 (by omega)))).mono ?_; rintro e w2 ⟨⟨g, rfl⟩, rfl⟩))
      refine hR.mono ?_
      rintro e W3 (⟨rfl, hJ3, hk3⟩ | ⟨rfl, hJx3⟩)
      · gi_wp2
        go_roundw
        case rel => exact ⟨a + n, pre ++ [(a, r)], hn3, by congr 1, by rw [← hrest]; simp, hJ3, hKt _ _ _ (hKu _ _ _ hnx (bytesLaid_up wr s4)) hk3⟩
        case measure => simp [intOf]; omega
      · gi_wp2
        refine bodyPost_ret (results_none rfl _ _ _) rfl ?_
        exact ⟨⟨_, rfl⟩, .inr ⟨_, by rw [← hrest]; exact ⟨restS s.data.toList (a + n), by simp⟩, hJx3⟩⟩
    · obtain rfl : a = s.size := by omega
      gi_wp2
      go_end0
      exact ⟨⟨_, rfl⟩, .inl ⟨_, rfl, by rw [restS_end _ _ (by simp), List.append_nil] at hrest; exact hrest ▸ hJs⟩⟩

theorem runes_stopsB (tb : Nat) (s : ByteArray) (hs : s.size ≤ 1000000000) (K : World → World → Prop) (hKr : ∀ W, K W W) (hKt : ∀ a b c, K a b → K b c → K a c) (hKu : ∀ a b c, K a b → Up b c → K a c) (w : World)
    (hbox : ∀ W W', Up w W → K W W' → W'.cell? ⟨tb, 0, none⟩ = some (.string s) ∧ W.heap.size ≤ W'.heap.size) :
    SeqStopsK Fence.wide 1 Tryz.prog 63 #[.pointer (some ⟨tb, 0, none⟩)] (fun x : RunT => encR x.1) K (fun xs => xs.map (·.1) = runesOf s.data.toList) (fun _ => True) (runesOf s.data.toList).length w := by
  intro l J0 Jx0 W hW hJ0 hJx0 hY0 h00
  refine CallsIn.mono (runes_iterB l tb s hs K hKr hKt hKu (fun pre W => ∃ xs : List RunT, xs.map (·.1) = pre ∧ J0 xs W) (fun pre W => ∃ xs : List RunT, xs.map (·.1) = pre ∧ Jx0 xs W) W
    (fun p A B row ⟨xs, e, h⟩ hg hr => ⟨xs, e, hJ0 xs A B row h hg hr⟩) ?_ (fun W' hk => hbox W W' hW hk) ⟨[], rfl, h00⟩) ?_
  · rintro pre x W1 hb ⟨xs, rfl, hj⟩ hl
    obtain ⟨fn, tmps, assign, body, hy, hR⟩ := hY0 xs ⟨x, hb⟩ W1 hj (by simpa using hl)
    refine ⟨fn, tmps, assign, body, hy, hR.mono ?_⟩
    rintro e W' (⟨rfl, h1, h2⟩ | ⟨rfl, h1⟩)
    · exact .inl ⟨rfl, ⟨xs ++ [⟨x, hb⟩], by simp, h1⟩, h2⟩
    · exact .inr ⟨rfl, xs ++ [⟨x, hb⟩], by simp, h1⟩
  · rintro e W' ⟨hv, ⟨xs, rfl, ys, hy, hj⟩ | ⟨pre, hp, ys, hy, hj⟩⟩
    · exact ⟨hv, Or.inl ⟨ys, hy, hj⟩⟩
    · exact ⟨hv, Or.inr ⟨ys, trivial, hj⟩⟩

end Go.Proofs.YtmbipadiaggolaaGreatDoor
