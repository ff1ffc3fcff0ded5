import Derived.Laws.Cover4
import Derived.Shelf.Strings.Builder1
import Derived.Shelf.Strings.Builder2
import Derived.Shelf.Strings.OnBuilder
import Derived.Shelf.Strings.BuilderF
import Derived.Shelf.Strings.BuilderK
import Derived.Shelf.Strings.BuilderRune
import Derived.Shelf.Utf8.AppendRunePlain
import Derived.Shelf.Strings.Builder2Cap
import Derived.Shelf.Strconv.Itoa0
import Derived.Shelf.Strconv.Itoa1
import Derived.Shelf.LaysM
import Derived.Shelf.Strconv.Itoa2
import Derived.Shelf.Strconv.Itoa3
import Derived.Shelf.Strconv.Itoa4
import Derived.Shelf.Strings.Search1
import Derived.Shelf.Strings.Search2
import Derived.Shelf.Strings.Search3
import Derived.Shelf.Strings.Shaped
import Derived.Shelf.Strings.BuilderCap
import Derived.Shelf.Slices.Turned
import Derived.Ground.Names2Prog
import Derived.Shelf.Slices.Clone
import Derived.Ground.SlgnProg
import Derived.Shelf.SlicesE.Clone
import Derived.Test.YtbghpkoimbmijaaGreatDoorProg
import Derived.RangeFuncFrom
import Derived.Test.YtbghpkoimbmijaaGreatDoorM20
import Derived.Test.YtbghpkoimbmijaaGreatDoorM19
import Derived.Test.YtbghpkoimbmijaaGreatDoorM09
import Derived.Test.YtbghpkoimbmijaaGreatDoorM08
import Derived.Test.YtbghpkoimbmijaaGreatDoorM18
/- YtbghpkoimbmijaaGreatDoorM21: lemmas of the proof, in order: QT, QR, ShelfC, QQ, UK. -/
/- Walks: a text in quotes: the document's. -/
namespace Go.Proofs.YtbghpkoimbmijaaGreatDoor
open Go.RowKit
set_option linter.unusedSimpArgs false

theorem hexS_size (u : Nat) : (hexS u).size ≤ 2 := by
  have key : ∀ u, u < 32 → (hexS u).size ≤ 2 := by decide
  by_cases h : u < 32
  · exact key u h
  · by_cases h2 : u = 127
    · subst h2; decide
    · unfold hexS
      iterate 32 rw [if_neg (by omega)]
      rw [if_neg h2]
      decide
attribute [local irreducible] hexS
theorem quoteR_size (r : Nat) : (quoteR r).size ≤ 6 := by
  have h1 := encode_size_le (r : Int)
  have h2 := hexS_size r
  have a1 : (⟨#[92]⟩ : ByteArray).size = 1 := rfl
  have a2 : (⟨#[92, 117, 123]⟩ : ByteArray).size = 3 := rfl
  have a3 : (⟨#[125]⟩ : ByteArray).size = 1 := rfl
  unfold quoteR
  repeat' split
  all_goals first | (rw [ByteArray.size_append, ByteArray.size_append]; omega) | (rw [ByteArray.size_append]; omega) | omega | decide

theorem decS_big : ∀ l : List UInt8, (decS l).1 ≤ 1114111
  | [] => by simp [decS]
  | x :: r => by
    unfold decS
    dsimp only
    split
    · decide
    · split
      · decide
      · rename_i v _
        split
        · decide
        · rename_i h; omega
theorem runes_big (l : List UInt8) (j : Nat) (x : Nat × Nat) (h : (runesOf l)[j]? = some x) : x.2 ≤ 1114111 := by
  have key : ∀ (f o : Nat) (l : List UInt8) (y : Nat × Nat), y ∈ runesS f o l → y.2 ≤ 1114111 := by
    intro f
    induction f with
    | zero => intro o l y hy; simp [runesS] at hy
    | succ f ih =>
      intro o l y hy
      cases l with
      | nil => simp [runesS] at hy
      | cons a r =>
        rw [runesS] at hy
        rcases List.mem_cons.1 hy with rfl | hy
        · exact decS_big _
        · exact ih _ _ _ hy
  exact key _ _ _ _ (List.mem_of_getElem? h)

end Go.Proofs.YtbghpkoimbmijaaGreatDoor

/- Walks: the program's Runes, whose runes are told to be within reach. -/
namespace Go.Proofs.YtbghpkoimbmijaaGreatDoor
open Go.RowKit
set_option linter.unusedSimpArgs false
attribute [local go_sem] Oper.semAt_some conv_sb

/-- a rune within reach -/
abbrev RunT := { x : Nat × Nat // x.2 ≤ 1114111 }

set_option maxRecDepth 100000 in
set_option maxHeartbeats 2000000 in
theorem runes_iterB (l tb : Nat) (s : ByteArray) (hs : s.size ≤ 1000000000) (K : World → World → Prop) (hKr : ∀ W, K W W) (hKt : ∀ a b c, K a b → K b c → K a c) (hKu : ∀ a b c, K a b → Up b c → K a c) (J Jx : List (Nat × Nat) → World → Prop) (W : World)
    (hJ : AbidesFrom W.heap.size J)
    (hY : ∀ (pre : List (Nat × Nat)) (x : Nat × Nat) W1, x.2 ≤ 1114111 → J pre W1 → pre.length < (runesOf s.data.toList).length → YieldAt Fence.wide 0 Tryz.prog l (encR x) W1 fun e W' =>
      (e = .returned (.bool true) ∧ J (pre ++ [x]) W' ∧ K W1 W') ∨ (e = .returned (.bool false) ∧ Jx (pre ++ [x]) W'))
    (hbox : ∀ W', K W W' → W'.cell? ⟨tb, 0, none⟩ = some (.string s) ∧ W.heap.size ≤ W'.heap.size) (h0 : J [] W) :
    CallsIn Fence.wide 1 Tryz.prog 101 #[.func (.yield l) #[] #[], .pointer (some ⟨tb, 0, none⟩)] W fun e W' => (∃ v, e = .returned v) ∧
      ((∃ xs, xs = runesOf s.data.toList ∧ J xs W') ∨ (∃ pre, pre <+: runesOf s.data.toList ∧ Jx pre W')) := by
  refine callsIn_of_wp Tryz.func101 rfl trivial ?_ rfl
  simp only [Tryz.ntmps101, List.size_toArray, List.length_cons, List.length_nil, Nat.reduceAdd, Nat.reduceSub, Array.replicate_succ, Array.replicate_zero, List.push_toArray, List.append_toArray, List.nil_append, List.cons_append]
  gi_wp2
  gi_loopw [3] (fun i wr => ∃ (a : Nat) (pre : List (Nat × Nat)), a ≤ s.size ∧ i = .int .i64 a ∧ pre ++ restS s.data.toList a = runesOf s.data.toList ∧ J pre wr ∧ K W wr)
    (fun i _ => s.size - (intOf i).toNat)
  case atStart => exact ⟨0, [], Nat.zero_le _, rfl, rfl, h0, hKr _⟩
  case round =>
    obtain ⟨a, pre, ha, rfl, hrest, hJs, hnx⟩ := hrel
    obtain ⟨hb0, hsz⟩ := hbox wr hnx
    by_cases hlt : a < s.size
    · obtain ⟨M, hM, hM2⟩ : ∃ M : Nat, (min (s.size : Int) ((a : Int) + 4)).toNat = M ∧ M = min s.size (a + 4) := ⟨_, rfl, by omega⟩
      obtain ⟨s4, hs4⟩ : ∃ s4, s.extract a M = s4 := ⟨_, rfl⟩
      have hsz4 : s4.size = M - a := by
        have h1 : s4.data.toList.length = s4.size := by simp
        have h2 : s.data.toList.length = s.size := by simp
        rw [← h1, ← hs4, extract_list, List.length_take, List.length_drop]
        omega
      have hl4 : s4.data.toList = (s.data.toList.drop a).take 4 := by
        rw [← hs4, extract_list, hM2]
        have : s.data.toList.length = s.size := by simp
        rw [List.take_eq_take_iff, List.length_drop]
        omega
      have hd : decS s4.data.toList = decS (s.data.toList.drop a) := by rw [hl4, decS_take]
      have hz4 : 0 < s4.size ∧ s4.size ≤ 4 := by
        have h1 : s4.data.toList.length = s4.size := by simp
        have h2 : s.data.toList.length = s.size := by simp
        rw [← h1, hl4, List.length_take, List.length_drop]
        omega
      obtain ⟨hr1, hr2, hr3⟩ := restS_at s.data.toList a (by simpa using hlt)
      rw [← hd] at hr1 hr2 hr3
      obtain ⟨r, n, hrn⟩ : ∃ r n, decS s4.data.toList = (r, n) := ⟨_, _, rfl⟩
      have hrb : r ≤ 1114111 := by have := decS_big s4.data.toList; rw [hrn] at this; exact this
      rw [hrn] at hr1 hr2 hr3
      dsimp only at hr1 hr2 hr3
      have hD := fun W1 (h : BytesAt W1 (some ⟨wr.heap.size, 0, none⟩) s4.data.toList) => p_decode_s wr.heap.size (grownCap wr s4.size 0 5) s4 W1 h hz4.1 (grownCap_ge _ _ _ _)
      rw [hrn] at hD
      dsimp only at hD
      have hn3 : a + n ≤ s.size := by simpa using hr3
      rw [hr1] at hrest
      have hlen : pre.length < (runesOf s.data.toList).length := by rw [← hrest]; simp
      obtain ⟨fn, tmps, assign, body, hy, hR⟩ := hY pre (a, r) (bytesLaid wr s4) hrb (hJ _ _ _ none hJs ((bytesLaid_up wr s4).grownBy none) (fun r e => by cases e)) hlen
      simp only [encR] at hy
      clear hr1 hr3 hl4 hd
      have hHD := Lib.hid hD
      have hzz := hz4.2
      have hM3 : min M s.size - a = s4.size := by omega
      clear hD hM2 hsz4
      rcases Nat.lt_or_ge (a + 4) s.size with hc | hc
      · have hci : (a : Int) + 4 < s.size := by omega
        gi_wp2_with (first | (refine ⟨trivial, ?_⟩; gi_at_call 63; refine (callsIn_wide.2 (hHD.out _ (bytesLaid_at wr s4 (by omega)))).mono ?_; rintro e w2 ⟨⟨g, rfl⟩, rfl⟩))
        refine hR.mono ?_
        rintro e W3 (⟨rfl, hJ3, hk3⟩ | ⟨rfl, hJx3⟩)
        · gi_wp2
          go_roundw
          case rel => exact ⟨a + n, pre ++ [(a, r)], hn3, by congr 1, by rw [← hrest]; simp, hJ3, hKt _ _ _ (hKu _ _ _ hnx (bytesLaid_up wr s4)) hk3⟩
          case measure => simp [intOf]; omega
        · gi_wp2
          refine bodyPost_ret (results_none rfl _ _ _) rfl ?_
          exact ⟨⟨_, rfl⟩, .inr ⟨_, by rw [← hrest]; exact ⟨restS s.data.toList (a + n), by simp⟩, hJx3⟩⟩
      · have hci : (s.size : Int) ≤ (a : Int) + 4 := by omega
        gi_wp2_with (first | (refine ⟨trivial, ?_⟩; gi_at_call 63; refine (callsIn_wide.2 (hHD.out _ (bytesLaid_at wr s4 (by omega)))).mono ?_; rintro e w2 ⟨⟨g, rfl⟩, rfl⟩))
        refine hR.mono ?_
        rintro e W3 (⟨rfl, hJ3, hk3⟩ | ⟨rfl, hJx3⟩)
        · gi_wp2
          go_roundw
          case rel => exact ⟨a + n, pre ++ [(a, r)], hn3, by congr 1, by rw [← hrest]; simp, hJ3, hKt _ _ _ (hKu _ _ _ hnx (bytesLaid_up wr s4)) hk3⟩
          case measure => simp [intOf]; omega
        · gi_wp2
          refine bodyPost_ret (results_none rfl _ _ _) rfl ?_
          exact ⟨⟨_, rfl⟩, .inr ⟨_, by rw [← hrest]; exact ⟨restS s.data.toList (a + n), by simp⟩, hJx3⟩⟩
    · obtain rfl : a = s.size := by omega
      gi_wp2
      go_end0
      exact ⟨⟨_, rfl⟩, .inl ⟨_, rfl, by rw [restS_end _ _ (by simp), List.append_nil] at hrest; exact hrest ▸ hJs⟩⟩

theorem runes_stopsB (tb : Nat) (s : ByteArray) (hs : s.size ≤ 1000000000) (K : World → World → Prop) (hKr : ∀ W, K W W) (hKt : ∀ a b c, K a b → K b c → K a c) (hKu : ∀ a b c, K a b → Up b c → K a c) (w : World)
    (hbox : ∀ W W', Up w W → K W W' → W'.cell? ⟨tb, 0, none⟩ = some (.string s) ∧ W.heap.size ≤ W'.heap.size) :
    SeqStopsK Fence.wide 1 Tryz.prog 101 #[.pointer (some ⟨tb, 0, none⟩)] (fun x : RunT => encR x.1) K (fun xs => xs.map (·.1) = runesOf s.data.toList) (fun _ => True) (runesOf s.data.toList).length w := by
  intro l J0 Jx0 W hW hJ0 hJx0 hY0 h00
  refine CallsIn.mono (runes_iterB l tb s hs K hKr hKt hKu (fun pre W => ∃ xs : List RunT, xs.map (·.1) = pre ∧ J0 xs W) (fun pre W => ∃ xs : List RunT, xs.map (·.1) = pre ∧ Jx0 xs W) W
    (fun p A B row ⟨xs, e, h⟩ hg hr => ⟨xs, e, hJ0 xs A B row h hg hr⟩) ?_ (fun W' hk => hbox W W' hW hk) ⟨[], rfl, h00⟩) ?_
  · rintro pre x W1 hb ⟨xs, rfl, hj⟩ hl
    obtain ⟨fn, tmps, assign, body, hy, hR⟩ := hY0 xs ⟨x, hb⟩ W1 hj (by simpa using hl)
    refine ⟨fn, tmps, assign, body, hy, hR.mono ?_⟩
    rintro e W' (⟨rfl, h1, h2⟩ | ⟨rfl, h1⟩)
    · exact .inl ⟨rfl, ⟨xs ++ [⟨x, hb⟩], by simp, h1⟩, h2⟩
    · exact .inr ⟨rfl, xs ++ [⟨x, hb⟩], by simp, h1⟩
  · rintro e W' ⟨hv, ⟨xs, rfl, ys, hy, hj⟩ | ⟨pre, hp, ys, hy, hj⟩⟩
    · exact ⟨hv, Or.inl ⟨ys, hy, hj⟩⟩
    · exact ⟨hv, Or.inr ⟨ys, trivial, hj⟩⟩

end Go.Proofs.YtbghpkoimbmijaaGreatDoor

/- Contracts of the library at this dump, in plain words (printed by the kit's lay-shelf.mjs, lay-plain.mjs; those that are used). -/
namespace Go.Proofs
open Go.Shelf
def Tryz.lays169_ren : Go.Shelf.Ren := ⟨fun | 169 => 92 | n => n, fun | 70 => 139 | 9 => 9 | 0 => 0 | 72 => 141 | 37 => 119 | 127 => 160 | 3 => 3 | 5 => 5 | n => n, fun | n => n⟩
theorem Tryz.lays169 : Go.Proofs.Lays.n169 Tryz.prog Tryz.lays169_ren := {
  mixed := by kernel_rfl
  f169 := Tryz.func92.trans (congrArg some (by kernel_rfl))
  t0 := Tryz.underlying0
  a0 := Tryz.isAgg0
  z0 := Tryz.sizeOf0
  v0 := Tryz.zeroValue0
  t3 := Tryz.underlying3
  a3 := Tryz.isAgg3
  z3 := Tryz.sizeOf3
  v3 := Tryz.zeroValue3
  t9 := Tryz.underlying9
  a9 := Tryz.isAgg9
  z9 := Tryz.sizeOf9
  v9 := Tryz.zeroValue9
  t37 := Tryz.underlying119
  a37 := Tryz.isAgg119
  z37 := Tryz.sizeOf119
  v37 := Tryz.zeroValue119
  t70 := Tryz.underlying139
  a70 := Tryz.isAgg139
  z70 := Tryz.sizeOf139
  v70 := Tryz.zeroValue139
  t72 := Tryz.underlying141
  a72 := Tryz.isAgg141
  z72 := Tryz.sizeOf141
  v72 := Tryz.zeroValue141
  t127 := Tryz.underlying160
  a127 := Tryz.isAgg160
  z127 := Tryz.sizeOf160
  v127 := Tryz.zeroValue160 }
theorem Tryz.Builder_Extra_169 : Builder.Extra Tryz.prog Tryz.lays169_ren := {
  sizeBuilder := by kernel_rfl
  liesBuilder := by kernel_rfl
  t5 := Tryz.underlying5
  a5 := Tryz.isAgg5
  z5 := Tryz.sizeOf5
  v5 := Tryz.zeroValue5
  infoByte := by kernel_rfl
  cellsByte := by kernel_rfl
  sizeByte := by kernel_rfl
  neB5 := by decide }
end Go.Proofs

/- Walks: a text in quotes: the program's. -/
namespace Go.Proofs.YtbghpkoimbmijaaGreatDoor
open Go.RowKit
set_option linter.unusedSimpArgs false

theorem p_runes_at (s : ByteArray) (w0 W : World) (q cap : Nat) (hW : W = bytesLaid w0 s) (hq : q = w0.heap.size) (hs : s.size ≤ 1000000000) : Calls Tryz.prog 88 #[.slice (some ⟨q, 0, none⟩) s.size cap] W fun e w' => ∃ tb, e = .returned (.func (.func 101) #[] #[.pointer (some ⟨tb, 0, none⟩)]) ∧ w'.heap[tb]? = some (.cells #[.string s] 9 (0, 0)) ∧ W.heap.size ≤ tb ∧ Up W w' := by
  subst hW hq
  have := p_runes w0.heap.size cap s.data.toList (bytesLaid w0 s) (bytesLaid_at w0 s hs)
  rw [show s.data.toList.length = s.size by simp] at this
  refine this.mono ?_
  rintro e w' ⟨rfl, rfl⟩
  exact ⟨_, rfl, alloc_get _ _, Nat.le_refl _, (Up.refl _).alloc _⟩


attribute [local go_sem] Oper.semAt_some conv_sb

/-- what a round keeps of cells that hold no bytes -/
structure QK (b : Nat) (a c : World) : Prop where
  size : a.heap.size ≤ c.heap.size
  same : ∀ x cs t fz, x ≠ b → t ≠ ByT → a.heap[x]? = some (.cells cs t fz) → c.heap[x]? = some (.cells cs t fz)
theorem QK.refl (b : Nat) (w : World) : QK b w w := ⟨Nat.le_refl _, fun _ _ _ _ _ _ h => h⟩
theorem QK.trans {b : Nat} {x y z : World} (h : QK b x y) (k : QK b y z) : QK b x z := ⟨Nat.le_trans h.size k.size, fun i cs t fz hi ht hx => k.same i cs t fz hi ht (h.same i cs t fz hi ht hx)⟩
theorem QK.up {b : Nat} {x y z : World} (h : QK b x y) (k : Up y z) : QK b x z := h.trans ⟨k.size, fun _ _ _ _ _ _ hx => k.get hx⟩
theorem QK.putObj (b : Nat) (W : World) (l : Nat) (o o' : Obj) (h : W.heap[l]? = some o) (hc : o.isCells = false) : QK b W (W.putObj l o') where
  size := by simp
  same := fun x cs t fz _ _ hx => by
    rw [World.putObj_heap_other (fun e => by subst e; rw [h] at hx; cases hx; cases hc)]
    exact hx

theorem built_size {b : Nat} {bs : List UInt8} {w w' : World} (h : Built b bs w w') : w.heap.size ≤ w'.heap.size := h.low.size
theorem built_qk {b : Nat} {bs : List UInt8} {w w' : World} (h : Built b bs w w') : QK b w w' :=
  ⟨h.low.size, fun x cs t fz hx ht hc => h.others x _ hc (fun e => hx (by cases e; rfl)) (fun c f e => ht (by cases e; rfl))⟩
theorem IsB.cells {b : Nat} {bs : List UInt8} {w : World} (h : IsB b bs w) : ∃ (cs : Array Value) (t : TypeId) (fz : Nat × Nat), w.heap[b]? = some (.cells cs t fz) := by
  rcases h with h | h
  · obtain ⟨_, v, hv, _⟩ := h; exact ⟨_, _, _, hv⟩
  · obtain ⟨_, v, hv, _⟩ := h; exact ⟨_, _, _, hv⟩
theorem built_keeps {b : Nat} {bs bs0 : List UInt8} {w w' : World} (h0 : IsB b bs0 w) (h : Built b bs w w') : KeepsOthers w w' := by
  obtain ⟨cs, t, fz, hb⟩ := h0.cells
  refine ⟨h.low.size, fun k o hk ho => h.others k o hk (fun e => ?_) (fun c f e => by subst e; cases ho)⟩
  have e : k = b := by cases e; rfl
  rw [e, hb] at hk
  cases hk
  cases ho
theorem up_keeps {w w' : World} (k : Up w w') : KeepsOthers w w' := ⟨k.size, fun _ _ hx _ => k.get hx⟩
theorem up_qk (b : Nat) {w w' : World} (k : Up w w') : QK b w w' := (QK.refl b w).up k

/-- between two rounds -/
def QuoI (w : World) (pre : List (Nat × Nat)) (W : World) : Prop := Up w W ∧ IsB w.heap.size (quoteL ⟨#[34]⟩ pre).data.toList W
theorem QuoI.own (w : World) (B : Nat) (hB : w.heap.size ≤ B) : OwnFrom B (QuoI w) := fun _ _ _ _ hs hg hr =>
  ⟨hs.1.grown hg (fun r e => Nat.le_trans hB (hr r e).1), hs.2.kept fun _ _ _ _ hx => keep_own hx hg hr⟩
theorem QuoI.on {w W W' : World} {pre : List (Nat × Nat)} {x : Nat × Nat} (h : QuoI w pre W) (k : Built w.heap.size ((quoteL ⟨#[34]⟩ pre).data.toList ++ (quoteR x.2).data.toList) W W') : QuoI w (pre ++ [x]) W' := by
  refine ⟨⟨k.low.os.trans h.1.os, k.low.tape.trans h.1.tape, k.low.output.trans h.1.output, Nat.le_trans h.1.size k.low.size, fun i hi => (k.low.block i hi).trans (h.1.block i hi)⟩, ?_⟩
  have e : (quoteL ⟨#[34]⟩ (pre ++ [x])).data.toList = (quoteL ⟨#[34]⟩ pre).data.toList ++ (quoteR x.2).data.toList := by
    unfold quoteL
    rw [List.foldl_append, List.foldl_cons, List.foldl_nil]
    simp [ByteArray.data_append]
  rw [e]
  exact k.is

theorem quoteL_few (pre : List (Nat × Nat)) : (quoteL ⟨#[34]⟩ pre).data.toList.length ≤ 1 + 6 * pre.length := by
  have key : ∀ (l : List (Nat × Nat)) (acc : ByteArray), (quoteL acc l).size ≤ acc.size + 6 * l.length := by
    intro l
    induction l with
    | nil => intro acc; simp [quoteL]
    | cons x l ih =>
      intro acc
      have h := ih (acc ++ quoteR x.2)
      have h2 := quoteR_size x.2
      rw [ByteArray.size_append] at h
      show (quoteL (acc ++ quoteR x.2) l).size ≤ _
      simp only [List.length_cons]
      omega
  have h := key pre ⟨#[34]⟩
  have h1 : (⟨#[34]⟩ : ByteArray).size = 1 := rfl
  have h2 : (quoteL ⟨#[34]⟩ pre).data.toList.length = (quoteL ⟨#[34]⟩ pre).size := by simp
  rw [h1] at h
  omega

theorem Built.after {b : Nat} {bs1 bs2 : List UInt8} {x y z : World} (h : Built b bs1 x y) (k : Built b bs2 y z) : Built b bs2 x z := ⟨k.at_, h.low.trans k.low, h.others.trans k.others⟩
theorem Built.behind {b : Nat} {bs2 : List UInt8} {x y z : World} (hb : b ≤ x.heap.size) (h : Up x y) (k : Built b bs2 y z) : Built b bs2 x z := ⟨k.at_, Below.trans (Below.mono h hb) k.low, fun i o hi h1 h2 => k.others i o (h.get hi) h1 h2⟩
theorem WriteByte_z (b : Nat) (bs : List UInt8) (c : UInt8) (z : Int) (hz : (c.toNat : Int) = z) (w : World) (h : IsB b bs w) (hlen : bs.length + 1 ≤ 140737488355328) :
    Calls Tryz.prog 87 #[.pointer (some ⟨b, 0, none⟩), .int .u8 z] w fun e w' => e = .returned .nilIface ∧ Built b (bs ++ [c]) w w' := by
  subst hz
  exact WriteByte_b b bs c w h hlen
theorem WriteRune_z (b : Nat) (bs : List UInt8) (r : Nat) (z : Int) (hz : (r : Int) = z) (hr : r ≤ 1114111) (w : World) (h : IsB b bs w) (hlen : bs.length + 4 ≤ 140737488355328) :
    Calls Tryz.prog 89 #[.pointer (some ⟨b, 0, none⟩), .int .i32 z] w fun e w' => (∃ n, e = .returned (.tuple #[.int .i64 n, .nilIface])) ∧ Built b (bs ++ (Utf8.encode r).data.toList) w w' := by
  subst hz
  exact WriteRune_b b bs r hr w h hlen
theorem String_b (b : Nat) (bs : List UInt8) (w : World) (h : IsB b bs w) :
    Calls Tryz.prog 92 #[.pointer (some ⟨b, 0, none⟩)] w fun e w' => e = .returned (.string ⟨bs.toArray⟩) ∧ Below b w w' ∧ Lib.OthersKept ByT (some b) w w' :=
  (Any.Builder_String_any_k Tryz.lays169 Tryz.Builder_Extra_169 b b bs w (Lib.IsBuilderF.of h) (Nat.le_of_lt h.lt)).mono fun _ _ ⟨h1, _, h2, h3⟩ => ⟨h1, h2, h3⟩

/-- a round's end -/
theorem quo_post {w W W' : World} {pre : List RunT} {x : RunT} {bs : List UInt8} (hI : QuoI w (pre.map (·.1)) W) (hB : Built w.heap.size bs W W') (he : bs = (quoteL ⟨#[34]⟩ (pre.map (·.1))).data.toList ++ (quoteR x.1.2).data.toList) :
    KeepsOthers W W' ∧ QK w.heap.size W W' ∧ QuoI w ((pre ++ [x]).map (·.1)) W' := by
  subst he
  refine ⟨built_keeps hI.2 hB, built_qk hB, ?_⟩
  rw [List.map_append]
  exact hI.on hB

set_option maxRecDepth 100000 in
set_option maxHeartbeats 4000000 in
theorem p_quote (s : ByteArray) (hs : s.size ≤ 1000000000) (w : World) (hb : Bru w) : Calls Tryz.prog 72 #[.string s] w fun e w' => e = .returned (.string (quoteS s)) ∧ Up w w' := by
  have HS := Lib.hid hs
  have HB := Lib.hid hb
  have HS2 := Lib.hid (show s.size ≤ 1000000000 by omega)
  have HLE : Hid ((runesOf s.data.toList).length ≤ 1000000000) := Nat.le_trans (runesS_len _ _ _) (show s.data.toList.length ≤ 1000000000 by have h3 : s.data.toList.length = s.size := rfl; omega)
  clear hs hb
  have HN := Lib.hid (IsB.new w)
  refine callsIn_wide.1 (callsIn_of_wp_marks (n := 2) Tryz.func72 rfl trivial ?_)
  refine wpIn_wide.2 ?_
  simp only [Tryz.ntmps72, List.size_toArray, List.length_cons, List.length_nil, Nat.reduceAdd, Nat.reduceSub, Array.replicate_succ, Array.replicate_zero, List.push_toArray, List.append_toArray, List.nil_append, List.cons_append]
  go_wp2_with (first | (go_at_call 87; refine (WriteByte_z w.heap.size [] 34 _ rfl _ HN.out (by decide)).mono ?_; rintro e w1 ⟨rfl, hB1⟩) | (go_at_call 88; refine (p_runes_at s _ _ _ _ rfl (by simp) HS2.out).mono ?_; rintro e w2 ⟨tb, rfl, htb, htl, hu2⟩))
  have hu12 : Up w1 w2 := Up.trans (bytesLaid_up _ _) hu2
  have hI0 : QuoI w (([] : List RunT).map (·.1)) w2 := by
    refine ⟨Up.trans ?_ hu12, (hB1.is).up hu12⟩
    exact ⟨hB1.low.os, hB1.low.tape, hB1.low.output, Nat.le_trans (by simp) hB1.low.size, fun i hi => (hB1.low.block i hi).trans (Below.heap_alloc _ _ _ hi)⟩
  have hbt : w.heap.size < w1.heap.size := hB1.is.lt
  have htn : tb ≠ w.heap.size := by rw [bytesLaid_size] at htl; omega
  have hw2 := lt_of_heap htb
  clear hB1 hu12 htl hu2
  refine range_named fun A W4 hA hW => ?_
  subst hW
  refine (wpIn_wide (n := 2)).1 ?_
  refine wpIn_rangeFunc_ownF rfl (by omega) (gf := 101) (lb := #[.pointer (some ⟨tb, 0, none⟩)]) (by subst hA; rfl) trivial (enters_of Tryz.func101 (by kernel_rfl) rfl)
    (runes_stopsB tb s HS2.out (QK w.heap.size) (QK.refl _) (fun _ _ _ => QK.trans) (fun _ _ _ => QK.up) W4 (fun X Y hX hY => ⟨by have := cell_of (hY.same tb _ _ _ htn (by decide) (hX.get htb)) 0; simpa using this, hY.size⟩))
    QK.trans (fun W l o o' _ h1 h2 _ => QK.putObj _ W l o o' h1 h2) (Below.refl _ _) (fun _ => rfl)
    (fun (pre : List RunT) W => QuoI w (pre.map (·.1)) W) (fun _ _ _ => False) (fun s => QuoI.own w _ hI0.1.size (s.map (·.1))) (fun _ _ _ _ _ h _ _ => h) hI0
    (fun (x : RunT) => { tmps := ((A.tmps.setIfInBounds 10 (.int .i64 x.1.1)).setIfInBounds 11 (.int .i32 x.1.2)).setIfInBounds 5 (.int .i32 x.1.2), defers := [] }) ?assign ?body ?done ?stop
  case assign => intro l x W K hK; subst hA; gi_wp2; simpa [encR] using hK
  case body =>
    rintro l pre ⟨⟨x1, r⟩, hrb⟩ W hI hlen
    have hrb : r ≤ 1114111 := hrb
    have hq : (quoteL ⟨#[34]⟩ (pre.map (·.1))).data.toList.length ≤ 6000000001 := by have h1 := quoteL_few (pre.map (·.1)); have h2 := HLE.out; rw [List.length_map] at h1; omega
    have HI := Lib.hid hI
    have HQ := Lib.hid hq
    have HP : Hid (∀ (bs : List UInt8) (W' : World), bs = (quoteL ⟨#[34]⟩ (pre.map (·.1))).data.toList ++ (quoteR r).data.toList → Built w.heap.size bs W W' → KeepsOthers W W' ∧ QK w.heap.size W W' ∧ QuoI w ((pre ++ [(⟨⟨x1, r⟩, hrb⟩ : RunT)]).map (·.1)) W') := fun bs W' he hB => quo_post hI hB he
    have hri : (r : Int) ≤ 1114111 := by omega
    clear hI hlen hq htb htn hI0
    subst hA
    simp only [List.setIfInBounds_toArray, List.set_cons_succ, List.set_cons_zero]
    by_cases c1 : r = 92
    · subst c1
      gi_wp2_with (first | (refine ⟨trivial, rfl, ?_⟩; gi_at_call 87; refine (CallsIn.inRound l (callsIn_wide.2 (WriteByte_z w.heap.size _ 92 _ rfl _ HI.out.2 (by have := HQ.out; omega)))).mono ?_; rintro e W2 ⟨rfl, hB2⟩) | (refine ⟨trivial, rfl, ?_⟩; gi_at_call 89; refine (CallsIn.inRound l (callsIn_wide.2 (WriteRune_z w.heap.size _ 92 _ rfl (by omega) _ hB2.is (by have := HQ.out; simp only [List.length_append, List.length_cons, List.length_nil]; omega)))).mono ?_; rintro e W3 ⟨⟨m, rfl⟩, hB3⟩))
      exact HP.out _ _ (by rw [List.append_assoc]; rfl) (hB2.after hB3)
    by_cases c2 : r = 34
    · subst c2
      gi_wp2_with (first | (refine ⟨trivial, rfl, ?_⟩; gi_at_call 87; refine (CallsIn.inRound l (callsIn_wide.2 (WriteByte_z w.heap.size _ 92 _ rfl _ HI.out.2 (by have := HQ.out; omega)))).mono ?_; rintro e W2 ⟨rfl, hB2⟩) | (refine ⟨trivial, rfl, ?_⟩; gi_at_call 89; refine (CallsIn.inRound l (callsIn_wide.2 (WriteRune_z w.heap.size _ 34 _ rfl (by omega) _ hB2.is (by have := HQ.out; simp only [List.length_append, List.length_cons, List.length_nil]; omega)))).mono ?_; rintro e W3 ⟨⟨m, rfl⟩, hB3⟩))
      exact HP.out _ _ (by rw [List.append_assoc]; rfl) (hB2.after hB3)
    by_cases c3 : r = 10
    · subst c3
      gi_wp2_with (first | (refine ⟨trivial, rfl, ?_⟩; gi_at_call 90; refine (CallsIn.inRound l (callsIn_wide.2 (WriteString_b w.heap.size _ _ _ HI.out.2 (by have := HQ.out; show _ + 2 ≤ _; omega)))).mono ?_; rintro e W3 ⟨rfl, hB3⟩))
      exact HP.out _ _ rfl hB3
    by_cases c4 : r = 13
    · subst c4
      gi_wp2_with (first | (refine ⟨trivial, rfl, ?_⟩; gi_at_call 90; refine (CallsIn.inRound l (callsIn_wide.2 (WriteString_b w.heap.size _ _ _ HI.out.2 (by have := HQ.out; show _ + 2 ≤ _; omega)))).mono ?_; rintro e W3 ⟨rfl, hB3⟩))
      exact HP.out _ _ rfl hB3
    by_cases c5 : r = 9
    · subst c5
      gi_wp2_with (first | (refine ⟨trivial, rfl, ?_⟩; gi_at_call 90; refine (CallsIn.inRound l (callsIn_wide.2 (WriteString_b w.heap.size _ _ _ HI.out.2 (by have := HQ.out; show _ + 2 ≤ _; omega)))).mono ?_; rintro e W3 ⟨rfl, hB3⟩))
      exact HP.out _ _ rfl hB3
    have e1 : ((r : Int) == 92) = false := by simp; omega
    have e2 : ((r : Int) == 34) = false := by simp; omega
    have e3 : ((r : Int) == 10) = false := by simp; omega
    have e4 : ((r : Int) == 13) = false := by simp; omega
    have e5 : ((r : Int) == 9) = false := by simp; omega
    by_cases c6 : r < 32 ∨ r = 127
    · have hqr : Hid (quoteR r = ⟨#[92, 117, 123]⟩ ++ hexS r ++ ⟨#[125]⟩) := by unfold Hid quoteR; rw [if_neg (by omega), if_neg c3, if_neg c4, if_neg c5, if_pos c6]
      have hx2 := hexS_size r
      have HC := Lib.hid c6
      rcases c6 with c6 | c6
      · have c7 : (r : Int) < 32 := by omega
        clear c1 c2 c3 c4 c5 c6
        gi_wp2_with (first | (refine ⟨trivial, rfl, ?_⟩; gi_at_call 91; refine (CallsIn.inRound l (callsIn_wide.2 (p_int_any r HC.out _ (HB.out.up HI.out.1)))).mono ?_; rintro e W2 ⟨rfl, hu2⟩) | (refine ⟨trivial, rfl, ?_⟩; gi_at_call 90; refine (CallsIn.inRound l (callsIn_wide.2 (WriteString_b w.heap.size _ _ _ (HI.out.2.up hu2) (by have := HQ.out; simp only [ByteArray.size_append]; have h7 : (⟨#[92, 117, 123]⟩ : ByteArray).size = 3 := rfl; have h8 : (⟨#[125]⟩ : ByteArray).size = 1 := rfl; omega)))).mono ?_; rintro e W3 ⟨rfl, hB3⟩))
        exact HP.out _ _ (by rw [hqr.out]) (hB3.behind (Nat.le_of_lt HI.out.2.lt) hu2)
      · subst c6
        gi_wp2_with (first | (refine ⟨trivial, rfl, ?_⟩; gi_at_call 91; refine (CallsIn.inRound l (callsIn_wide.2 (p_int_any 127 (.inr rfl) _ (HB.out.up HI.out.1)))).mono ?_; rintro e W2 ⟨rfl, hu2⟩) | (refine ⟨trivial, rfl, ?_⟩; gi_at_call 90; refine (CallsIn.inRound l (callsIn_wide.2 (WriteString_b w.heap.size _ _ _ (HI.out.2.up hu2) (by have := HQ.out; simp only [ByteArray.size_append]; have h7 : (⟨#[92, 117, 123]⟩ : ByteArray).size = 3 := rfl; have h8 : (⟨#[125]⟩ : ByteArray).size = 1 := rfl; omega)))).mono ?_; rintro e W3 ⟨rfl, hB3⟩))
        exact HP.out _ _ (by rw [hqr.out]) (hB3.behind (Nat.le_of_lt HI.out.2.lt) hu2)
    · have hqr : Hid (quoteR r = Utf8.encode r) := by unfold Hid quoteR; rw [if_neg (by omega), if_neg c3, if_neg c4, if_neg c5, if_neg c6]
      have c7 : ¬ (r : Int) < 32 := by omega
      have c8 : ((r : Int) == 127) = false := by simp; omega
      clear c1 c2 c3 c4 c5 c6
      gi_wp2_with (first | (refine ⟨trivial, rfl, ?_⟩; gi_at_call 89; refine (CallsIn.inRound l (callsIn_wide.2 (WriteRune_z w.heap.size _ r _ rfl (by omega) _ HI.out.2 (by have := HQ.out; omega)))).mono ?_; rintro e W3 ⟨⟨m, rfl⟩, hB3⟩))
      exact HP.out _ _ (by rw [hqr.out]) hB3
  case done =>
    rintro D xs W hD hxs hI hK
    have HI := Lib.hid hI
    have HK := Lib.hid hK
    have hq : (quoteL ⟨#[34]⟩ (xs.map (·.1))).data.toList.length ≤ 6000000001 := by have h1 := quoteL_few (xs.map (·.1)); have h2 := HLE.out; rw [← hxs] at h2; omega
    have HQ := Lib.hid hq
    have HX : Hid (xs.map (·.1) = runesOf s.data.toList) := hxs
    have hI2 : Hid (w.heap.size < D) := by have := hI0.2.lt; unfold Hid; omega
    clear hI hK hq hxs htb htn hI0
    subst hA
    go_wp2_with (first | (go_at_call 87; refine (WriteByte_z w.heap.size _ 34 _ rfl _ HI.out.2 (by have := HQ.out; omega)).mono ?_; rintro e W2 ⟨rfl, hB2⟩) | (go_at_call 92; refine (String_b w.heap.size _ _ hB2.is).mono ?_; rintro e W3 ⟨rfl, hb3, ho3⟩))
    have hK3 : W3.heap[D]? = some (.deferred (some [])) := ho3 D _ (hB2.others D _ HK.out (fun e => by
        have e : D = w.heap.size := by cases e; rfl
        have := hI2.out
        omega) (fun c f e => by cases e)) (fun e => by
        have e : D = w.heap.size := by cases e; rfl
        have := hI2.out
        omega) (fun c f e => by cases e)
    refine ⟨by simp, .inl ⟨_, _, rfl, run_takeDeferred hK3, ?_⟩⟩
    refine ⟨_, results_tmp rfl _ _ _, ?_, ?_⟩
    · have e : (⟨((quoteL ⟨#[34]⟩ (xs.map (fun y : RunT => y.1))).data.toList ++ [34]).toArray⟩ : ByteArray) = quoteS s := by
        unfold quoteS
        rw [HX.out]
        apply ByteArray.ext
        apply Array.ext'
        simp [ByteArray.data_append]
      exact congrArg (fun x => Ending.returned (Value.string x)) e
    · refine Up.grown (W := W3) ?_ (grownBy_putObj' _ D _) (fun r e => by cases e; have := hI2.out; omega)
      have u1 := HI.out.1
      exact ⟨hb3.os.trans (hB2.low.os.trans u1.os), hb3.tape.trans (hB2.low.tape.trans u1.tape), hb3.output.trans (hB2.low.output.trans u1.output), Nat.le_trans u1.size (Nat.le_trans hB2.low.size hb3.size), fun b hb => (hb3.block b hb).trans ((hB2.low.block b hb).trans (u1.block b hb))⟩
  case stop =>
    rintro D c pre W hD hSp h hK
    exact h.elim

theorem quote_any : QuoteAny := fun s w hs hb => p_quote s hs w hb

end Go.Proofs.YtbghpkoimbmijaaGreatDoor

/- Walks: unions in general, of trees. -/
namespace Go.Proofs.YtbghpkoimbmijaaGreatDoor
open Go.RowKit
set_option linter.unusedSimpArgs false

/-- blocks made from now on may be used -/
def Open (N : Nat → Prop) (w : World) : Prop := ∀ x, w.heap.size ≤ x → N x
theorem Open.memo {N : Nat → Prop} {S : Nat → Prop} {B : Nat} {w w' : World} (h : Open N w) (k : Memo S B w w') : Open N w' := fun x hx => h x (Nat.le_trans k.size hx)
theorem Open.up {N : Nat → Prop} {w w' : World} (h : Open N w) (k : Up w w') : Open N w' := fun x hx => h x (Nat.le_trans k.size hx)
/-- what is made of a type -/
def DoR (N : Nat → Prop) (B : Nat) (w : World) (c' : Ty) (e : Ending) (w' : World) : Prop := ∃ c u, e = .returned (.pointer (some ⟨c, 0, none⟩)) ∧ TyAt N B w' c u ∧ u.Valid ∧ u.canon = c' ∧ Memo none1 B w w'

/-- names of a type, sizes of rows of types -/
structure Fit (ts : List Ty) : Prop where
  valid : ∀ t ∈ ts, t.Valid
  names : ∀ t ∈ ts, t.namesLe 2000000
  nodes : (ts.map Ty.nodes).sum ≤ 90000
  len : ts.length ≤ 1000
theorem Fit.sm {ts : List Ty} (h : Fit ts) {t : Ty} (ht : t ∈ ts) : Sm t := ⟨by have := sum_mem (List.mem_map_of_mem (f := Ty.nodes) ht); have := h.nodes; omega, h.names t ht⟩
theorem Ty.namesLe_part {M : Nat} {t : Ty} (h : t.namesLe M) : ∀ p ∈ t.parts, p.namesLe M := by
  cases t with
  | mk k n nm ps ns ms => exact (Ty.namesLe_mk.1 h).2.2
theorem Sm.of_part {t p : Ty} (h : Sm t) (hp : p ∈ t.parts) : Sm p := by
  cases t with
  | mk k n nm ps ns ms => exact h.part hp
theorem flat_valid {t : Ty} (h : t.Valid) : ∀ p ∈ t.flat, p.Valid ∧ p.kind ≠ 16 := by
  intro p hp
  unfold Ty.flat at hp
  split at hp
  · rename_i hk
    revert hk hp
    cases h with
    | un ps hl hk' hs hg hpv => intro _ hp; exact ⟨hpv p hp, (hk' p hp).1⟩
    | basic => intro h; exact absurd h (by simp only [Ty.kind]; omega)
    | num => intro h; exact absurd h (by simp only [Ty.kind]; omega)
    | str => intro h; exact absurd h (by simp only [Ty.kind]; omega)
    | arr => intro h; exact absurd h (by simp only [Ty.kind]; omega)
    | obj => intro h; exact absurd h (by simp only [Ty.kind]; omega)
    | fn => intro h; exact absurd h (by simp only [Ty.kind]; omega)
    | ref => intro h; exact absurd h (by simp only [Ty.kind]; omega)
    | named hk => intro h; exact absurd h (by simp only [Ty.kind]; omega)
    | case => intro h; exact absurd h (by simp only [Ty.kind]; omega)
  · rename_i hk
    cases List.mem_singleton.1 hp
    exact ⟨h, hk⟩
theorem flat_sm {t : Ty} (h : Sm t) : ∀ p ∈ t.flat, Sm p := by
  intro p hp
  unfold Ty.flat at hp
  split at hp
  · exact h.of_part hp
  · cases List.mem_singleton.1 hp
    exact h
theorem flat_canon (t : Ty) : t.canon.flat = t.flat.map Ty.canon := by
  unfold Ty.flat
  rw [Ty.canon_kind]
  split
  · exact Ty.canon_parts t
  · rfl
theorem flat_length (t : Ty) : t.flat.length ≤ t.nodes := by
  unfold Ty.flat
  split
  · cases t with
    | mk k n nm ps ns ms =>
      rw [Ty.nodes_mk]
      have := Ty.parts_nodes ps
      show ps.length ≤ _
      omega
  · have := t.nodes_pos
    simpa using this
theorem union_parts {t : Ty} (h : t.Valid) (hk : t.kind = 16) : t.parts ≠ [] := by
  revert hk
  cases h with
  | un ps hl => intro _ e; simp only [Ty.parts] at e; subst e; simp at hl
  | basic => intro h; exact absurd h (by simp only [Ty.kind]; omega)
  | num => intro h; exact absurd h (by simp only [Ty.kind]; omega)
  | str => intro h; exact absurd h (by simp only [Ty.kind]; omega)
  | arr => intro h; exact absurd h (by simp only [Ty.kind]; omega)
  | obj => intro h; exact absurd h (by simp only [Ty.kind]; omega)
  | fn => intro h; exact absurd h (by simp only [Ty.kind]; omega)
  | ref => intro h; exact absurd h (by simp only [Ty.kind]; omega)
  | named hk => intro h; exact absurd h (by simp only [Ty.kind]; omega)
  | case => intro h; exact absurd h (by simp only [Ty.kind]; omega)
theorem text_all {t : Ty} (h : t.Valid) (hs : Sm t) : TextAny t := text_any quote_any h hs

/-- a list of what is given to a union -/
theorem flats_of {N : Nat → Prop} {B : Nat} {tr : Nat → Ty} {w : World} (htr : ∀ b t, TyAt N B w b t → tr b = t) : ∀ (bs : List Nat) (ts : List Ty), bs.length = ts.length → (∀ (j b : Nat) (t : Ty), bs[j]? = some b → ts[j]? = some t → TyAt N B w b t) → (∀ t ∈ ts, t.Valid) →
    ∃ G : List (Nat × List Nat), G.map (·.1) = bs ∧ (∀ x ∈ G, FlatIn N B tr w x ∧ tr x.1 ∈ ts) ∧ G.map (fun x => tr x.1) = ts
  | [], [], _, _, _ => ⟨[], rfl, (fun x hx => by cases hx), rfl⟩
  | [], t :: ts, h, _, _ => by simp at h
  | b :: bs, [], h, _, _ => by simp at h
  | b :: bs, t :: ts, h, ht, hv => by
    obtain ⟨G, h1, h2, h3⟩ := flats_of htr bs ts (by simpa using h) (fun j c u h1 h2 => ht (j + 1) c u (by simpa using h1) (by simpa using h2)) (fun u hu => hv u (by simp [hu]))
    have hbt := ht 0 b t rfl rfl
    obtain ⟨qs, hq⟩ := FlatIn.of htr hbt fun hk => union_parts (hv t (by simp)) hk
    have e := htr b t hbt
    exact ⟨(b, qs) :: G, by simp [h1], (fun x hx => by
      rcases List.mem_cons.1 hx with rfl | hx
      · exact ⟨hq, by show tr b ∈ _; rw [e]; simp⟩
      · exact ⟨(h2 x hx).1, List.mem_cons_of_mem _ (h2 x hx).2⟩), by simp [h3, e]⟩

theorem union_tree (N : Nat → Prop) (B : Nat) (sa : Option Addr) (cap : Nat) (bs : List Nat) (ts : List Ty) (w : World) (hrow : RowOf TpT (fun _ => True) w (.slice sa bs.length cap) (bs.map ptrV)) (hl : bs.length = ts.length)
    (hty : ∀ (j b : Nat) (t : Ty), bs[j]? = some b → ts[j]? = some t → TyAt N B w b t) (hf : Fit ts) (hB : B ≤ w.heap.size) (hG : Glob w) (hN : Open N w) :
    Calls Tryz.prog 33 #[.slice sa bs.length cap] w (DoR N B w (unionC (ts.map Ty.canon))) := by
  have htr : ∀ b t, TyAt (fun x => N x ∧ x < w.heap.size) B w b t → trOf (fun x => N x ∧ x < w.heap.size) B w b = t := fun b t h => trOf_eq h
  obtain ⟨G, h1, h2, h3⟩ := flats_of htr bs ts hl (fun j b t q1 q2 => (hty j b t q1 q2).there) hf.valid
  have hGl : G.length = bs.length := by rw [← h1, List.length_map]
  have hr : G.map (fun x => ptrV x.1) = bs.map ptrV := by rw [← h1, List.map_map]; rfl
  have hflat : (G.flatMap (·.2)).map (trOf (fun x => N x ∧ x < w.heap.size) B w) = ts.flatMap Ty.flat := by
    rw [List.map_flatMap, ← h3, List.flatMap_map]
    have key : ∀ L : List (Nat × List Nat), (∀ x ∈ L, FlatIn (fun x => N x ∧ x < w.heap.size) B (trOf (fun x => N x ∧ x < w.heap.size) B w) w x) → L.flatMap (fun x => x.2.map (trOf (fun x => N x ∧ x < w.heap.size) B w)) = L.flatMap fun x => (trOf (fun x => N x ∧ x < w.heap.size) B w x.1).flat := by
      intro L hL
      induction L with
      | nil => rfl
      | cons x r ih =>
        rw [List.flatMap_cons, List.flatMap_cons, ih fun y hy => hL y (by simp [hy]), (hL x (by simp)).flat]
    exact key G fun x hx => (h2 x hx).1
  have hlen2 : ∀ L : List Ty, (L.flatMap Ty.flat).length ≤ (L.map Ty.nodes).sum := by
    intro L
    induction L with
    | nil => simp
    | cons t r ih =>
      have := flat_length t
      simp only [List.flatMap_cons, List.length_append, List.map_cons, List.sum_cons]
      omega
  have hfl : (G.flatMap (·.2)).length ≤ 100000 := by
    have e := congrArg List.length hflat
    rw [List.length_map] at e
    rw [e]
    have := hlen2 ts
    have := hf.nodes
    omega
  have hu := union_any G (trOf (fun x => N x ∧ x < w.heap.size) B w) (fun x => N x ∧ x < w.heap.size) B sa cap w (by rw [hGl, hr]; exact hrow) (by rw [hGl, hl]; exact hf.len) (fun x hx => ⟨(h2 x hx).1, by
    have e := congrArg List.length (h2 x hx).1.flat
    rw [List.length_map] at e
    rw [e]
    have := flat_length (trOf (fun x => N x ∧ x < w.heap.size) B w x.1)
    have := (hf.sm (h2 x hx).2).nodes
    omega⟩) hfl hB hG (fun x hx => hx.2) (fun q hq => by
    obtain ⟨x, hx, hqx⟩ := List.mem_flatMap.1 hq
    have hm : trOf (fun x => N x ∧ x < w.heap.size) B w q ∈ (trOf (fun x => N x ∧ x < w.heap.size) B w x.1).flat := by
      rw [← (h2 x hx).1.flat]
      exact List.mem_map_of_mem hqx
    obtain ⟨v1, v2⟩ := flat_valid (hf.valid _ (h2 x hx).2) _ hm
    have s1 := flat_sm (hf.sm (h2 x hx).2) _ hm
    exact ⟨(h2 x hx).1.tys q hqx, v1, v2, s1, text_all v1 s1, fun e he => text_all (v1.parts e he) (s1.of_part he)⟩)
  rw [hGl] at hu
  refine hu.mono ?_
  rintro e w' ⟨c, u, rfl, q1, q2, q3, q4⟩
  refine ⟨c, u, rfl, q1.weaken fun x hx _ => ?_, q2, ?_, q4⟩
  · rcases hx with hx | hx
    · exact hx.1
    · exact hN x hx
  · rw [q3]
    unfold unionC
    congr 1
    have : (G.flatMap (·.2)).map (fun q => (trOf (fun x => N x ∧ x < w.heap.size) B w q).canon) = (ts.flatMap Ty.flat).map Ty.canon := by
      rw [← hflat, List.map_map]
      rfl
    rw [this, List.map_flatMap, List.flatMap_map]
    congr 1
    funext t
    exact (flat_canon t).symm

end Go.Proofs.YtbghpkoimbmijaaGreatDoor
