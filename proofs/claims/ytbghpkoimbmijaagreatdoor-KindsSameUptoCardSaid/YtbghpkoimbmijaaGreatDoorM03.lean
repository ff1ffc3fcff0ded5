import Derived.RangeFuncWrites
import Derived.Lib.SlicesDelete
import Derived.Test.YtbghpkoimbmijaaGreatDoorM02
/- YtbghpkoimbmijaaGreatDoorM03: lemmas of the proof, in order: KG, KH, KI, KK. -/
/- Walks: an arena's has, all, Len, Text. -/
namespace Go.Proofs.YtbghpkoimbmijaaGreatDoor
open Go.RowKit
set_option linter.unusedSimpArgs false

theorem has_yes (A n tcap : Nat) (ta : Option Addr) (mv : Value) (z : Nat) (hz : z < n) (w : World) (hA : w.heap[A]? = some (.cells #[.slice ta n tcap, mv, .map none] ArT (0, 0))) :
    Calls Tryz.prog 29 #[.pointer (some ⟨A, 0, none⟩), .int .i64 z] w fun e w' => e = .returned (.bool true) ∧ Up w w' := by
  have a0 := cell_of hA 0
  have a4 := lt_of_heap hA
  simp only [List.getElem?_toArray, List.getElem?_cons_zero, List.getElem?_cons_succ] at a0
  have hzi : (z : Int) < n := by omega
  clear hA
  go_enter Tryz.func29, Tryz.ntmps29
  go_wp2_with fail
  (try go_quiet (fail))
  (try go_wp2_with fail)
  go_ret
  exact ⟨rfl, uq⟩

set_option maxRecDepth 100000 in
set_option maxHeartbeats 3200000 in
theorem all_any (A : Nat) (tv mv : Value) (bs zs : List Nat) (a : Option Addr) (cap : Nat) (w : World) (hA : w.heap[A]? = some (.cells #[tv, mv, .map none] ArT (0, 0))) (hrow : w.ownsRow 0 TpT 1 tv bs.length (bs.map ptrV))
    (hz : ∀ (j z : Nat), zs[j]? = some z → ∃ b off, a = some ⟨b, off, none⟩ ∧ b < w.heap.size ∧ w.cell? ⟨b, off + j, none⟩ = some (.int .i64 z)) (hr : ∀ z ∈ zs, z < bs.length) (hf : zs.length ≤ 1000000) :
    Calls Tryz.prog 23 #[.pointer (some ⟨A, 0, none⟩), .slice a zs.length cap] w fun e w' => ∃ v, e = .returned (.tuple #[v, .bool true]) ∧ w'.ownsRow 0 TpT 1 v zs.length (zs.map fun z => ptrV (bs.getD z 0)) ∧ (∀ g, v.ownBlock = some g → w.heap.size ≤ g) ∧ Up w w' := by
  obtain ⟨ta, tcap, rfl⟩ := ownsRow_form hrow
  have HA := Lib.hid hA
  have HZ := Lib.hid hz
  have HR := Lib.hid hr
  have HW := Lib.hid hrow
  clear hA hz hr hrow
  go_enter Tryz.func23, Tryz.ntmps23
  go_wp2_with fail
  go_loopw [6, 11] (fun v i wr => ∃ j : Nat, j ≤ zs.length ∧ i = .int .i64 j ∧ wr.ownsRow 0 TpT 1 v j ((zs.take j).map fun z => ptrV (bs.getD z 0)) ∧ (∀ g, v.ownBlock = some g → w.heap.size ≤ g) ∧ Up w wr) (fun _ i _ => zs.length - (intOf i).toNat)
  case atStart => exact ⟨0, Nat.zero_le _, rfl, (show w.ownsRow 0 TpT 1 (.slice none 0 0) 0 [] from ⟨rfl, .inl ⟨rfl, rfl⟩⟩), (fun g hg => by simp [Value.ownBlock] at hg), uq⟩
  case round =>
    obtain ⟨j, hj, rfl, hv, hvb, hup⟩ := hrel
    by_cases hlt : j < zs.length
    · have hji : (j : Int) < zs.length := by omega
      obtain ⟨z, hzj⟩ : ∃ z, zs[j]? = some z := ⟨_, List.getElem?_eq_getElem hlt⟩
      obtain ⟨b, off, rfl, hbl, hc⟩ := HZ.out j z hzj
      have hzl := HR.out z (List.mem_of_getElem? hzj)
      have y0 := (hup.cells _ _ hbl).trans hc
      obtain ⟨va, vcap, rfl⟩ := ownsRow_form hv
      have HV := Lib.hid (And.intro hv hvb)
      have HH := Lib.hid (hup.get HA.out)
      have a0 := cell_of HH.out 0
      have a4 := lt_of_heap HH.out
      simp only [List.getElem?_toArray, List.getElem?_cons_zero, List.getElem?_cons_succ] at a0
      obtain ⟨tg, rfl, htg, hpt⟩ : ∃ tg, ta = some ⟨tg, 0, none⟩ ∧ tg < wr.heap.size ∧ wr.cell? ⟨tg, z, none⟩ = some (ptrV (bs.getD z 0)) := by
        rcases HW.out.2 with ⟨_, h0⟩ | ⟨g, cap', cur, hv', _, hg, _⟩
        · omega
        · cases hv'
          have hl := lt_of_heap hg
          refine ⟨g, rfl, Nat.lt_of_lt_of_le hl hup.size, (hup.cells _ _ hl).trans ?_⟩
          have q := HW.out.cells (g := g) rfl z (ptrV (bs.getD z 0)) (by simp [List.getD, List.getElem?_eq_getElem hzl])
          rw [Addr.add_lit] at q
          simpa using q
      have hpt : wr.cell? ⟨tg, z, none⟩ = some (.pointer (some ⟨bs.getD z 0, 0, none⟩)) := hpt
      obtain ⟨p, hp⟩ : ∃ p, Hid (bs.getD z 0 = p) := ⟨_, rfl⟩
      rw [hp.out] at hpt
      have hzi : (z : Int) < bs.length := by omega
      have HNX : Hid ((zs.take (j + 1)).map (fun z => ptrV (bs.getD z 0)) = (zs.take j).map (fun z => ptrV (bs.getD z 0)) ++ [.pointer (some ⟨p, 0, none⟩)]) := by
        unfold Hid
        rw [List.take_add_one, hzj, List.map_append, ← hp.out]
        rfl
      obtain ⟨i0, hi, hz0, hz1, hz2⟩ := info_parts typ_info
      clear hzj hc hv hvb
      go_wp2_with (first | (go_at_call 29; refine (has_yes A bs.length tcap _ _ z hzl _ (Up.get (w := wr) uq HH.out)).mono ?_; rintro e w2 ⟨rfl, hu2⟩; have hh := hu2.get HH.out; have a0 := cell_of hh 0; have a4 := lt_of_heap hh; simp only [List.getElem?_toArray, List.getElem?_cons_zero, List.getElem?_cons_succ] at a0; have hpt := (hu2.cells _ _ htg).trans hpt; clear hh) | (at_builtin; go_must (refine wpList_append_new rfl _ _ 55 rfl TpT i0 (.pointer none) 1 8 Tryz.underlying55 hi hz0 hz1 hz2 rfl (by decide) (.slice va j vcap) j ((zs.take j).map fun z => ptrV (bs.getD z 0)) rfl (ownsRow_up HV.out.1 uq) _ 1 1 rfl (by first | rfl | (simp; done) | omega) rfl (by intro u hu; have hu2 : u = .pointer (some ⟨p, 0, none⟩) := (by simpa using hu); rw [hu2]; rfl) (by unfold maxLen; omega) (by omega) ?_; intro sa' cap' w7 hown' hgrow hblk; have HY := Lib.hid (And.intro hown' (And.intro hgrow hblk)); clear hown' hgrow hblk)))
      refine ⟨⟨j + 1, by omega, by simp, by rw [HNX.out]; exact HY.out.1, fun g hg => ?_, ?_⟩, by simp [intOf]; omega⟩
      · rcases HY.out.2.2 with q | ⟨g', q, q2⟩
        · exact HV.out.2 g (by rw [← q]; exact hg)
        · rw [q] at hg
          cases hg
          have := hup.size
          have := hu2.size
          omega
      · refine Up.grown (W := _) ?_ HY.out.2.1 (fun r e => HV.out.2 r e)
        exact uq
    · obtain rfl : j = zs.length := by omega
      rw [List.take_length] at hv
      clear hlt
      go_wp2_with fail
      refine bodyPost_ret (v := .tuple #[_, .bool true]) (by simp [results, Tryz.results23, go_sem]; rfl) rfl ?_
      exact ⟨_, rfl, hv, hvb, uq⟩

end Go.Proofs.YtbghpkoimbmijaaGreatDoor

/- Walks: the parts of a type, one by one. -/
namespace Go.Proofs.YtbghpkoimbmijaaGreatDoor
open Go.RowKit
set_option linter.unusedSimpArgs false
attribute [local go_sem] Oper.semAt_some

abbrev SlT : TypeId := 55
abbrev valuesF : Nat := 83

/-- a type of a kind, whose text was asked for -/
def Item (w : World) (b : Nat) (k : Int) (s : ByteArray) : Prop := ∃ cs : Array Value, w.heap[b]? = some (.cells cs TyT (0, 0)) ∧ cs[0]? = some (.int .i64 k) ∧ cs[7]? = some (.string s) ∧ (s.toList == []) = false
theorem Item.up {w w' : World} {b : Nat} {k : Int} {s : ByteArray} (h : Item w b k s) (u : Up w w') : Item w' b k s := let ⟨cs, h1, h2⟩ := h; ⟨cs, u.get h1, h2⟩
theorem Item.said {w : World} {b : Nat} {k : Int} {s : ByteArray} (h : Item w b k s) : Said w b s := let ⟨cs, h1, _, h3, _⟩ := h; ⟨cs, h1, h3⟩

/-- a box with a slice of types -/
def SeqAt (w : World) (t g : Nat) (xs : List Nat) : Prop := ∃ (off cap : Nat) (cs : Array Value) (fz : Nat × Nat), w.heap[t]? = some (.cells #[.slice (some ⟨g, off, none⟩) xs.length cap] SlT (0, 0)) ∧ w.heap[g]? = some (.cells cs TpT fz) ∧ ∀ j x, xs[j]? = some x → cs[off + j]? = some (ptrV x)
theorem SeqAt.up {w w' : World} {t g : Nat} {xs : List Nat} (h : SeqAt w t g xs) (u : Up w w') : SeqAt w' t g xs := let ⟨off, cap, cs, fz, h1, h2, h3⟩ := h; ⟨off, cap, cs, fz, u.get h1, u.get h2, h3⟩

theorem Values_any (a : Option Addr) (n cap : Nat) (w : World) :
    Calls Tryz.prog 64 #[.slice a n cap] w fun e w' => e = .returned (.func (.func valuesF) #[] #[.pointer (some ⟨w.heap.size, 0, none⟩)]) ∧ w' = w.alloc (.cells #[.slice a n cap] SlT) := by
  go_enter Tryz.func64, Tryz.ntmps64
  go_wp2
  go_ret
  exact ⟨rfl, rfl⟩

/-- a type that is no union stands for itself -/
theorem each_item (b : Nat) (k : Int) (s : ByteArray) (hk : (k == 16) = false) (w : World) (h : Item w b k s) :
    Calls Tryz.prog 46 #[.pointer (some ⟨b, 0, none⟩)] w fun e w' => ∃ t g, e = .returned (.func (.func valuesF) #[] #[.pointer (some ⟨t, 0, none⟩)]) ∧ SeqAt w' t g [b] ∧ w.heap.size ≤ t ∧ w.heap.size ≤ g ∧ Up w w' := by
  obtain ⟨cs, h1, h2, h3⟩ := h
  have a0 := (cell_of h1 0).trans h2
  have a4 := lt_of_heap h1
  clear h1 h2 h3
  go_enter Tryz.func46, Tryz.ntmps46
  go_wp2_with (first | (go_at_call 64; refine (Values_any _ _ _ _).mono ?_; rintro e w2 ⟨rfl, rfl⟩))
  go_ret
  refine ⟨_, w.heap.size, rfl, ⟨0, _, #[ptrV b], (0, 0), alloc_at _ _ _ (by simp), (alloc_old _ _ _ (by simp)).trans (alloc_get _ _), ?_⟩, by simp, Nat.le_refl _, uq⟩
  intro j x hx
  cases j with
  | zero => simp at hx; subst hx; rfl
  | succ j => simp at hx

set_option maxRecDepth 100000 in
set_option maxHeartbeats 2000000 in
theorem values_iter (l tb : Nat) (xs : List Nat) (K : World → World → Prop) (hKr : ∀ W, K W W) (hKt : ∀ a b c, K a b → K b c → K a c) (J Jx : List Nat → World → Prop) (W : World)
    (hY : ∀ pre x W1, x ∈ xs → J pre W1 → pre.length < xs.length → YieldAt Fence.wide 0 Tryz.prog l #[ptrV x] W1 fun e W' =>
      (e = .returned (.bool true) ∧ J (pre ++ [x]) W' ∧ K W1 W') ∨ (e = .returned (.bool false) ∧ Jx (pre ++ [x]) W'))
    (hlen : xs.length ≤ 1000000) (hbox : ∃ g off cap, ∀ W', K W W' → W'.cell? ⟨tb, 0, none⟩ = some (.slice (some ⟨g, off, none⟩) xs.length cap) ∧ ∀ j x, xs[j]? = some x → W'.cell? ⟨g, off + j, none⟩ = some (ptrV x)) (h0 : J [] W) :
    CallsIn Fence.wide 1 Tryz.prog valuesF #[.func (.yield l) #[] #[], .pointer (some ⟨tb, 0, none⟩)] W fun e W' => (∃ v, e = .returned v) ∧
      (J xs W' ∨ (∃ pre, pre <+: xs ∧ Jx pre W')) := by
  obtain ⟨g, off, cap, hbox⟩ := hbox
  have hb0 := (hbox W (hKr W)).1
  have HB := Lib.hid hbox
  clear hbox
  refine callsIn_of_wp Tryz.func83 rfl trivial ?_ rfl
  simp only [Tryz.ntmps83, List.size_toArray, List.length_cons, List.length_nil, Nat.reduceAdd, Nat.reduceSub, Array.replicate_succ, Array.replicate_zero, List.push_toArray, List.append_toArray, List.nil_append, List.cons_append]
  gi_wp2
  gi_loopw [7] (fun i wr => ∃ (j : Nat), j ≤ xs.length ∧ i = .int .i64 j ∧ J (xs.take j) wr ∧ K W wr) (fun i _ => xs.length - (intOf i).toNat)
  case atStart => exact ⟨0, Nat.zero_le _, rfl, h0, hKr _⟩
  case round =>
    obtain ⟨j, hj, rfl, hJs, hnx⟩ := hrel
    by_cases hlt : j < xs.length
    · have hji : (j : Int) < xs.length := by omega
      obtain ⟨x, hx⟩ : ∃ x, xs[j]? = some x := ⟨_, List.getElem?_eq_getElem hlt⟩
      have y0 : wr.cell? ⟨g, off + j, none⟩ = some (.pointer (some ⟨x, 0, none⟩)) := (HB.out wr hnx).2 j x hx
      obtain ⟨fn, tmps, assign, body, hy, hR⟩ := hY _ x wr (List.mem_of_getElem? hx) hJs (by simp; omega)
      have hnext : xs.take (j + 1) = xs.take j ++ [x] := by rw [List.take_add_one, hx]; rfl
      have HX := Lib.hid hx
      simp only [ptrV] at hy
      clear hx hlt
      gi_wp2
      refine hR.mono ?_
      rintro e W3 (⟨rfl, hJ3, hk3⟩ | ⟨rfl, hJx3⟩)
      · gi_wp2
        go_roundw
        case rel => exact ⟨j + 1, by omega, by simp, by rw [hnext]; exact hJ3, hKt _ _ _ hnx hk3⟩
        case measure => simp [intOf]; omega
      · gi_wp2
        refine bodyPost_ret (results_none rfl _ _ _) rfl ?_
        exact ⟨⟨_, rfl⟩, .inr ⟨_, by rw [← hnext]; exact List.take_prefix _ _, hJx3⟩⟩
    · obtain rfl : j = xs.length := by omega
      gi_wp2
      go_end0
      rw [List.take_length] at hJs
      exact ⟨⟨_, rfl⟩, .inl hJs⟩

/-- what a round keeps: two blocks of cells -/
structure TwoKeep (S : Nat → Prop) (a b : World) : Prop where
  size : a.heap.size ≤ b.heap.size
  same : ∀ x o, S x → a.heap[x]? = some o → o.isCells = true → b.heap[x]? = some o
theorem TwoKeep.refl (S : Nat → Prop) (w : World) : TwoKeep S w w := ⟨Nat.le_refl _, fun _ _ _ h _ => h⟩
theorem TwoKeep.trans {S : Nat → Prop} {a b c : World} (h : TwoKeep S a b) (k : TwoKeep S b c) : TwoKeep S a c := ⟨Nat.le_trans h.size k.size, fun x o hx h1 h2 => k.same x o hx (h.same x o hx h1 h2) h2⟩
theorem TwoKeep.up {S : Nat → Prop} {a b c : World} (h : TwoKeep S a b) (k : Up b c) : TwoKeep S a c := ⟨Nat.le_trans h.size k.size, fun x o hx h1 h2 => k.get (h.same x o hx h1 h2)⟩
theorem TwoKeep.putObj (S : Nat → Prop) (W : World) (l : Nat) (o o' : Obj) (h : W.heap[l]? = some o) (hc : o.isCells = false) : TwoKeep S W (W.putObj l o') where
  size := by simp
  same := fun x u _ hx hu => by
    rw [World.putObj_heap_other (fun e => by subst e; rw [h] at hx; cases hx; rw [hc] at hu; cases hu)]
    exact hx

/-- one of these types -/
abbrev OneOf (xs : List Nat) := { x : Nat // x ∈ xs }

theorem values_stops (tb : Nat) (xs : List Nat) (hlen : xs.length ≤ 1000000) (w : World) (g : Nat) (h : SeqAt w tb g xs) :
    SeqStopsK Fence.wide 1 Tryz.prog valuesF #[.pointer (some ⟨tb, 0, none⟩)] (fun x : OneOf xs => #[ptrV x.1]) (TwoKeep fun x => x = tb ∨ x = g) (fun ys => ys.map (·.1) = xs) (fun _ => True) xs.length w := by
  obtain ⟨off, cap, cs, fz, h1, h2, h3⟩ := h
  intro l J0 Jx0 W hW hJ0 hJx0 hY0 h00
  refine CallsIn.mono (values_iter l tb xs (TwoKeep fun x => x = tb ∨ x = g) (TwoKeep.refl _) (fun _ _ _ => TwoKeep.trans) (fun pre W => ∃ ys : List (OneOf xs), ys.map (·.1) = pre ∧ J0 ys W) (fun pre W => ∃ ys : List (OneOf xs), ys.map (·.1) = pre ∧ Jx0 ys W) W ?_ hlen ⟨g, off, cap, fun W' hk => ?_⟩ ⟨[], rfl, h00⟩) ?_
  · rintro pre x W1 hx ⟨ys, rfl, hj⟩ hl
    obtain ⟨fn, tmps, assign, body, hy, hR⟩ := hY0 ys ⟨x, hx⟩ W1 hj (by simpa using hl)
    refine ⟨fn, tmps, assign, body, hy, hR.mono ?_⟩
    rintro e W' (⟨rfl, h1, h2⟩ | ⟨rfl, h1⟩)
    · exact .inl ⟨rfl, ⟨ys ++ [⟨x, hx⟩], by simp, h1⟩, h2⟩
    · exact .inr ⟨rfl, ys ++ [⟨x, hx⟩], by simp, h1⟩
  · refine ⟨?_, fun j x hx => ?_⟩
    · exact cell_of (hk.same tb _ (.inl rfl) (Up.get hW h1) rfl) 0
    · exact (cell_of (hk.same g _ (.inr rfl) (Up.get hW h2) rfl) _).trans (h3 j x hx)
  · rintro e W' ⟨hv, ⟨ys, hy, hj⟩ | ⟨pre, hp, ys, hy, hj⟩⟩
    · exact ⟨hv, Or.inl ⟨ys, hy, hj⟩⟩
    · exact ⟨hv, Or.inr ⟨ys, trivial, hj⟩⟩

end Go.Proofs.YtbghpkoimbmijaaGreatDoor

/- Walks: union: its loop over what is given. -/
namespace Go.Proofs.YtbghpkoimbmijaaGreatDoor
open Go.RowKit
set_option linter.unusedSimpArgs false
attribute [local go_sem] Oper.semAt_some

abbrev MiT : TypeId := 99
abbrev MsT : TypeId := 56

def cnt : List (Int × Nat) → Int → Nat
  | [], _ => 0
  | (a, n) :: l, k => if a = k then n else cnt l k
theorem cnt_miss : ∀ (l : List (Int × Nat)) (k : Int), (∀ x ∈ l, x.1 ≠ k) → cnt l k = 0
  | [], _, _ => rfl
  | (a, n) :: l, k, h => by
    rw [cnt, if_neg (h (a, n) (by simp))]
    exact cnt_miss l k fun x hx => h x (by simp [hx])
theorem cnt_hit : ∀ (l : List (Int × Nat)) (k : Int) (j n : Nat), l[j]? = some (k, n) → (l.map (·.1)).Nodup → cnt l k = n
  | [], _, j, _, h, _ => by simp at h
  | (a, m) :: l, k, 0, n, h, _ => by simp at h; rw [cnt, if_pos h.1]; exact h.2
  | (a, m) :: l, k, j + 1, n, h, hn => by
    simp only [List.map_cons, List.nodup_cons] at hn
    have h : l[j]? = some (k, n) := by simpa using h
    rw [cnt, if_neg (fun e => hn.1 (by subst e; exact List.mem_map_of_mem (f := (·.1)) (List.mem_of_getElem? h)))]
    exact cnt_hit l k j n h hn.2
theorem cnt_snoc : ∀ (l : List (Int × Nat)) (k : Int) (n : Nat) (k' : Int), (∀ x ∈ l, x.1 ≠ k) → cnt (l ++ [(k, n)]) k' = if k' = k then n else cnt l k'
  | [], k, n, k', _ => by
    show (if k = k' then n else 0) = if k' = k then n else 0
    simp only [eq_comm]
  | (a, m) :: l, k, n, k', h => by
    have ha : a ≠ k := h (a, m) (by simp)
    show (if a = k' then m else cnt (l ++ [(k, n)]) k') = if k' = k then n else if a = k' then m else cnt l k'
    rw [cnt_snoc l k n k' fun x hx => h x (by simp [hx])]
    by_cases e : a = k'
    · subst e; rw [if_pos rfl, if_neg ha, if_pos rfl]
    · rw [if_neg e, if_neg e]
theorem cnt_set : ∀ (l : List (Int × Nat)) (k : Int) (n m : Nat) (j : Nat) (k' : Int), l[j]? = some (k, m) → (l.map (·.1)).Nodup → cnt (l.set j (k, n)) k' = if k' = k then n else cnt l k'
  | [], _, _, _, j, _, h, _ => by simp at h
  | (a, b) :: l, k, n, m, 0, k', h, _ => by
    simp at h
    obtain ⟨rfl, rfl⟩ := h
    show (if a = k' then n else cnt l k') = if k' = a then n else if a = k' then b else cnt l k'
    by_cases e : a = k'
    · subst e; simp
    · rw [if_neg e, if_neg (fun x => e x.symm), if_neg e]
  | (a, b) :: l, k, n, m, j + 1, k', h, hn => by
    simp only [List.map_cons, List.nodup_cons] at hn
    have h : l[j]? = some (k, m) := by simpa using h
    have ha : a ≠ k := fun e => hn.1 (by subst e; exact List.mem_map_of_mem (f := (·.1)) (List.mem_of_getElem? h))
    show (if a = k' then b else cnt (l.set j (k, n)) k') = if k' = k then n else if a = k' then b else cnt l k'
    rw [cnt_set l k n m j k' h hn.2]
    by_cases e : a = k'
    · subst e; rw [if_pos rfl, if_neg ha, if_pos rfl]
    · rw [if_neg e, if_neg e]

/-- a map of numbers to how often -/
def CMap (w : World) (m : Nat) (f : Int → Nat) : Prop := ∃ es clk cs, w.heap[m]? = some (.map es clk) ∧ Entries es (Value.int .i64) numV cs ∧ (cs.map (·.1)).Nodup ∧ ∀ k, cnt cs k = f k
theorem CMap.keep {w w' : World} {m : Nat} {f : Int → Nat} (h : CMap w m f) (k : w'.heap[m]? = w.heap[m]?) : CMap w' m f := let ⟨es, clk, cs, h1, h2⟩ := h; ⟨es, clk, cs, by rw [k]; exact h1, h2⟩
theorem CMap.up {w w' : World} {m : Nat} {f : Int → Nat} (h : CMap w m f) (k : Up w w') : CMap w' m f := let ⟨es, clk, cs, h1, h2⟩ := h; ⟨es, clk, cs, k.get h1, h2⟩
theorem CMap.lt {w : World} {m : Nat} {f : Int → Nat} (h : CMap w m f) : m < w.heap.size := let ⟨_, _, _, h1, _⟩ := h; lt_of_heap h1

theorem CMap.look {w : World} {m : Nat} {f : Int → Nat} (h : CMap w m f) (k : Int) : (Instr.lookup MiT (.map (some m)) (.int .i64 k) false).run Tryz.prog w = .ok (.int .i64 (f k)) w := by
  obtain ⟨es, clk, cs, h1, h2, h3, h4⟩ := h
  rw [← h4 k]
  rcases slot_cases cs k with hm | ⟨j, n, hj⟩
  · rw [cnt_miss cs k hm]
    exact (run_lookup_miss (f := numV) Tryz.underlying99 Tryz.underlying3 (intKeys .i64) (show (zeroValue 3).run Tryz.prog w = .ok (.int .i64 0) w by kernel_rfl) h1 h2 k hm).2
  · rw [cnt_hit cs k j n hj h3]
    exact (run_lookup_hit (f := numV) Tryz.underlying99 Tryz.underlying3 (intKeys .i64) h1 h2 k n j hj h3).2

theorem CMap.bump {w : World} {m : Nat} {f : Int → Nat} (h : CMap w m f) (k : Int) : ∃ es' clk', (Instr.mapUpdate MiT (.map (some m)) (.int .i64 k) (.int .i64 ((f k : Int) + 1))).run Tryz.prog w = .ok () (putB w m (.map es' clk')) ∧ ∀ W, W.heap[m]? = some (.map es' clk') → CMap W m (fun k' => if k' = k then f k + 1 else f k') := by
  obtain ⟨es, clk, cs, h1, h2, h3, h4⟩ := h
  rcases slot_cases cs k with hm | ⟨j, n, hj⟩
  · have e0 : f k = 0 := by rw [← h4 k, cnt_miss cs k hm]
    obtain ⟨es', clk', hr, hE⟩ := run_store_miss (f := numV) Tryz.underlying99 Tryz.underlying3 (intKeys .i64) h1 h2 k (f k + 1) hm
    refine ⟨es', clk', hr, fun W hW => ⟨es', clk', _, hW, hE, ?_, fun k' => ?_⟩⟩
    · rw [List.map_append, List.nodup_append]
      refine ⟨h3, by simp, ?_⟩
      intro a ha b hb e
      simp at hb
      subst hb
      subst e
      obtain ⟨x, hx, hx2⟩ := List.mem_map.1 ha
      exact hm x hx hx2
    · rw [cnt_snoc cs k _ k' hm, h4 k']
  · obtain ⟨es', clk', hr, hE⟩ := run_store_hit (f := numV) Tryz.underlying99 Tryz.underlying3 (intKeys .i64) h1 h2 k (f k + 1) n j hj h3
    refine ⟨es', clk', hr, fun W hW => ⟨es', clk', _, hW, hE, ?_, fun k' => ?_⟩⟩
    · have e : (cs.set j (k, f k + 1)).map (·.1) = cs.map (·.1) := by
        apply List.ext_getElem?
        intro i
        simp only [List.getElem?_map, List.getElem?_set]
        by_cases hij : j = i
        · subst hij
          have hl : j < cs.length := (List.getElem?_eq_some_iff.1 hj).1
          rw [if_pos rfl, if_pos hl, hj]
          rfl
        · simp [hij]
      rw [e]
      exact h3
    · rw [cnt_set cs k _ n j k' hj h3, h4 k']

/-- what stands between two rounds of union's loop, when xs were gone through -/
structure UI (kd : Nat → Int) (w : World) (no : Nat → Prop) (m3 n3 m4 n4 n5 : Nat) (xs : List Nat) (W : World) : Prop where
  up : Up w W
  b3 : W.heap[n3]? = some (.cells #[.map (some m3)] MiT (0, 0))
  c3 : CMap W m3 (fun k => (xs.map kd).count k)
  b4 : W.heap[n4]? = some (.cells #[.map (some m4)] MsT (0, 0))
  c4 : ∃ clk, W.heap[m4]? = some (.map #[] clk)
  row : ∃ v, W.heap[n5]? = some (.cells #[v] SlT (0, 0)) ∧ W.ownsRow 0 TpT 1 v xs.length (xs.map ptrV) ∧ ∀ g, v.ownBlock = some g → w.heap.size ≤ g ∧ ¬ no g

theorem UI.on {kd : Nat → Int} {w : World} {no : Nat → Prop} {m3 n3 m4 n4 n5 : Nat} {xs : List Nat} {W W' : World} (h : UI kd w no m3 n3 m4 n4 n5 xs W) (k : Up W W') : UI kd w no m3 n3 m4 n4 n5 xs W' where
  up := h.up.trans k
  b3 := k.get h.b3
  c3 := h.c3.up k
  b4 := k.get h.b4
  c4 := h.c4.imp fun _ q => k.get q
  row := h.row.imp fun _ ⟨q1, q2, q3⟩ => ⟨k.get q1, ownsRow_up q2 k, q3⟩

theorem UI.own (kd : Nat → Int) (w : World) (no : Nat → Prop) (m3 n3 m4 n4 n5 B : Nat) (hB : w.heap.size ≤ B) (h3 : m3 < B) (h4 : m4 < B) (done : List Nat) : OwnFrom B (fun (pre : List Nat) W => UI kd w no m3 n3 m4 n4 n5 (done ++ pre) W) := by
  intro s W W' row h hg hr
  refine ⟨h.up.grown hg (fun r e => Nat.le_trans hB (hr r e).1), keep_own h.b3 hg hr, h.c3.keep ?_, keep_own h.b4 hg hr, h.c4.imp fun _ q => ?_, ?_⟩
  · exact hg.block m3 h.c3.lt fun e => by have := (hr m3 e.symm).1; omega
  · rw [hg.block m4 (lt_of_heap q) fun e => by have := (hr m4 e.symm).1; omega]; exact q
  · obtain ⟨v, q1, q2, q3⟩ := h.row
    refine ⟨v, keep_own q1 hg hr, ownsRow_keep q2 fun g hg' => ?_, q3⟩
    refine hg.block g (q2.lt g hg').2 fun e => ?_
    obtain ⟨_, o, ho, hoc⟩ := hr g e.symm
    rcases q2.2 with ⟨hv, _⟩ | ⟨g', cap, cur, hv, _, hc, _⟩
    · rw [hv] at hg'; cases hg'
    · rw [hv] at hg'; cases hg'; rw [hc] at ho; cases ho; cases hoc

theorem UI.weaken {kd : Nat → Int} {w : World} {no no' : Nat → Prop} {m3 n3 m4 n4 n5 : Nat} {xs : List Nat} {W : World} (h : UI kd w no m3 n3 m4 n4 n5 xs W) (k : ∀ g, w.heap.size ≤ g → g < W.heap.size → no' g → no g) : UI kd w no' m3 n3 m4 n4 n5 xs W where
  up := h.up
  b3 := h.b3
  c3 := h.c3
  b4 := h.b4
  c4 := h.c4
  row := h.row.imp fun _ ⟨q1, q2, q3⟩ => ⟨q1, q2, fun g hg => ⟨(q3 g hg).1, fun e => (q3 g hg).2 (k g (q3 g hg).1 (q2.lt g hg).2 e)⟩⟩

/-- what a range over a function leaves to be done at the end -/
def markOf (D : Nat) : Deferred := { target := .collected D, args := #[] }
structure Marks (B : Nat) (Ds : List Nat) (W : World) : Prop where
  nodup : Ds.Nodup
  at_ : ∀ D ∈ Ds, B ≤ D ∧ W.heap[D]? = some (.deferred (some []))
theorem Marks.none (B : Nat) (W : World) : Marks B [] W := ⟨List.nodup_nil, fun D h => by cases h⟩
theorem Marks.up {B : Nat} {Ds : List Nat} {W W' : World} (h : Marks B Ds W) (k : Up W W') : Marks B Ds W' := ⟨h.nodup, fun D hD => ⟨(h.at_ D hD).1, k.get (h.at_ D hD).2⟩⟩
theorem Marks.own {B : Nat} (B' : Nat) (Ds : List Nat) (hB : ∀ D ∈ Ds, D < B') : OwnFrom B' (fun (_ : List Nat) W => Marks B Ds W) := by
  intro s W W' row h hg hr
  refine ⟨h.nodup, fun D hD => ⟨(h.at_ D hD).1, ?_⟩⟩
  rw [hg.block D (lt_of_heap (h.at_ D hD).2) fun e => by have := (hr D e.symm).1; have := hB D hD; omega]
  exact (h.at_ D hD).2
theorem Marks.cons {B D : Nat} {Ds : List Nat} {W : World} (h : Marks B Ds W) (hD : W.heap[D]? = some (.deferred (some []))) (hB : B ≤ D) (hn : D ∉ Ds) : Marks B (D :: Ds) W := ⟨List.nodup_cons.2 ⟨hn, h.nodup⟩, fun X hX => by
  rcases List.mem_cons.1 hX with rfl | hX
  · exact ⟨hB, hD⟩
  · exact h.at_ X hX⟩

/-- of a world all that is cells was kept, and all below B -/
structure Taken (B : Nat) (W W' : World) : Prop where
  low : Below B W W'
  cells : ∀ (x : Nat) (cs : Array Value) (t : TypeId) (f : Nat × Nat), W.heap[x]? = some (.cells cs t f) → W'.heap[x]? = some (.cells cs t f)
theorem Taken.refl (B : Nat) (W : World) : Taken B W W := ⟨Below.refl _ _, fun _ _ _ _ h => h⟩

theorem leaves_marks {F : Fence} {n : Nat} {P : Program} {fn : Func} {tmps : Array Value} {R : Ending → World → Prop} (B : Nat) : ∀ (Ds : List Nat) (W : World), Marks B Ds W → (∀ W', Taken B W W' → LeavesIn F n P fn tmps R [] .returning W') → LeavesInM F n P fn tmps R (Ds.map markOf) .returning W
  | [], W, _, h => h W (Taken.refl _ _)
  | D :: Ds, W, hm, h => by
    have hn := (List.nodup_cons.1 hm.nodup).1
    have hD := hm.at_ D (by simp)
    refine ⟨by simp, .inl ⟨_, _, rfl, run_takeDeferred hD.2, ?_⟩⟩
    refine leaves_marks B Ds _ ⟨(List.nodup_cons.1 hm.nodup).2, fun X hX => ?_⟩ fun W' hW' => h W' ?_
    · obtain ⟨h1, h2⟩ := hm.at_ X (by simp [hX])
      exact ⟨h1, by rw [World.putObj_heap_other (fun e => hn (by subst e; exact hX))]; exact h2⟩
    · refine ⟨Below.trans (show Below B W (W.putObj D (.deferred none)) from ⟨rfl, rfl, rfl, by simp, fun i hi => World.putObj_heap_other (fun e => by have := hD.1; omega)⟩) hW'.low, fun x cs t f hx => hW'.cells x cs t f ?_⟩
      rw [World.putObj_heap_other (fun e => by subst e; rw [hD.2] at hx; cases hx)]
      exact hx

theorem wpListIn_append_new {F : Fence} {nF : Nat} {P : Program} {W : World} {cs : Array Value} {te : TypeId} {ops : Array Oper} {rest : List Oper} {o : Oper} {a : Act} {Q : Exit → Act → World → Prop} (hgd : o.guard = none) (s x : Operand) (t : TypeId)
    (ho : o.op = .call { callee := .builtin .append, args := #[s, x], argTypes := #[t, t] })
    (e : TypeId) (i : TypeInfo) (z : Value) (size bytes : Nat) (ht : P.underlying t = some (.slice e)) (hi : P.info? e = some i) (hz : i.zero = some z)
    (hsize : i.size = size) (hby : i.bytes = bytes) (hzs : z.cells.size = size) (hsz : 0 < size)
    (v : Value) (n : Nat) (xs : List Value) (hs : a.eval s = v) (hown : (W.alloc (.cells cs te)).ownsRow 0 e size v n xs)
    (b m c : Nat) (hx : a.eval x = .slice (some ⟨b, 0, none⟩) m c) (hb : b = W.heap.size) (hl : cs.size = m * size) (h1 : ∀ u ∈ cs.toList, u.oneCell' = true)
    (h63 : n + m ≤ maxLen) (hbytes : (n + m) * bytes ≤ 140737488355328)
    (h : ∀ sa cap w', w'.ownsRow 0 e size (.slice sa (n + m) cap) (n + m) (xs ++ cs.toList) → (W.alloc (.cells cs te)).grownBy w' v.ownBlock →
      ((Value.slice sa (n + m) cap).ownBlock = v.ownBlock ∨ ∃ g, (Value.slice sa (n + m) cap).ownBlock = some g ∧ W.heap.size + 1 ≤ g) → wpListIn F nF P ops Q rest (a.put o.dst (.slice sa (n + m) cap)) w') : wpListIn F nF P ops Q (o :: rest) a (W.alloc (.cells cs te)) := by
  refine wpListIn_plain hgd fun K hK => ?_
  obtain ⟨sa, cap, w', hr, h2, h3, h4⟩ := run_append_row (P := P) (w := W.alloc (.cells cs te)) t o.type e i z size bytes ht hi hz hsize hby hzs hsz v n xs hown ⟨b, 0, none⟩ m c cs.toList (by rw [Array.length_toList]; exact hl) (cells_new W cs te b hb) h1 h63 hbytes
  unfold Oper.wpIn
  refine ⟨by simp [Oper.about, ho, resolve, Target.leads, Sem.run_pure], ?_⟩
  rw [Oper.semAt_plain F _ _ (by rw [ho]; intro c hc'; cases hc')]
  simp [execOp, ho, resolve, invoke, builtin, hs, hx, hr, Result.andThen]
  exact hK _ _ (h sa cap w' h2 h3 (by simpa only [World.size_alloc] using h4))

/-- a code that ends in just one way -/
theorem wpIn_one {F : Fence} {n : Nat} {P : Program} {c : Code} {Q : Exit → Act → World → Prop} {a : Act} {w : World} (X : Act) (W : World) (h : c.wpIn F n P (fun e a' w' => e = .normal ∧ a' = X ∧ w' = W) a w) (k : ∀ (A : Act) (W' : World), A = X → W' = W → Q .normal A W') : c.wpIn F n P Q a w :=
  wpIn_mono h fun _ _ _ ⟨h1, h2, h3⟩ => by subst h1; exact k _ _ h2 h3
theorem wp_one {P : Program} {c : Code} {Q : Exit → Act → World → Prop} {a : Act} {w : World} (X : Act) (W : World) (h : c.wp P (fun e a' w' => e = .normal ∧ a' = X ∧ w' = W) a w) (k : ∀ (A : Act) (W' : World), A = X → W' = W → Q .normal A W') : c.wp P Q a w :=
  wp_mono h fun _ _ _ ⟨h1, h2, h3⟩ => by subst h1; exact k _ _ h2 h3

theorem rangeIn_named {F : Fence} {n : Nat} {P : Program} {c : Code} {Q : Exit → Act → World → Prop} {a : Act} {w : World} (h : ∀ (A : Act) (W : World), A = a → W = w → c.wpIn F n P Q A W) : c.wpIn F n P Q a w := h a w rfl rfl

end Go.Proofs.YtbghpkoimbmijaaGreatDoor

/- Walks: what goes out of a union; slices.IndexFunc, slices.DeleteFunc at it. -/
namespace Go.Proofs.YtbghpkoimbmijaaGreatDoor
open Go.RowKit
set_option linter.unusedSimpArgs false

/-- does a part go? f: how often each kind is there -/
def goesK (f : Int → Nat) (k : Int) : Bool := if k = 3 then true else if k = 11 then decide (0 < f 7) else if k = 12 then decide (0 < f 8) else false

set_option maxHeartbeats 1600000 in
theorem goes_any (k : Int) (s : ByteArray) (f : Int → Nat) (x m3 n3 n4 : Nat) (W : World) (hx : Item W x k s) (b3 : W.heap[n3]? = some (.cells #[.map (some m3)] MiT (0, 0))) (c3 : CMap W m3 f) (hk : (k == 20) = false) :
    Calls Tryz.prog 47 #[.pointer (some ⟨x, 0, none⟩), .pointer (some ⟨n3, 0, none⟩), .pointer (some ⟨n4, 0, none⟩)] W fun e W' => e = .returned (.bool (goesK f k)) ∧ Up W W' := by
  obtain ⟨cs, hc, hc0, _⟩ := hx
  have y0 := (cell_of hc 0).trans hc0
  have yl := lt_of_heap hc
  have n0 := cell_of b3 0
  have nl := lt_of_heap b3
  simp only [List.getElem?_toArray, List.getElem?_cons_zero] at n0
  have h7 := c3.look 7
  have h8 := c3.look 8
  have HC := Lib.hid (And.intro hc (And.intro b3 c3))
  clear hc hc0 b3 c3
  by_cases e3 : k = 3
  · subst e3
    go_enter Tryz.func47, Tryz.ntmps47
    go_wp2_with fail
    go_ret
    exact ⟨rfl, uq⟩
  by_cases e11 : k = 11
  · subst e11
    by_cases h0 : 0 < f 7
    · have h0' : (0 : Int) < (f 7 : Int) := by omega
      go_enter Tryz.func47, Tryz.ntmps47
      go_wp2_with fail
      go_ret
      exact ⟨by simp [goesK, h0], uq⟩
    · have h0' : f 7 = 0 := by omega
      rw [h0'] at h7
      go_enter Tryz.func47, Tryz.ntmps47
      go_wp2_with fail
      go_ret
      exact ⟨by simp [goesK, h0'], uq⟩
  by_cases e12 : k = 12
  · subst e12
    by_cases h0 : 0 < f 8
    · have h0' : (0 : Int) < (f 8 : Int) := by omega
      go_enter Tryz.func47, Tryz.ntmps47
      go_wp2_with fail
      go_ret
      exact ⟨by simp [goesK, h0], uq⟩
    · have h0' : f 8 = 0 := by omega
      rw [h0'] at h8
      go_enter Tryz.func47, Tryz.ntmps47
      go_wp2_with fail
      go_ret
      exact ⟨by simp [goesK, h0'], uq⟩
  have g3 : (k == 3) = false := by simpa using e3
  have g11 : (k == 11) = false := by simpa using e11
  have g12 : (k == 12) = false := by simpa using e12
  have hg : goesK f k = false := by simp [goesK, e3, e11, e12]
  rw [hg]
  clear e3 e11 e12 hg
  go_enter Tryz.func47, Tryz.ntmps47
  go_wp2_with fail
  go_ret
  exact ⟨rfl, uq⟩

abbrev goesF : Nat := 47

set_option maxRecDepth 100000 in
set_option maxHeartbeats 1600000 in
theorem IndexFunc_goes (p : Nat → Bool) (xs : List Nat) (g off cap n3 n4 : Nat) (cs : Array Value) (fz : Nat × Nat) (w : World) (h1 : w.heap[g]? = some (.cells cs TpT fz)) (h3 : ∀ j x, xs[j]? = some x → cs[off + j]? = some (ptrV x)) (hlen : xs.length ≤ 1000000)
    (hp : ∀ x ∈ xs, ∀ W, Up w W → Calls Tryz.prog 47 #[.pointer (some ⟨x, 0, none⟩), .pointer (some ⟨n3, 0, none⟩), .pointer (some ⟨n4, 0, none⟩)] W fun e W' => e = .returned (.bool (p x)) ∧ Up W W') :
    Calls Tryz.prog 69 #[.slice (some ⟨g, off, none⟩) xs.length cap, .func (.func goesF) #[] #[.pointer (some ⟨n3, 0, none⟩), .pointer (some ⟨n4, 0, none⟩)]] w fun e w' =>
      Up w w' ∧ ((e = .returned (.int .i64 (-1)) ∧ ∀ x ∈ xs, p x = false) ∨ ∃ (j x : Nat), e = .returned (.int .i64 j) ∧ xs[j]? = some x ∧ p x = true ∧ ∀ y ∈ xs.take j, p y = false) := by
  have HP := Lib.hid hp
  have HC := Lib.hid (And.intro h1 h3)
  clear h1 h3 hp
  go_enter Tryz.func69, Tryz.ntmps69
  go_wp2_with fail
  go_loopw [8] (fun i wr => ∃ j : Nat, j ≤ xs.length ∧ i = .int .i64 j ∧ (∀ y ∈ xs.take j, p y = false) ∧ Up w wr) (fun i _ => xs.length - (intOf i).toNat)
  case atStart => exact ⟨0, Nat.zero_le _, rfl, (by simp), uq⟩
  case round =>
    obtain ⟨j, hj, rfl, hno, hup⟩ := hrel
    have HN := Lib.hid hno
    clear hno
    by_cases hlt : j < xs.length
    · have hji : (j : Int) < xs.length := by omega
      obtain ⟨x, hx⟩ : ∃ x, xs[j]? = some x := ⟨_, List.getElem?_eq_getElem hlt⟩
      have y0 : wr.cell? ⟨g, off + j, none⟩ = some (.pointer (some ⟨x, 0, none⟩)) := (cell_of (hup.get HC.out.1) _).trans (HC.out.2 j x hx)
      have hc := HP.out x (List.mem_of_getElem? hx)
      have HX := Lib.hid hx
      have HQ := Lib.hid hc
      clear hx hlt hc
      cases hq : p x with
      | true =>
        have hq2 : Hid (p x = true) := hq
        go_wp2_with (first | (go_at_call 47; refine (HQ.out _ uq).mono ?_; rintro e w2 ⟨rfl, hu2⟩; simp only [hq2.out]))
        refine bodyPost_ret (v := .int .i64 j) (by simp [results, Tryz.results69, go_sem]) rfl ?_
        exact ⟨uq, .inr ⟨j, x, rfl, HX.out, hq2.out, HN.out⟩⟩
      | false =>
        have hq2 : Hid (p x = false) := hq
        go_wp2_with (first | (go_at_call 47; refine (HQ.out _ uq).mono ?_; rintro e w2 ⟨rfl, hu2⟩; simp only [hq2.out]))
        refine ⟨⟨j + 1, by omega, by simp, fun y hy => ?_, uq⟩, by simp [intOf]; omega⟩
        rw [List.take_add_one, HX.out] at hy
        rcases List.mem_append.1 hy with hy | hy
        · exact HN.out y hy
        · simp at hy; subst hy; exact hq2.out
    · obtain rfl : j = xs.length := by omega
      clear hlt
      go_wp2_with fail
      refine bodyPost_ret (v := .int .i64 (-1)) (by simp [results, Tryz.results69, go_sem]) rfl ?_
      exact ⟨uq, .inl ⟨rfl, by have := HN.out; rwa [List.take_length] at this⟩⟩

theorem setCells_block {w : World} {b i : Nat} {cs : Array Value} {t : TypeId} {f : Nat × Nat} (vs : List Value) (h : w.heap[b]? = some (.cells cs t f)) : ∃ cs', (w.setCells b i vs).heap[b]? = some (.cells cs' t f) ∧ cs'.size = cs.size ∧ ∀ j, j < i → cs'[j]? = cs[j]? := by
  induction vs generalizing w i cs with
  | nil => exact ⟨cs, h, rfl, fun _ _ => rfl⟩
  | cons v vs ih =>
    have h1 := setCell_block (i := i) h v
    obtain ⟨cs', h2, h3, h4⟩ := ih (i := i + 1) h1
    refine ⟨cs', ?_, by rw [h3]; simp, fun j hj => ?_⟩
    · rw [World.setCells]; exact h2
    · rw [h4 j (by omega), Array.getElem?_setIfInBounds_ne (by omega)]

theorem setCells_other {w : World} {b i x : Nat} (vs : List Value) (h : x ≠ b) : (w.setCells b i vs).heap[x]? = w.heap[x]? := by
  induction vs generalizing w i with
  | nil => rfl
  | cons v vs ih => rw [World.setCells, ih, setCell_other h]

theorem Kept.setCells {S : Nat → Prop} {a w : World} (h : Kept S a w) {b i : Nat} (hb : S b) (vs : List Value) : Kept S a (w.setCells b i vs) := by
  induction vs generalizing w i with
  | nil => exact h
  | cons v vs ih => rw [World.setCells]; exact ih (h.setCell (p := ⟨b, i, none⟩) (.inl hb) v)

set_option maxRecDepth 100000 in
set_option maxHeartbeats 3200000 in
theorem DeleteFunc_goes (p : Nat → Bool) (xs : List Nat) (g off cap n3 n4 : Nat) (cs : Array Value) (w : World) (h1 : w.heap[g]? = some (.cells cs TpT (0, 0))) (h3 : ∀ j x, xs[j]? = some x → cs[off + j]? = some (ptrV x)) (hlen : xs.length ≤ 1000000) (hcap : xs.length ≤ cap)
    (hp : ∀ x ∈ xs, ∀ W, Kept (fun b => b = g) w W → Calls Tryz.prog 47 #[.pointer (some ⟨x, 0, none⟩), .pointer (some ⟨n3, 0, none⟩), .pointer (some ⟨n4, 0, none⟩)] W fun e W' => e = .returned (.bool (p x)) ∧ Up W W') :
    Calls Tryz.prog 49 #[.slice (some ⟨g, off, none⟩) xs.length cap, .func (.func goesF) #[] #[.pointer (some ⟨n3, 0, none⟩), .pointer (some ⟨n4, 0, none⟩)]] w fun e w' =>
      e = .returned (.slice (some ⟨g, off, none⟩) (xs.filter fun x => !p x).length cap) ∧ Kept (fun b => b = g) w w' ∧ ∃ cs', w'.heap[g]? = some (.cells cs' TpT (0, 0)) ∧ cs'.size = cs.size ∧ ∀ j x, (xs.filter fun x => !p x)[j]? = some x → cs'[off + j]? = some (ptrV x) := by
  have HP := Lib.hid hp
  have HC := Lib.hid (And.intro h1 h3)
  have hsize : ∀ t, t < xs.length → off + t < cs.size := fun t ht => by
    have := h3 t _ (List.getElem?_eq_getElem ht)
    exact (Array.getElem?_eq_some_iff.1 this).1
  clear h1 h3 hp
  go_enter Tryz.func49, Tryz.ntmps49
  go_wp2_with (first | (go_at_call 69; refine (IndexFunc_goes p xs g off cap n3 n4 cs (0, 0) _ HC.out.1 HC.out.2 hlen (fun x hx W hW => HP.out x hx W (Kept.of_up hW))).mono ?_; rintro e w2 ⟨hu2, ⟨rfl, hno⟩ | ⟨j0, x0, rfl, hj0, hp0, hno⟩⟩))
  · -- none goes
    have e0 : (xs.filter fun x => !p x) = xs := List.filter_eq_self.2 fun x hx => by rw [hno x hx]; rfl
    rw [e0]
    refine bodyPost_ret (v := .slice (some ⟨g, off, none⟩) xs.length cap) (by simp [results, Tryz.results49, go_sem]) rfl ?_
    exact ⟨rfl, Kept.of_up hu2, cs, hu2.get HC.out.1, rfl, HC.out.2⟩
  have hjl : j0 < xs.length := (List.getElem?_eq_some_iff.1 hj0).1
  have hji : ((j0 : Int) == -1) = false := by simp <;> omega
  have hfl : (xs.take (j0 + 1)).filter (fun x => !p x) = xs.take j0 := by
    rw [List.take_add_one, hj0, List.filter_append]
    rw [show (some x0).toList.filter (fun x => !p x) = [] by simp [hp0]]
    rw [List.append_nil]
    exact List.filter_eq_self.2 fun x hx => by rw [hno x hx]; rfl
  have HF := Lib.hid hfl
  have HK0 : Hid (Kept (fun b => b = g) w w2) := Kept.of_up hu2
  have HC2 : Hid (w2.heap[g]? = some (.cells cs TpT (0, 0))) := hu2.get HC.out.1
  clear hj0 hp0 hno hfl hu2
  go_wp2_with fail
  go_loopw [5, 6] (fun s5 s6 wr => ∃ (i j : Nat) (cs' : Array Value), s5 = .int .i64 i ∧ s6 = .int .i64 j ∧ j ≤ xs.length ∧ i < j ∧ i = ((xs.take j).filter fun x => !p x).length ∧ Kept (fun b => b = g) w wr ∧ wr.heap[g]? = some (.cells cs' TpT (0, 0)) ∧ cs'.size = cs.size ∧
    (∀ t x, ((xs.take j).filter fun x => !p x)[t]? = some x → cs'[off + t]? = some (ptrV x)) ∧ (∀ t x, j ≤ t → xs[t]? = some x → cs'[off + t]? = some (ptrV x))) (fun _ s6 _ => xs.length - (intOf s6).toNat)
  case atStart =>
    refine ⟨j0, j0 + 1, cs, rfl, by simp [IntWalk.wrap64_in ((j0 : Int) + 1) (by omega)], by omega, by omega, by rw [HF.out]; simp; omega, HK0.out, HC2.out, rfl, fun t x hx => ?_, fun t x _ hx => HC.out.2 t x hx⟩
    rw [HF.out, List.getElem?_take] at hx
    split at hx
    · exact HC.out.2 t x hx
    · cases hx
  case round =>
    obtain ⟨i, j, cs', rfl, rfl, hj, hij, hil, hk, hg, hsz, hlo, hhi⟩ := hrel
    have HI := Lib.hid (And.intro hil (And.intro hsz (And.intro hlo hhi)))
    have HK := Lib.hid hk
    have HG := Lib.hid hg
    clear hil hlo hhi hk hg
    have gl := lt_of_heap HG.out
    by_cases hlt : j < xs.length
    · have hjj : (j : Int) < xs.length := by omega
      have hii : (i : Int) < xs.length := by omega
      have hi2 : i < xs.length := by omega
      obtain ⟨x, hx⟩ : ∃ x, xs[j]? = some x := ⟨_, List.getElem?_eq_getElem hlt⟩
      have y0 : wr.cell? ⟨g, off + j, none⟩ = some (.pointer (some ⟨x, 0, none⟩)) := (cell_of HG.out _).trans (HI.out.2.2.2 j x (Nat.le_refl _) hx)
      obtain ⟨old, hold⟩ : ∃ old, cs'[off + i]? = some old := by
        have := hsize i hi2
        exact ⟨_, Array.getElem?_eq_getElem (by rw [hsz]; exact this)⟩
      have HX := Lib.hid (And.intro hx hold)
      have HQ := Lib.hid (HP.out x (List.mem_of_getElem? hx))
      clear hx hold
      cases hq : p x with
      | true =>
        have hq2 : Hid (p x = true) := hq
        go_wp2_with (first | (go_at_call 47; refine (HQ.out _ HK.out).mono ?_; rintro e w3 ⟨rfl, hu3⟩; simp only [hq2.out]))
        refine ⟨⟨i, j + 1, cs', rfl, by simp, by omega, by omega, ?_, HK.out.up hu3, hu3.get HG.out, HI.out.2.1, ?_, fun t y ht hy => HI.out.2.2.2 t y (by omega) hy⟩, by simp [intOf]; omega⟩
        · rw [List.take_add_one, HX.out.1, List.filter_append]
          simp [hq2.out]
          exact HI.out.1
        · rw [List.take_add_one, HX.out.1, List.filter_append]
          simp only [Option.toList_some, List.filter_cons, hq2.out, Bool.not_true, Bool.false_eq_true, if_false, List.filter_nil, List.append_nil]
          exact HI.out.2.2.1
      | false =>
        have hq2 : Hid (p x = false) := hq
        go_wp2_with (first | (go_at_call 47; refine (HQ.out _ HK.out).mono ?_; rintro e w3 ⟨rfl, hu3⟩; simp only [hq2.out]; have hg3 := Lib.hid (hu3.get HG.out); have x0 := (cell_of hg3.out (off + i)).trans HX.out.2; have f0 := ice_of hg3.out (off + i); have gl3 := lt_of_heap hg3.out))
        have hb := setCell_block (i := off + i) hg3.out (.pointer (some ⟨x, 0, none⟩))
        refine ⟨⟨i + 1, j + 1, _, by simp, by simp, by omega, by omega, ?_, (HK.out.up hu3).setCell (p := ⟨g, off + i, none⟩) (.inl rfl) _, hb, by simp [HI.out.2.1], ?_, fun t y ht hy => ?_⟩, by simp [intOf]; omega⟩
        · rw [List.take_add_one, HX.out.1, List.filter_append]
          simp [hq2.out]
          exact HI.out.1
        · rw [List.take_add_one, HX.out.1, List.filter_append]
          simp only [Option.toList_some, List.filter_cons, hq2.out, Bool.not_false, if_true, List.filter_nil]
          intro t y hy
          rcases Nat.lt_or_ge t i with ht | ht
          · rw [List.getElem?_append_left (by rw [← HI.out.1]; exact ht)] at hy
            rw [Array.getElem?_setIfInBounds_ne (by omega)]
            exact HI.out.2.2.1 t y hy
          · rw [List.getElem?_append_right (by rw [← HI.out.1]; exact ht), ← HI.out.1] at hy
            have e : t = i := by
              have := (List.getElem?_eq_some_iff.1 hy).1
              simp at this
              omega
            subst e
            simp at hy
            subst hy
            have := hsize t hi2
            rw [Array.getElem?_setIfInBounds_self_of_lt (by rw [hsz]; exact this)]
            rfl
        · rw [Array.getElem?_setIfInBounds_ne (by omega)]
          exact HI.out.2.2.2 t y (by omega) hy
    · obtain rfl : j = xs.length := by omega
      have hii : (i : Int) < xs.length := by omega
      have hic : (i : Int) ≤ cap := by omega
      have hcl : ∀ ty, (Builtin.clear_ #[55] ty #[.slice (some ⟨g, off + i, none⟩) (xs.length - i) (cap - i)]).run Tryz.prog wr = .ok (.tuple #[]) (wr.setCells g (off + i) (List.replicate (xs.length - i) (.pointer none))) :=
        fun ty => Lib.run_clear_slice wr _ _ ty _ Tryz.underlying55 (fun _ => by kernel_rfl) rfl rfl g (off + i) _ _ (by omega) (fun t ht => by
          rw [cell_of HG.out, Array.getElem?_eq_getElem (by rw [hsz]; have := hsize (i + t) (by omega); omega)]; rfl) (fun t ht => ice_of HG.out _)
      obtain ⟨cs2, hb1, hb2, hb3⟩ := setCells_block (i := off + i) (List.replicate (xs.length - i) (.pointer none)) HG.out
      have HE := Lib.hid (And.intro hb1 (And.intro hb2 hb3))
      clear hlt hb1 hb2 hb3
      go_wp2_with fail
      refine bodyPost_ret (v := .slice (some ⟨g, off, none⟩) i cap) (by simp [results, Tryz.results49, go_sem]) rfl ?_
      have hil := HI.out.1
      have hlo := HI.out.2.2.1
      rw [List.take_length] at hil hlo
      refine ⟨by rw [hil], HK.out.setCells rfl _, cs2, HE.out.1, by rw [HE.out.2.1, hsz], fun t x hx => ?_⟩
      have := (List.getElem?_eq_some_iff.1 hx).1
      rw [HE.out.2.2 (off + t) (by omega)]
      exact hlo t x hx

end Go.Proofs.YtbghpkoimbmijaaGreatDoor
