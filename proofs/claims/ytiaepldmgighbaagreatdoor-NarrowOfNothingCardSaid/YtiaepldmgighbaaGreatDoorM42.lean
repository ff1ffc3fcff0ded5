import Derived.Test.YtiaepldmgighbaaGreatDoorM36
import Derived.Test.YtiaepldmgighbaaGreatDoorM07
import Derived.Test.YtiaepldmgighbaaGreatDoorM31
namespace Go.Proofs.YtiaepldmgighbaaGreatDoor
open Go.ChangeShapes Go.WideShapes Go.ChangeAt Go.RowKit
set_option linter.unusedSimpArgs false
set_option linter.unusedVariables false
set_option maxRecDepth 100000
abbrev RefT : TypeId := 33
inductive TIs (B : Nat) (w : World) : List Value → Ty → Prop
 | mk {k n : Int} {nm : ByteArray} {pa : Option Addr} {cap : Nat} {nv mv : Value} {ps : List Ty} {ns : List ByteArray} {ms : List Bool} (us : List (List Value))
   (hn1 : -9223372036854775808 ≤ n) (hn2 : n ≤ 9223372036854775807) (hnm : nm.size ≤ 2000000)
   (hnv : RowV (fun x => x < B) w nv (ns.map .string)) (hln : ns.length ≤ 2000000) (hsm : ∀ s ∈ ns, s.size ≤ 2000000)
   (hmv : RowV (fun x => x < B) w mv (ms.map .bool)) (hlm : ms.length ≤ 2000000)
   (hl : us.length = ps.length) (hpl : ps.length ≤ 2000000) (hpc : ps.length ≤ cap)
   (hc : ∀ (j : Nat) (u : List Value), us[j]? = some u → ∃ b off, pa = some ⟨b, off, none⟩ ∧ b < B ∧ u.length = 6 ∧ ∀ i, i < 6 → w.cell? ⟨b, off + j * 6 + i, none⟩ = u[i]?)
   (hq : ∀ (j : Nat) (u : List Value) (p : Ty), us[j]? = some u → ps[j]? = some p → TIs B w u p) :
   TIs B w [.int .i64 k, .int .i64 n, .string nm, .slice pa ps.length cap, nv, mv] (.mk k n nm ps ns ms)
theorem RowV.below {B : Nat} {w w' : World} {v : Value} {us : List Value} (h : RowV (fun x => x < B) w v us) (k : Below B w w') : RowV (fun x => x < B) w' v us := by
 obtain ⟨T, h⟩ := h
 refine ⟨T, h.keep fun g cs fz h1 h2 => ⟨h1, ?_⟩⟩
 rw [k.block g h1]
 exact h2
theorem TIs.low {B : Nat} {w w' : World} {us : List Value} {t : Ty} (h : TIs B w us t) (k : Below B w w') : TIs B w' us t := by
 induction h with
 | mk us hn1 hn2 hnm hnv hln hsm hmv hlm hl hpl hpc hc hq ih =>
   refine TIs.mk us hn1 hn2 hnm (hnv.below k) hln hsm (hmv.below k) hlm hl hpl hpc (fun j u hj => ?_) ih
   obtain ⟨b, off, h1, h2, h3, h4⟩ := hc j u hj
   exact ⟨b, off, h1, h2, h3, fun i hi => (Below.cell (p := ⟨b, _, none⟩) k h2).trans (h4 i hi)⟩
theorem Memo.below {S : Nat → Prop} {B : Nat} {w w' : World} (k : Memo S B w w') (h : B ≤ w.heap.size) : Below B w w' := ⟨k.os, k.tape, k.output, k.size, fun i hi => k.low i hi (Nat.lt_of_lt_of_le hi h)⟩
theorem Up.below {B : Nat} {w w' : World} (k : Up w w') (h : B ≤ w.heap.size) : Below B w w' := Below.mono k h
theorem cell_block {w : World} {b o : Nat} {v : Value} (h : w.cell? ⟨b, o, none⟩ = some v) : ∃ cs T f, w.heap[b]? = some (.cells cs T f) ∧ cs[o]? = some v := by
 unfold World.cell? at h
 revert h
 cases hb : w.heap[b]? with
 | none => simp
 | some o' =>
   cases o' with
   | cells cs T f => intro h; exact ⟨cs, T, f, rfl, by simpa using h⟩
   | _ => simp
theorem rowV_of {w : World} {a : Option Addr} {cap : Nat} {us : List Value} (hc : us.length ≤ cap) (hb : us.length ≤ 1000000000) (h : ∀ (j : Nat) (u : Value), us[j]? = some u → ∃ b off, a = some ⟨b, off, none⟩ ∧ w.cell? ⟨b, off + j, none⟩ = some u) :
   RowV (fun x => x < w.heap.size) w (.slice a us.length cap) us := by
 cases us with
 | nil => exact ⟨StrT, a, cap, rfl, hc, hb, fun j u hj => by simp at hj⟩
 | cons u0 us =>
   obtain ⟨b, off, rfl, h0⟩ := h 0 u0 rfl
   obtain ⟨cs, T, f, h1, h2⟩ := cell_block h0
   refine ⟨T, _, cap, rfl, hc, hb, fun j u hj => ⟨b, off, cs, f, rfl, lt_of_heap h1, h1, ?_⟩⟩
   obtain ⟨b', off', e, hj'⟩ := h j u hj
   injection e with e
   injection e with e1 e2 _
   subst e1 e2
   rw [cell_of h1] at hj'
   exact hj'
section
variable {H : Type} {enc : TypeId × Value → H}
theorem bulk_mem {l : List (DataW H)} {d : DataW H} (h : d ∈ l) : Rows.uptoBulk d ≤ Rows.uptoBulkAll l := by
 induction l with
 | nil => cases h
 | cons x r ih =>
   rw [Rows.uptoBulkAll]
   rcases List.mem_cons.1 h with rfl | h
   · omega
   · have := ih h; omega
theorem bulk_pos (d : DataW H) : 1 ≤ Rows.uptoBulk d := by
 cases d with
 | lit l => cases l <;> simp only [Rows.uptoBulk] <;> omega
 | _ => simp only [Rows.uptoBulk] <;> omega
theorem bulk_len (l : List (DataW H)) : l.length ≤ Rows.uptoBulkAll l := by
 induction l with
 | nil => simp
 | cons x r ih =>
   rw [Rows.uptoBulkAll]
   have := bulk_pos x
   simp only [List.length_cons]
   omega
theorem open_rowB {W : World} {sp : Nat → Bool} {fuel : Nat} {t e : TypeId} {k : Nat} {cs : List Value} {x : DataW H × List MemPlace} (ht : Tryz.prog.underlying t = some (.slice e)) (hk : Tryz.prog.cellsOf e = k) (hk0 : 0 < k)
   (h : DataW.trod enc Tryz.prog W 0 sp true fuel t cs = some x) :
   ∃ (a : Option Addr) (l c : Nat) (ys : List (DataW H × List MemPlace)), cs = [.slice a l c] ∧ l ≤ c ∧ ys.length = l ∧ Rows.uptoBulkAll (ys.map (·.1)) + 1 ≤ Rows.uptoBulk x.1 ∧
     ∀ (i : Nat) (y : DataW H × List MemPlace), ys[i]? = some y → ∃ b off us m, a = some ⟨b, off, none⟩ ∧ b < W.heap.size ∧ us.length = k ∧ (∀ j, j < k → W.cell? ⟨b, off + i * k + j, none⟩ = us[j]?) ∧ m < fuel ∧ DataW.trod enc Tryz.prog W 0 sp true m e us = some y := by
 rcases DataW.trod_slice ht h with ⟨rfl, rfl⟩ | ⟨a0, len, cap, elems, rest, n, rfl, rfl, rfl, _, hl, hm, hlen, hel, _, _⟩
 · exact ⟨none, 0, 0, [], rfl, Nat.le_refl _, rfl, by simp [Rows.uptoBulk, Rows.uptoBulkAll], fun i y hi => by simp at hi⟩
 have hspot : 0 < len → a0.spot = none := fun h0 => by
   obtain ⟨y0, hy0⟩ : ∃ y, elems[0]? = some y := ⟨_, List.getElem?_eq_getElem (by omega)⟩
   have h1 := hel 0 h0
   rw [hy0, Option.bind_eq_some_iff] at h1
   obtain ⟨cs0, hcs0, _⟩ := h1
   rw [hk] at hcs0
   obtain ⟨_, hcl0, hcell0⟩ := World.cells?_some hcs0
   have h2 := hcell0 0 hk0
   rw [List.getElem?_eq_getElem (by omega)] at h2
   simpa [Addr.add] using World.cell?_spot h2
 refine ⟨some a0, len, cap, elems, rfl, hl, hlen, by simp only [Rows.uptoBulk]; omega, fun i y hy => ?_⟩
 have hi : i < len := by rw [← hlen]; exact (List.getElem?_eq_some_iff.1 hy).1
 have h1 := hel i hi
 rw [hy, Option.bind_eq_some_iff] at h1
 obtain ⟨cs, hcs, hty⟩ := h1
 rw [hk] at hcs
 obtain ⟨_, hcl, hcell⟩ := World.cells?_some hcs
 have hblk := World.cells?_block hcs hk0
 have hsp := hspot (by omega)
 obtain ⟨b, off, spot⟩ := a0
 simp only at hsp
 subst hsp
 rw [Go.WideShapes.add_plain] at hblk
 refine ⟨b, off, cs, n, rfl, hblk, hcl, fun j hj => ?_, by omega, hty⟩
 have h2 := hcell j hj
 rw [Go.WideShapes.add_plain, Go.WideShapes.add_plain] at h2
 exact h2
theorem list_of {α : Type} {P : Nat → α → Prop} : ∀ (n : Nat), (∀ i, i < n → ∃ x, P i x) → ∃ l : List α, l.length = n ∧ ∀ i x, l[i]? = some x → P i x
 | 0, _ => ⟨[], rfl, fun i x h => by simp at h⟩
 | n + 1, h => by
   obtain ⟨l, h1, h2⟩ := list_of n (fun i hi => h i (by omega))
   obtain ⟨x, hx⟩ := h n (by omega)
   refine ⟨l ++ [x], by simp [h1], fun i y hy => ?_⟩
   rcases Nat.lt_or_ge i n with hi | hi
   · rw [List.getElem?_append_left (by omega)] at hy
     exact h2 i y hy
   · have hil := (List.getElem?_eq_some_iff.1 hy).1
     simp only [List.length_append, List.length_singleton] at hil
     obtain rfl : i = n := by omega
     rw [List.getElem?_append_right (by omega), h1, Nat.sub_self] at hy
     simp only [List.getElem?_cons_zero, Option.some.injEq] at hy
     subst hy
     exact hx
theorem open_strsB {W : World} {sp : Nat → Bool} {fuel : Nat} {cs : List Value} {x : DataW H × List MemPlace} (h : DataW.trod enc Tryz.prog W 0 sp true fuel 30 cs = some x) (hb : Rows.uptoBulk x.1 ≤ 1048576) :
   ∃ (v : Value) (ns : List ByteArray), cs = [v] ∧ RowV (fun y => y < W.heap.size) W v (ns.map .string) ∧ ns.length ≤ 2000000 ∧ ∀ s ∈ ns, s.size ≤ 2000000 := by
 obtain ⟨a, l, c, ys, rfl, h1, h2, h3, h6⟩ := open_rowB Tryz.underlying30 cellsS (by decide) h
 have hl := bulk_len (ys.map (·.1))
 rw [List.length_map] at hl
 obtain ⟨ns, hnl, hat⟩ := list_of (P := fun i (s : ByteArray) => ∃ b off, a = some ⟨b, off, none⟩ ∧ W.cell? ⟨b, off + i, none⟩ = some (.string s) ∧ s.size ≤ 2000000) l (fun i hi => by
   obtain ⟨y, hy⟩ : ∃ y, ys[i]? = some y := ⟨_, List.getElem?_eq_getElem (by omega)⟩
   obtain ⟨b, off, us, m, q1, q2, q3, q4, _, q5⟩ := h6 i y hy
   obtain ⟨s, rfl, rfl, _⟩ := DataW.trod_string Tryz.underlying9 q5
   have q8 := q4 0 (by decide)
   rw [Nat.mul_one, Nat.add_zero] at q8
   have q9 := bulk_mem (List.mem_map.2 ⟨_, List.mem_of_getElem? hy, rfl⟩ : (DataW.lit (.string s.data.toList) : DataW H) ∈ ys.map (·.1))
   have q10 : Rows.uptoBulk (DataW.lit (.string s.data.toList) : DataW H) = s.data.toList.length + 1 := by simp only [Rows.uptoBulk]
   have q11 : s.data.toList.length = s.size := by simp
   exact ⟨s, b, off, q1, by simpa using q8, by omega⟩)
 refine ⟨.slice a l c, ns, rfl, ?_, by omega, fun s hs => ?_⟩
 · have q := rowV_of (w := W) (a := a) (cap := c) (us := ns.map .string) (by rw [List.length_map]; omega) (by rw [List.length_map]; omega) (fun j u hj => by
     rw [List.getElem?_map] at hj
     cases hs : ns[j]? with
     | none => rw [hs] at hj; cases hj
     | some s =>
       rw [hs] at hj
       cases hj
       obtain ⟨b, off, r1, r2, _⟩ := hat j s hs
       exact ⟨b, off, r1, r2⟩)
   rw [List.length_map, hnl] at q
   exact q
 · obtain ⟨i, hi⟩ := List.getElem?_of_mem hs
   obtain ⟨_, _, _, _, r⟩ := hat i s hi
   exact r
theorem open_boolsB {W : World} {sp : Nat → Bool} {fuel : Nat} {cs : List Value} {x : DataW H × List MemPlace} (h : DataW.trod enc Tryz.prog W 0 sp true fuel 31 cs = some x) (hb : Rows.uptoBulk x.1 ≤ 1048576) :
   ∃ (v : Value) (ms : List Bool), cs = [v] ∧ RowV (fun y => y < W.heap.size) W v (ms.map .bool) ∧ ms.length ≤ 2000000 := by
 obtain ⟨a, l, c, ys, rfl, h1, h2, h3, h6⟩ := open_rowB Tryz.underlying31 cellsB (by decide) h
 have hl := bulk_len (ys.map (·.1))
 rw [List.length_map] at hl
 obtain ⟨ms, hnl, hat⟩ := list_of (P := fun i (s : Bool) => ∃ b off, a = some ⟨b, off, none⟩ ∧ W.cell? ⟨b, off + i, none⟩ = some (.bool s)) l (fun i hi => by
   obtain ⟨y, hy⟩ : ∃ y, ys[i]? = some y := ⟨_, List.getElem?_eq_getElem (by omega)⟩
   obtain ⟨b, off, us, m, q1, q2, q3, q4, _, q5⟩ := h6 i y hy
   obtain ⟨s, rfl, rfl⟩ := DataW.trod_bool Tryz.underlying4 q5
   have q8 := q4 0 (by decide)
   rw [Nat.mul_one, Nat.add_zero] at q8
   exact ⟨s, b, off, q1, by simpa using q8⟩)
 refine ⟨.slice a l c, ms, rfl, ?_, by omega⟩
 have q := rowV_of (w := W) (a := a) (cap := c) (us := ms.map .bool) (by rw [List.length_map]; omega) (by rw [List.length_map]; omega) (fun j u hj => by
   rw [List.getElem?_map] at hj
   cases hs : ms[j]? with
   | none => rw [hs] at hj; cases hj
   | some s =>
     rw [hs] at hj
     cases hj
     obtain ⟨b, off, r1, r2⟩ := hat j s hs
     exact ⟨b, off, r1, r2⟩)
 rw [List.length_map, hnl] at q
 exact q
theorem sum_le_bulk : ∀ (l : List (List Value × Ty)) (ys : List (DataW H × List MemPlace)), l.length = ys.length → (∀ (i : Nat) (x : List Value × Ty) (y : DataW H × List MemPlace), l[i]? = some x → ys[i]? = some y → x.2.nodes ≤ Rows.uptoBulk y.1) → ((l.map (·.2)).map Ty.nodes).sum ≤ Rows.uptoBulkAll (ys.map (·.1))
 | [], [], _, _ => by simp [Rows.uptoBulkAll]
 | [], _ :: _, h, _ => by simp at h
 | _ :: _, [], h, _ => by simp at h
 | x :: l, y :: ys, h, k => by
   have h1 := sum_le_bulk l ys (by simpa using h) (fun i x y q1 q2 => k (i + 1) x y (by simpa using q1) (by simpa using q2))
   have h2 := k 0 x y rfl rfl
   simp only [List.map_cons, List.sum_cons, Rows.uptoBulkAll]
   simp only [List.map_map] at h1 ⊢
   omega
theorem cellsRef : Tryz.prog.cellsOf RefT = 6 := by kernel_rfl
theorem cellsSlR : Tryz.prog.cellsOf 29 = 1 := by kernel_rfl
theorem cellsSlS : Tryz.prog.cellsOf 30 = 1 := by kernel_rfl
theorem cellsSlB : Tryz.prog.cellsOf 31 = 1 := by kernel_rfl
theorem open_T {W : World} {sp : Nat → Bool} : ∀ (fuel : Nat) (cs : List Value) (x : DataW H × List MemPlace), DataW.trod enc Tryz.prog W 0 sp true fuel RefT cs = some x → Rows.uptoBulk x.1 ≤ 1048576 → ∃ t, TIs W.heap.size W cs t ∧ t.nodes ≤ Rows.uptoBulk x.1 := by
 intro fuel
 induction fuel using Nat.strongRecOn with
 | _ fuel ih =>
 intro cs x h hb
 obtain ⟨xs, m, rfl, hx, hcl, hxl, hf⟩ := DataW.trod_struct Tryz.underlying33 h
 rw [cellsRef] at hcl
 match cs, hcl, xs, hxl with
 | [c0, c1, c2, c3, c4, c5], _, [x0, x1, x2, x3, x4, x5], _ =>
   have f0 : DataW.trod enc Tryz.prog W 0 sp true m 3 ((([c0, c1, c2, c3, c4, c5] : List Value).drop 0).take (Tryz.prog.cellsOf 3)) = some x0 := hf 0 _ rfl
   rw [cellsI] at f0
   have f1 : DataW.trod enc Tryz.prog W 0 sp true m 3 ((([c0, c1, c2, c3, c4, c5] : List Value).drop 1).take (Tryz.prog.cellsOf 3)) = some x1 := hf 1 _ rfl
   rw [cellsI] at f1
   have f2 : DataW.trod enc Tryz.prog W 0 sp true m 9 ((([c0, c1, c2, c3, c4, c5] : List Value).drop 2).take (Tryz.prog.cellsOf 9)) = some x2 := hf 2 _ rfl
   rw [cellsS] at f2
   have f3 : DataW.trod enc Tryz.prog W 0 sp true m 29 ((([c0, c1, c2, c3, c4, c5] : List Value).drop 3).take (Tryz.prog.cellsOf 29)) = some x3 := hf 3 _ rfl
   rw [cellsSlR] at f3
   have f4 : DataW.trod enc Tryz.prog W 0 sp true m 30 ((([c0, c1, c2, c3, c4, c5] : List Value).drop 4).take (Tryz.prog.cellsOf 30)) = some x4 := hf 4 _ rfl
   rw [cellsSlS] at f4
   have f5 : DataW.trod enc Tryz.prog W 0 sp true m 31 ((([c0, c1, c2, c3, c4, c5] : List Value).drop 5).take (Tryz.prog.cellsOf 31)) = some x5 := hf 5 _ rfl
   rw [cellsSlB] at f5
   simp only [List.drop, List.take] at f0 f1 f2 f3 f4 f5
   have hbx : Rows.uptoBulk x.1 = Rows.uptoBulk x0.1 + (Rows.uptoBulk x1.1 + (Rows.uptoBulk x2.1 + (Rows.uptoBulk x3.1 + (Rows.uptoBulk x4.1 + (Rows.uptoBulk x5.1 + 0))))) + 1 := by
     rw [hx]
     simp only [Rows.uptoBulk, Rows.uptoBulkAll, List.map_cons, List.map_nil]
   obtain ⟨k, e0, _, _⟩ := DataW.trod_int Tryz.underlying3 f0
   obtain ⟨n, e1, _, hnw⟩ := DataW.trod_int Tryz.underlying3 f1
   obtain ⟨nm, e2, hnm, _⟩ := DataW.trod_string Tryz.underlying9 f2
   obtain ⟨a, l, c, ys, e3, h1, h2, h3, h6⟩ := open_rowB Tryz.underlying29 cellsRef (by decide) f3
   obtain ⟨nv, ns, e4, hnv, hln, hsm⟩ := open_strsB f4 (by omega)
   obtain ⟨mv, ms, e5, hmv, hlm⟩ := open_boolsB f5 (by omega)
   simp only [List.cons.injEq, and_true] at e0 e1 e2 e3 e4 e5
   subst e0 e1 e2 e3 e4 e5
   have hnb := bounds_i64 hnw
   have hnz : nm.size + 1 ≤ Rows.uptoBulk x2.1 := by
     rw [hnm]
     show _ ≤ Rows.uptoBulk (DataW.lit (.string nm.data.toList) : DataW H)
     have q10 : Rows.uptoBulk (DataW.lit (.string nm.data.toList) : DataW H) = nm.data.toList.length + 1 := by simp only [Rows.uptoBulk]
     have q11 : nm.data.toList.length = nm.size := by simp
     omega
   have hl := bulk_len (ys.map (·.1))
   rw [List.length_map] at hl
   obtain ⟨L, hLl, hL⟩ := list_of (P := fun i (z : List Value × Ty) => ∃ b off y, ys[i]? = some y ∧ a = some ⟨b, off, none⟩ ∧ b < W.heap.size ∧ z.1.length = 6 ∧ (∀ j, j < 6 → W.cell? ⟨b, off + i * 6 + j, none⟩ = z.1[j]?) ∧ TIs W.heap.size W z.1 z.2 ∧ z.2.nodes ≤ Rows.uptoBulk y.1) l (fun i hi => by
     obtain ⟨y, hy⟩ : ∃ y, ys[i]? = some y := ⟨_, List.getElem?_eq_getElem (by omega)⟩
     obtain ⟨b, off, us, m', q1, q2, q3, q4, q6, q5⟩ := h6 i y hy
     have q9 := bulk_mem (List.mem_map.2 ⟨_, List.mem_of_getElem? hy, rfl⟩ : y.1 ∈ ys.map (·.1))
     obtain ⟨t, ht, hn⟩ := ih m' (by omega) us y q5 (by omega)
     exact ⟨(us, t), b, off, y, hy, q1, q2, q3, q4, ht, hn⟩)
   have hps : (L.map (·.2)).length = l := by rw [List.length_map, hLl]
   have hsum := sum_le_bulk L ys (by omega) (fun i x y q1 q2 => by
     obtain ⟨_, _, y', r1, _, _, _, _, _, r7⟩ := hL i x q1
     rw [q2] at r1
     cases r1
     exact r7)
   refine ⟨.mk k n nm (L.map (·.2)) ns ms, ?_, ?_⟩
   · have q := TIs.mk (B := W.heap.size) (w := W) (k := k) (n := n) (nm := nm) (pa := a) (cap := c) (nv := c4) (mv := c5) (ps := L.map (·.2)) (ns := ns) (ms := ms) (L.map (·.1)) hnb.1 hnb.2 (by omega) hnv hln hsm hmv hlm (by simp) (by omega) (by omega) (fun j u hj => by
       rw [List.getElem?_map] at hj
       cases hz : L[j]? with
       | none => rw [hz] at hj; cases hj
       | some z =>
         rw [hz] at hj
         cases hj
         obtain ⟨b, off, _, _, r1, r2, r3, r4, _, _⟩ := hL j z hz
         exact ⟨b, off, r1, r2, r3, r4⟩) (fun j u p hj hp => by
       rw [List.getElem?_map] at hj hp
       cases hz : L[j]? with
       | none => rw [hz] at hj; cases hj
       | some z =>
         rw [hz] at hj hp
         cases hj
         cases hp
         obtain ⟨_, _, _, _, _, _, _, _, r5, _⟩ := hL j z hz
         exact r5)
     rw [hps] at q
     exact q
   · rw [Ty.nodes_mk]
     omega
end
end Go.Proofs.YtiaepldmgighbaaGreatDoor
namespace Go.Proofs.YtiaepldmgighbaaGreatDoor
open Go.RowKit
set_option linter.unusedSimpArgs false
set_option linter.unusedVariables false
theorem TIs.six {B : Nat} {w : World} {us : List Value} {t : Ty} (h : TIs B w us t) : ∃ u0 u1 u2 u3 u4 u5, us = [u0, u1, u2, u3, u4, u5] := by
 cases h
 exact ⟨_, _, _, _, _, _, rfl⟩
theorem parts_at {B : Nat} {w : World} {pa : Option Addr} {ps : List Ty} {us : List (List Value)} (hl : us.length = ps.length)
   (hc : ∀ (j : Nat) (u : List Value), us[j]? = some u → ∃ b off, pa = some ⟨b, off, none⟩ ∧ b < B ∧ u.length = 6 ∧ ∀ i, i < 6 → w.cell? ⟨b, off + j * 6 + i, none⟩ = u[i]?)
   (hq : ∀ (j : Nat) (u : List Value) (p : Ty), us[j]? = some u → ps[j]? = some p → TIs B w u p) {j : Nat} (hj : j < ps.length) :
   ∃ p b off u0 u1 u2 u3 u4 u5, ps[j]? = some p ∧ pa = some ⟨b, off, none⟩ ∧ b < B ∧ w.cell? ⟨b, off + j * 6, none⟩ = some u0 ∧ w.cell? ⟨b, off + j * 6 + 1, none⟩ = some u1 ∧ w.cell? ⟨b, off + j * 6 + 2, none⟩ = some u2 ∧ w.cell? ⟨b, off + j * 6 + 3, none⟩ = some u3 ∧ w.cell? ⟨b, off + j * 6 + 4, none⟩ = some u4 ∧ w.cell? ⟨b, off + j * 6 + 5, none⟩ = some u5 ∧ TIs B w [u0, u1, u2, u3, u4, u5] p := by
 obtain ⟨u, hu⟩ : ∃ u, us[j]? = some u := ⟨_, List.getElem?_eq_getElem (by omega)⟩
 obtain ⟨p, hp⟩ : ∃ p, ps[j]? = some p := ⟨_, List.getElem?_eq_getElem hj⟩
 obtain ⟨b, off, h1, h2, _, h4⟩ := hc j u hu
 have ht := hq j u p hu hp
 obtain ⟨u0, u1, u2, u3, u4, u5, rfl⟩ := ht.six
 exact ⟨p, b, off, u0, u1, u2, u3, u4, u5, hp, h1, h2, h4 0 (by decide), h4 1 (by decide), h4 2 (by decide), h4 3 (by decide), h4 4 (by decide), h4 5 (by decide), ht⟩
def sumN (l : List Ty) : Nat := (l.map Ty.nodes).sum
theorem sumN_next {l : List Ty} {j : Nat} {p : Ty} (h : l[j]? = some p) : sumN (l.take (j + 1)) = sumN (l.take j) + p.nodes := by
 unfold sumN
 rw [List.take_add_one, h]
 simp
theorem sumN_take (l : List Ty) (j : Nat) : sumN (l.take j) ≤ sumN l := by
 unfold sumN
 rw [← List.take_append_drop j l, List.map_append, List.sum_append, List.take_append_drop]
 omega
def SizeR (t : Ty) (w : World) (e : Ending) (w' : World) : Prop := ∃ r : Nat, e = .returned (.int .i64 r) ∧ r ≤ t.nodes ∧ (r ≤ 500 → r = t.nodes) ∧ Up w w'
set_option maxRecDepth 100000 in
set_option maxHeartbeats 3200000 in
theorem Size_any (B : Nat) : ∀ (m : Nat) (t : Ty) (us : List Value) (w : World), t.nodes ≤ m → TIs B w us t → B ≤ w.heap.size → t.nodes ≤ 2000000 → Calls Tryz.prog 52 #[.agg us.toArray] w (SizeR t w) := by
 intro m
 induction m with
 | zero => intro t us w h; have := t.nodes_pos; omega
 | succ m ih =>
   intro t us w hm h hB hn
   cases h with
   | @mk k n nm pa cap nv mv ps ns ms us hn1 hn2 hnm hnv hln hsm hmv hlm hl hpl hpc hc hq =>
     have hsum : Hid ((Ty.mk k n nm ps ns ms).nodes = 1 + sumN ps) := Ty.nodes_mk _ _ _ _ _ _
     have HP := Lib.hid (fun (j : Nat) (hj : j < ps.length) => parts_at hl hc hq hj)
     have IH := Lib.hid ih
     have HB := Lib.hid (And.intro hB (And.intro hm hn))
     obtain ⟨na, ncap, rfl, _, _⟩ := hnv.form
     obtain ⟨ma, mcap, rfl, _, _⟩ := hmv.form
     obtain ⟨nl, hnl⟩ : ∃ nl, Hid ((ns.map Value.string).length = nl) := ⟨_, rfl⟩
     obtain ⟨ml, hml⟩ : ∃ ml, Hid ((ms.map Value.bool).length = ml) := ⟨_, rfl⟩
     rw [hnl.out, hml.out]
     clear ih hm hB hn hl hc hq hn1 hn2 hnm hnv hln hsm hmv hlm hnl hml
     go_enter Tryz.func52, Tryz.ntmps52
     go_wp2_with fail
     refine range_named fun A2 W2 hA2 hW2 => ?_
     have hu0 : Hid (Up w W2) := by subst hW2; exact uq
     obtain ⟨q, hq⟩ : ∃ q, Hid (w.heap.size = q) := ⟨_, rfl⟩
     have HQ : Hid (W2.heap[q]? = some (.cells #[.int .i64 k, .int .i64 n, .string nm, .slice pa ps.length cap, .slice na nl ncap, .slice ma ml mcap] RefT (0, 0))) := by subst hW2; rw [← hq.out]; exact alloc_at _ _ _ rfl
     rw [hq.out] at hA2
     clear hW2
     subst hA2
     go_loopw [3, 4] (fun v i wr => ∃ (j r : Nat), j ≤ ps.length ∧ i = .int .i64 j ∧ v = .int .i64 r ∧ Hid (r ≤ 1 + sumN (ps.take j) ∧ (r ≤ 500 → r = 1 + sumN (ps.take j))) ∧ Up W2 wr) (fun _ i _ => ps.length - (intOf i).toNat)
     case atStart => exact ⟨0, 1, Nat.zero_le _, rfl, rfl, ⟨by simp [sumN], fun _ => by simp [sumN]⟩, Up.refl _⟩
     case round =>
       obtain ⟨j, r, hj, rfl, rfl, hX, hup2⟩ := hrel
       have HU := Lib.hid (hu0.out.trans hup2)
       have HQr := Lib.hid (hup2.get HQ.out)
       have x3 := cell_of HQr.out 3
       have xl := lt_of_heap HQr.out
       simp only [List.getElem?_toArray, List.getElem?_cons_zero, List.getElem?_cons_succ] at x3
       by_cases hlt : j < ps.length
       · have hji : (j : Int) < ps.length := by omega
         by_cases h5 : r ≤ 500
         · have h5i : (r : Int) ≤ 500 := by omega
           obtain ⟨p, b, off, u0, u1, u2, u3, u4, u5, hp, rfl, hb, c0, c1, c2, c3, c4, c5, ht⟩ := HP.out j hlt
           have hbw := Nat.lt_of_lt_of_le hb HB.out.1
           have c0 := (HU.out.cells _ _ hbw).trans c0
           have c1 := (HU.out.cells _ _ hbw).trans c1
           have c2 := (HU.out.cells _ _ hbw).trans c2
           have c3 := (HU.out.cells _ _ hbw).trans c3
           have c4 := (HU.out.cells _ _ hbw).trans c4
           have c5 := (HU.out.cells _ _ hbw).trans c5
           have hbl := Nat.lt_of_lt_of_le hbw HU.out.size
           have hpn : Hid (sumN (ps.take (j + 1)) = sumN (ps.take j) + p.nodes ∧ sumN (ps.take (j + 1)) ≤ sumN ps) := ⟨sumN_next hp, sumN_take _ _⟩
           have HT := Lib.hid (fun W (hW : Up w W) => IH.out p [u0, u1, u2, u3, u4, u5] W (by have := hpn.out; have := HB.out; have := hsum.out; omega) (ht.low (hW.below HB.out.1)) (Nat.le_trans HB.out.1 hW.size) (by have := hpn.out; have := HB.out; have := hsum.out; omega))
           clear hp ht hlt
           go_wp2_with (first | (go_at_call 52; refine (HT.out _ (HU.out.trans (show Up wr _ from uq))).mono ?_; rintro e w2 ⟨r2, rfl, hr1, hr2, hu2⟩; have HR := Lib.hid (And.intro hr1 hr2); have hr3 : (r2 : Int) ≤ 2000000 := (by have := hpn.out; have := HB.out; have := hsum.out; omega); clear hr1 hr2))
           exact ⟨⟨j + 1, r + r2, by omega, by simp, by simp, ⟨by have := hpn.out; have := HR.out; have := hX.out; omega, fun h => by have := hpn.out; have := HR.out; have := hX.out; omega⟩, uq⟩, by simp [intOf]; omega⟩
         · have h5i : ¬ (r : Int) ≤ 500 := by omega
           have HX := Lib.hid (And.intro hX h5)
           clear hX hlt
           go_wp2_with fail
           go_ret
           exact ⟨r, rfl, by have := HX.out.1.out; have := sumN_take ps j; have := hsum.out; omega, fun h => absurd h HX.out.2, HU.out.trans uq⟩
       · obtain rfl : j = ps.length := by omega
         have HX : Hid (r ≤ 1 + sumN ps ∧ (r ≤ 500 → r = 1 + sumN ps)) := by have := hX.out; rw [List.take_length] at this; exact this
         clear hX hlt
         go_wp2_with fail
         all_goals go_ret
         all_goals exact ⟨r, rfl, by have := HX.out; have := hsum.out; omega, fun h => by have := HX.out; have := hsum.out; omega, HU.out.trans uq⟩
set_option maxHeartbeats 800000 in
theorem large_any (B : Nat) (t : Ty) (us : List Value) (w : World) (h : TIs B w us t) (hB : B ≤ w.heap.size) (hn : t.nodes ≤ 2000000) : Calls Tryz.prog 21 #[.agg us.toArray] w fun e w' => ∃ b : Bool, e = .returned (.bool b) ∧ (b = false → t.nodes ≤ 60) ∧ Up w w' := by
 obtain ⟨u0, u1, u2, u3, u4, u5, rfl⟩ := h.six
 have HS := Lib.hid (fun W (hW : Up w W) => Size_any B _ t _ W (Nat.le_refl _) (h.low (hW.below hB)) (Nat.le_trans hB hW.size) hn)
 have HN := Lib.hid hn
 clear h hB hn
 go_enter Tryz.func21, Tryz.ntmps21
 go_wp2_with (first | (go_at_call 52; refine (HS.out _ (show Up w _ from uq)).mono ?_; rintro e w2 ⟨r, rfl, hr1, hr2, hu2⟩; have HR := Lib.hid (And.intro hr1 hr2); clear hr1 hr2))
 go_ret
 refine ⟨_, rfl, fun e => ?_, uq⟩
 have := HR.out
 simp only [decide_eq_false_iff_not] at e
 omega
abbrev IntL : TypeId := 3
theorem int_info : (Tryz.prog.info? IntL).map (fun i => (i.zero, i.size, i.bytes)) = some (some (.int .i64 0), 1, 8) := by kernel_rfl
def Apart (w w' : World) : Prop := ∀ (x : Nat) (o : Obj), w.heap[x]? = some o → (∀ (cs : Array Value) (f : Nat × Nat), o ≠ .cells cs IntL f) → w'.heap[x]? = some o
theorem not_int {T : TypeId} (cs : Array Value) (f : Nat × Nat) (hT : T ≠ IntL) : ∀ (cs' : Array Value) (f' : Nat × Nat), Obj.cells cs T f ≠ .cells cs' IntL f' := fun cs' f' e => by
 injection e with _ e _
 exact hT e
theorem TyAt.apart {N : Nat → Prop} {B : Nat} {w w' : World} {b : Nat} {t : Ty} (h : TyAt N B w b t) (k : Apart w w') : TyAt N B w' b t := by
 induction h with
 | mk said pv nv mv qs hB hh hs hp hn hm hl hq ih =>
   exact TyAt.mk said pv nv mv qs hB (k _ _ hh (not_int _ _ (by decide))) hs (hp.keep fun g cs fz q1 q2 => ⟨q1, k _ _ q2 (not_int _ _ (by decide))⟩) (hn.keep fun g cs fz q1 q2 => ⟨q1, k _ _ q2 (not_int _ _ (by decide))⟩) (hm.keep fun g cs fz q1 q2 => ⟨q1, k _ _ q2 (not_int _ _ (by decide))⟩) hl ih
theorem TyAt.apart_cell {N : Nat → Prop} {B : Nat} {w w' : World} {b : Nat} {t : Ty} (h : TyAt N B w b t) (k : Apart w w') (i : Nat) : w'.cell? ⟨b, i, none⟩ = w.cell? ⟨b, i, none⟩ := by
 obtain ⟨cs, hb⟩ := h.blk
 rw [cell_of hb, cell_of (k _ _ hb (not_int _ _ (by decide)))]
theorem Asked.apart {N : Nat → Prop} {B : Nat} {w w' : World} {b : Nat} {t : Ty} (h : Asked N B w b t) (ht : TyAt N B w b t) (k : Apart w w') : Asked N B w' b t := by
 obtain ⟨pv, qs, h1, h2, h3, h4⟩ := h.parts
 refine ⟨(ht.apart_cell k 7).trans h.self, h.ne, pv, qs, (ht.apart_cell k 3).trans h1, h2.keep fun g cs fz q1 q2 => ⟨q1, k _ _ q2 (not_int _ _ (by decide))⟩, h3, fun j q p hj hp => ?_⟩
 obtain ⟨q1, q2, q3⟩ := h4 j q p hj hp
 exact ⟨q1.apart k, (q1.apart_cell k 7).trans q2, q3⟩
theorem Are.apart {w w' : World} {B A : Nat} {bs : List Nat} {ts : List Ty} {tv mv dv : Value} (h : Are w B A bs ts tv mv dv) (k : Apart w w') : Are w' B A bs ts tv mv dv where
 base := h.base
 head := k _ _ h.head (not_int _ _ (by decide))
 row := ownsRow_keep h.row fun g' hg' => by
   obtain ⟨cur, hc⟩ : ∃ cur, w.heap[g']? = some (.cells cur TpT (0, 0)) := by
     rcases h.row.2 with ⟨hv, _⟩ | ⟨g'', cap, cur, hv, _, hc, _⟩
     · rw [hv] at hg'; cases hg'
     · rw [hv] at hg'; cases hg'; exact ⟨cur, hc⟩
   rw [hc]
   exact k _ _ hc (not_int _ _ (by decide))
 rowB := h.rowB
 ids := h.ids.imp id fun ⟨g, es, clk, h1, h2, h3, h4⟩ => ⟨g, es, clk, h1, h2, k _ _ h3 (fun _ _ e => by cases e), h4⟩
 len := h.len
 nodup := h.nodup
 ty i b t h1 h2 := (h.ty i b t h1 h2).apart k
 asked i b t h1 h2 := (h.asked i b t h1 h2).apart (h.ty i b t h1 h2) k
 good := h.good
 closed := h.closed
theorem row_blockI {w : World} {T : TypeId} {v : Value} {n : Nat} {xs : List Value} (h : w.ownsRow 0 T 1 v n xs) {g : Nat} (hg : v.ownBlock = some g) : ∃ cur, w.heap[g]? = some (.cells cur T (0, 0)) := by
 rcases h.2 with ⟨hv, _⟩ | ⟨g'', cap, cur, hv, _, hc, _⟩
 · rw [hv] at hg; cases hg
 · rw [hv] at hg; cases hg; exact ⟨cur, hc⟩
theorem ownsRow_memoS {S : Nat → Prop} {B : Nat} {w w' : World} {T : TypeId} {v : Value} {n : Nat} {xs : List Value} (h : w.ownsRow 0 T 1 v n xs) (hT : T ≠ TyT) (hS : ∀ g, v.ownBlock = some g → ¬ S g) (m : Memo S B w w') : w'.ownsRow 0 T 1 v n xs := ownsRow_keep h fun g hg => by
 obtain ⟨cur, hc⟩ := row_blockI h hg
 exact (m.cells hc hT (hS g hg)).trans hc.symm
theorem ids_more {l r : List Ty} : ∀ {zs : List Nat} {us : List Ty}, zs.map (fun z => l[z]?) = us.map some → zs.map (fun z => (l ++ r)[z]?) = us.map some
 | [], [], _ => rfl
 | [], _ :: _, h => by simp at h
 | _ :: _, [], h => by simp at h
 | z :: zs, u :: us, h => by
   simp only [List.map_cons, List.cons.injEq] at h ⊢
   exact ⟨by rw [List.getElem?_append_left (List.getElem?_eq_some_iff.1 h.1).1]; exact h.1, ids_more h.2⟩
theorem KeepR.done {B A : Nat} {bs : List Nat} {ts : List Ty} {tv mv dv : Value} {w w' : World} {u : Ty} {e : Ending} (h : KeepR B A bs ts tv mv dv w u e w') (hv : u.Valid) (hn : u.nodes ≤ 500) :
   ∃ (i : Nat) (bs' : List Nat) (ts' : List Ty) (tv' mv' : Value) (x : Ty), e = .returned (.tuple #[.int .i64 i, .int .i64 0]) ∧ Are w' B A (bs ++ bs') (ts ++ ts') tv' mv' dv ∧ LayM B A tv mv w w' tv' mv' ∧ bs'.length ≤ u.nodes ∧ (ts ++ ts')[i]? = some x ∧ x.Valid ∧ x.canon = u.canon ∧ x.nodes = u.nodes := by
 rcases h with ⟨_, i, rfl, i', bs', ts', tv', mv', e, h1, h2, h3, h4, _⟩ | ⟨h5, _, _⟩
 · injection e with e
   injection e with _ e
   obtain rfl : i = i' := by omega
   rw [List.getElem?_map] at h3
   cases hx : (ts ++ ts')[i]? with
   | none => rw [hx] at h3; cases h3
   | some x =>
     rw [hx] at h3
     simp only [Option.map_some, Option.some.injEq] at h3
     have hg := (h1.good x (List.mem_of_getElem? hx)).1
     exact ⟨i, bs', ts', tv', mv', x, rfl, h1, h2, h4, hx, hg, text_inj hg hv h3, text_smaller hg hv h3⟩
 · omega
def LaidR (B A : Nat) (bs : List Nat) (ts : List Ty) (tv mv dv : Value) (w : World) (t : Ty) (e : Ending) (w' : World) : Prop :=
 ∃ (i : Nat) (ok : Bool) (bs' : List Nat) (ts' : List Ty) (tv' mv' : Value), e = .returned (.tuple #[.int .i64 i, .bool ok]) ∧ Are w' B A (bs ++ bs') (ts ++ ts') tv' mv' dv ∧ LayM B A tv mv w w' tv' mv' ∧ bs'.length ≤ 100 * t.nodes ∧ (ok = true → ∃ u, (ts ++ ts')[i]? = some u ∧ u.nodes ≤ t.nodes ∧ (∀ P, t.varsOk P → u.varsOk P) ∧ u.canon = normC t)
structure LaidS (B A : Nat) (bs : List Nat) (ts : List Ty) (tv mv dv : Value) (w : World) (ps : List Ty) (c j : Nat) (lv : Value) (bs1 : List Nat) (ts1 : List Ty) (tv1 mv1 : Value) (zs : List Nat) (us : List Ty) (wr : World) : Prop where
 base : B ≤ w.heap.size
 are : Are wr B A (bs ++ bs1) (ts ++ ts1) tv1 mv1 dv
 lay : LayM B A tv mv w wr tv1 mv1
 few : bs1.length ≤ 100 * sumN (ps.take c)
 len : zs.length = j
 ids : zs.map (fun z => (ts ++ ts1)[z]?) = us.map some
 size : sumN us ≤ sumN (ps.take j)
 vars : ∀ P, (∀ p ∈ ps.take j, p.varsOk P) → ∀ u ∈ us, u.varsOk P
 norm : us.map Ty.canon = (ps.take j).map normC
 row : wr.ownsRow 0 IntL 1 lv j (zs.map numV)
 far : ∀ g, lv.ownBlock = some g → w.heap.size ≤ g ∧ ¬ arS A tv1 mv1 g
section
variable {B A : Nat} {bs : List Nat} {ts : List Ty} {tv mv dv : Value} {w : World} {ps : List Ty} {c j : Nat} {lv : Value} {bs1 : List Nat} {ts1 : List Ty} {tv1 mv1 : Value} {zs : List Nat} {us : List Ty} {wr : World}
theorem LaidS.up (h : LaidS B A bs ts tv mv dv w ps c j lv bs1 ts1 tv1 mv1 zs us wr) {w2 : World} (hu : Up wr w2) : LaidS B A bs ts tv mv dv w ps c j lv bs1 ts1 tv1 mv1 zs us w2 :=
 ⟨h.base, h.are.up hu, h.lay.trans (LayM.of_memo (Memo.of_up _ _ hu)), h.few, h.len, h.ids, h.size, h.vars, h.norm, ownsRow_up h.row hu, h.far⟩
theorem LaidS.called (h0 : LaidS B A bs ts tv mv dv w ps j j lv bs1 ts1 tv1 mv1 zs us wr) {w2 w3 : World} (hu : Up wr w2) {p : Ty} (hp : ps[j]? = some p) {e : Ending} (k : LaidR B A (bs ++ bs1) (ts ++ ts1) tv1 mv1 dv w2 p e w3) :
   ∃ (i : Nat) (ok : Bool) (bs2 : List Nat) (ts2 : List Ty) (tv2 mv2 : Value), e = .returned (.tuple #[.int .i64 i, .bool ok]) ∧ LaidS B A bs ts tv mv dv w ps (j + 1) j lv bs2 ts2 tv2 mv2 zs us w3 ∧ (ok = true → ∃ x, (ts ++ ts2)[i]? = some x ∧ x.nodes ≤ p.nodes ∧ (∀ P, p.varsOk P → x.varsOk P) ∧ x.canon = normC p) := by
 have h := h0.up hu
 obtain ⟨i, ok, bs', ts', tv', mv', rfl, k1, k2, k3, k4⟩ := k
 refine ⟨i, ok, bs1 ++ bs', ts1 ++ ts', tv', mv', rfl, ⟨h.base, ?_, h.lay.trans k2, ?_, h.len, ?_, h.size, h.vars, h.norm, ownsRow_memoS h.row (by decide) (fun g hg => (h.far g hg).2) k2.memo, fun g hg => ⟨(h.far g hg).1, fun hx => ?_⟩⟩, ?_⟩
 · rw [List.append_assoc, List.append_assoc] at k1
   exact k1
 · have := h.few
   rw [sumN_next hp, List.length_append]
   omega
 · rw [← List.append_assoc]
   exact ids_more h.ids
 · rcases k2.own g hx with q | q
   · exact (h.far g hg).2 q
   · obtain ⟨cur, hc⟩ := row_blockI h.row hg
     have := lt_of_heap hc
     omega
 · rw [List.append_assoc] at k4
   exact k4
theorem LaidS.grown (h0 : LaidS B A bs ts tv mv dv w ps (j + 1) j lv bs1 ts1 tv1 mv1 zs us wr) {W w7 : World} (hu : Up wr W) {p x : Ty} {i : Nat} (hp : ps[j]? = some p) (hx : (ts ++ ts1)[i]? = some x) (hn : x.nodes ≤ p.nodes) (hxv : ∀ P, p.varsOk P → x.varsOk P) (hxc : x.canon = normC p) {lv' : Value}
   (hown : w7.ownsRow 0 IntL 1 lv' (j + 1) (zs.map numV ++ [.int .i64 i])) (hgrow : (W.alloc (.cells #[.int .i64 i] IntL)).grownBy w7 lv.ownBlock) (hblk : lv'.ownBlock = lv.ownBlock ∨ ∃ g', lv'.ownBlock = some g' ∧ W.heap.size + 1 ≤ g') :
   LaidS B A bs ts tv mv dv w ps (j + 1) (j + 1) lv' bs1 ts1 tv1 mv1 (zs ++ [i]) (us ++ [x]) w7 := by
 have h := h0.up hu
 have hlw : w.heap.size ≤ W.heap.size := h.lay.memo.size
 have hap : Apart W w7 := fun y o hy ho => grown_get hgrow (alloc_keep hy) (fun e => by
   obtain ⟨cur, hc⟩ := row_blockI h.row e
   rw [hc] at hy
   cases hy
   exact ho _ _ rfl)
 refine ⟨h.base, h.are.apart hap, ⟨?_, h.lay.own⟩, h.few, by simp [h.len], ?_, ?_, fun P hP u hu' => ?_, by rw [List.take_add_one, hp, Option.toList_some, List.map_append, List.map_append, h.norm, List.map_singleton, List.map_singleton, hxc], ?_, fun g hg => ?_⟩
 · have m1 := h.lay.memo.mono (T := fun x => arS A tv mv x ∨ w.heap.size ≤ x) fun _ e => .inl e
   have m2 : Memo (fun x => arS A tv mv x ∨ w.heap.size ≤ x) B (W.alloc (.cells #[.int .i64 i] IntL)) w7 := Memo.grown hgrow fun r e => by
     obtain ⟨cur, hc⟩ := row_blockI h.row e
     have hf := (h.far r e).1
     exact ⟨.inr hf, Nat.le_trans h.base hf, cur, IntL, (0, 0), alloc_keep hc, by decide⟩
   exact ((m1.up (show Up W (W.alloc (.cells #[.int .i64 i] IntL)) from uq)).trans m2).less fun _ e => e
 · rw [List.map_append, List.map_append, h.ids, List.map_cons, List.map_nil, hx]
   rfl
 · have := h.size
   rw [sumN_next hp]
   unfold sumN at *
   rw [List.map_append, List.sum_append]
   simp only [List.map_cons, List.map_nil, List.sum_cons, List.sum_nil]
   omega
 · rw [List.take_add_one, hp, Option.toList_some] at hP
   rcases List.mem_append.1 hu' with q | q
   · exact h.vars P (fun y hy => hP y (List.mem_append_left _ hy)) u q
   · rw [List.mem_singleton.1 q]
     exact hxv P (hP p (by simp))
 · rw [List.map_append]
   exact hown
 · rcases hblk with q | ⟨g', q, q2⟩
   · exact h.far g (by rw [← q]; exact hg)
   · rw [q] at hg
     cases hg
     exact ⟨by omega, h.are.open_ g (by omega)⟩
theorem LaidS.stop (h : LaidS B A bs ts tv mv dv w ps c j lv bs1 ts1 tv1 mv1 zs us wr) {t : Ty} (hn : sumN ps ≤ t.nodes) {w2 : World} (hu : Up wr w2) : LaidR B A bs ts tv mv dv w t (.returned (.tuple #[.int .i64 0, .bool false])) w2 :=
 ⟨0, false, bs1, ts1, tv1, mv1, rfl, h.are.up hu, (h.up hu).lay, by have := h.few; have := sumN_take ps c; omega, fun e => by cases e⟩
theorem LaidS.done (h : LaidS B A bs ts tv mv dv w ps c j lv bs1 ts1 tv1 mv1 zs us wr) {t : Ty} (hn : 1 + sumN ps = t.nodes) (h60 : t.nodes ≤ 60) {W W2 w' : World} (hu : Up wr W) {u : Ty} (hm : Memo none1 B W W2) {e : Ending} (k : KeepR B A (bs ++ bs1) (ts ++ ts1) tv1 mv1 dv W2 u e w') (hv : u.Valid) (hun : u.nodes ≤ t.nodes) (huv : ∀ P, t.varsOk P → u.varsOk P) (huc : u.canon = normC t) :
   ∃ i : Nat, e = .returned (.tuple #[.int .i64 i, .int .i64 0]) ∧ LaidR B A bs ts tv mv dv w t (.returned (.tuple #[.int .i64 i, .bool true])) w' := by
 obtain ⟨i, bs', ts', tv', mv', x, rfl, k1, k2, k3, k4, _, k6, k5⟩ := k.done hv (by omega)
 refine ⟨i, rfl, i, true, bs1 ++ bs', ts1 ++ ts', tv', mv', rfl, ?_, ((h.up hu).lay.trans (LayM.of_memo hm)).trans k2, ?_, fun _ => ⟨x, ?_, by omega, fun P hP => by rw [← Ty.varsOk_canon, k6, Ty.varsOk_canon]; exact huv P hP, k6.trans huc⟩⟩
 · rw [List.append_assoc, List.append_assoc] at k1
   exact k1
 · have := h.few
   have := sumN_take ps c
   rw [List.length_append]
   omega
 · rw [← List.append_assoc]
   exact k4
end
theorem LaidR.from_ {B A : Nat} {bs : List Nat} {ts : List Ty} {tv mv dv : Value} {w W : World} {t : Ty} {e : Ending} {w' : World} (h : LaidR B A bs ts tv mv dv W t e w') (hu : Up w W) : LaidR B A bs ts tv mv dv w t e w' := by
 obtain ⟨i, ok, bs', ts', tv', mv', h1, h2, h3, h4, h5⟩ := h
 exact ⟨i, ok, bs', ts', tv', mv', h1, h2, (LayM.of_memo (Memo.of_up _ _ hu)).trans h3, h4, h5⟩
theorem Are.not_own {w : World} {B A : Nat} {bs : List Nat} {ts : List Ty} {tv mv dv : Value} (h : Are w B A bs ts tv mv dv) {q : Nat} {cs : Array Value} {f : Nat × Nat} (hq : w.heap[q]? = some (.cells cs RefT f)) : ¬ arS A tv mv q := by
 rintro (e | e | e)
 · subst e
   exact cells_ne hq h.head (by decide) rfl
 · obtain ⟨cur, hc⟩ := row_blockI h.row e
   exact cells_ne hq hc (by decide) rfl
 · rcases h.ids with ⟨h9, _⟩ | ⟨g, es, clk, h9, _, hm, _⟩
   · rw [h9] at e; cases e
   · rw [h9] at e
     cases e
     rw [hm] at hq
     cases hq
theorem ids_mem {l : List Ty} : ∀ {zs : List Nat} {us : List Ty}, zs.map (fun z => l[z]?) = us.map some → ∀ t ∈ us, t ∈ l
 | [], [], _ => fun t h => by cases h
 | [], _ :: _, h => by simp at h
 | _ :: _, [], h => by simp at h
 | z :: zs, u :: us, h => by
   simp only [List.map_cons, List.cons.injEq] at h
   intro t ht
   rcases List.mem_cons.1 ht with rfl | ht
   · exact List.mem_of_getElem? h.1
   · exact ids_mem h.2 t ht
theorem sumN_mem {l : List Ty} {t : Ty} (h : t ∈ l) : t.nodes ≤ sumN l := sum_mem (List.mem_map_of_mem (f := Ty.nodes) h)
theorem sumN_length (l : List Ty) : l.length ≤ sumN l := by
 induction l with
 | nil => exact Nat.le_refl _
 | cons x r ih =>
   have := x.nodes_pos
   unfold sumN at *
   simp only [List.length_cons, List.map_cons, List.sum_cons]
   omega
theorem fit_of {w : World} {B A : Nat} {bs : List Nat} {ts : List Ty} {tv mv dv : Value} (h : Are w B A bs ts tv mv dv) {zs : List Nat} {us : List Ty} (hi : zs.map (fun z => ts[z]?) = us.map some) (hn : sumN us ≤ 1000) : Fit us :=
 ⟨fun t ht => (h.good t (ids_mem hi t ht)).1, fun t ht => (h.good t (ids_mem hi t ht)).2.2, by unfold sumN at hn; omega, Nat.le_trans (sumN_length us) hn⟩
theorem ids_row {w : World} {a : Option Addr} {n cap : Nat} {zs : List Nat} (h : w.ownsRow 0 IntL 1 (.slice a n cap) n (zs.map numV)) (hl : zs.length = n) : IdsAt w a zs := fun j z hj => by
 have hjl := (List.getElem?_eq_some_iff.1 hj).1
 obtain ⟨g, cap', cur, hv, hg, _, hc⟩ := row_cells_gen h (by omega)
 injection hv with h1 _ _
 have q := hc j (numV z) (by rw [List.getElem?_map, hj]; rfl)
 exact ⟨g, 0, h1, lt_of_heap hg, (cell_of hg _).trans q⟩
def LaidAny (t : Ty) : Prop := ∀ (us : List Value) (w : World) (B A : Nat) (bs : List Nat) (ts : List Ty) (tv mv dv : Value) (m : Int), TIs B w us t → Are w B A bs ts tv mv dv → GlobB B w → w.cell? ⟨0, 0, none⟩ = some (.int .i64 m) → 0 < B → bs.length + 100 * t.nodes ≤ 400000 → t.nodes ≤ 60 →
 Calls Tryz.prog 22 #[.pointer (some ⟨A, 0, none⟩), .agg us.toArray] w (LaidR B A bs ts tv mv dv w t)
set_option maxRecDepth 100000 in
set_option maxHeartbeats 6400000 in
theorem laid_any : ∀ (c : Nat) (t : Ty), t.nodes ≤ c → LaidAny t := by
 intro c
 induction c with
 | zero => intro t h; have := t.nodes_pos; omega
 | succ c ih =>
   intro t hc us w B A bs ts tv mv dv m h hA hG hM hMB hf h60
   have hBw := hA.lt
   have a4 := lt_of_heap hA.head
   cases h with
   | @mk k n nm pa cap nv kv ps ns ms us hn1 hn2 hnm hnv hln hsm hmv hlm hl hpl hpc hcc hq =>
     have hsum : Hid (1 + sumN ps = (Ty.mk k n nm ps ns ms).nodes) := (Ty.nodes_mk _ _ _ _ _ _).symm
     obtain ⟨N, hN⟩ : ∃ N, Hid ((Ty.mk k n nm ps ns ms).nodes = N) := ⟨_, rfl⟩
     obtain ⟨T, hT⟩ : ∃ T, Hid (Ty.mk k n nm ps ns ms = T) := ⟨_, rfl⟩
     rw [hN.out] at hc hf h60 hsum
     rw [hT.out]
     rw [hT.out] at hN
     have HP := Lib.hid (fun (j : Nat) (hj : j < ps.length) => parts_at hl hcc hq hj)
     have IH := Lib.hid ih
     have H0 := Lib.hid (And.intro hA (And.intro hG (And.intro hM (And.intro hMB (And.intro hf (And.intro h60 (And.intro hBw hc)))))))
     have HNV := Lib.hid (And.intro hnv (And.intro hln (And.intro hsm (And.intro hmv (And.intro hlm (And.intro hnm (And.intro hn1 hn2)))))))
     obtain ⟨na, ncap, rfl, _, _⟩ := hnv.form
     obtain ⟨ma, mcap, rfl, _, _⟩ := hmv.form
     obtain ⟨nl, hnl⟩ : ∃ nl, Hid ((ns.map Value.string).length = nl) := ⟨_, rfl⟩
     obtain ⟨ml, hml⟩ : ∃ ml, Hid ((ms.map Value.bool).length = ml) := ⟨_, rfl⟩
     rw [hnl.out, hml.out]
     have hpl60 : ps.length ≤ 60 := by have := sumN_length ps; have := hsum.out; omega
     clear ih hA hG hM hMB hf h60 hBw hc hl hcc hq hnv hln hsm hmv hlm hnm hn1 hn2
     go_enter Tryz.func22, Tryz.ntmps22
     go_wp2_with fail
     refine range_named fun A2 W2 hA2 hW2 => ?_
     have hu0 : Hid (Up w W2) := by subst hW2; exact uq
     obtain ⟨q, hq⟩ : ∃ q, Hid (w.heap.size = q) := ⟨_, rfl⟩
     have HQ : Hid (W2.heap[q]? = some (.cells #[.int .i64 k, .int .i64 n, .string nm, .slice pa ps.length cap, .slice na nl ncap, .slice ma ml mcap] RefT (0, 0))) := by subst hW2; rw [← hq.out]; exact alloc_at _ _ _ rfl
     rw [hq.out] at hA2
     clear hW2
     subst hA2
     have hB2 : Hid (B ≤ W2.heap.size) := Nat.le_trans H0.out.2.2.2.2.2.2.1 hu0.out.size
     have hA2 := Lib.hid (H0.out.1.up hu0.out)
     have hnq := Lib.hid (hA2.out.not_own HQ.out)
     go_loopw [6, 7] (fun lv i wr => ∃ j : Nat, j ≤ ps.length ∧ i = .int .i64 j ∧ ∃ bs1 ts1 tv1 mv1 zs us, LaidS B A bs ts tv mv dv W2 ps j j lv bs1 ts1 tv1 mv1 zs us wr) (fun _ i _ => ps.length - (intOf i).toNat)
     case atStart =>
       refine ⟨0, Nat.zero_le _, rfl, [], [], tv, mv, [], [], hB2.out, ?_, LayM.refl _ _ _ _ _, Nat.zero_le _, rfl, rfl, Nat.zero_le _, (fun P hP u hu => by cases hu), rfl, (show W2.ownsRow 0 IntL 1 (.slice none 0 0) 0 [] from ⟨rfl, .inl ⟨rfl, rfl⟩⟩), fun g hg => by simp [Value.ownBlock] at hg⟩
       rw [List.append_nil, List.append_nil]
       exact hA2.out
     case round =>
       obtain ⟨j, hj, rfl, bs1, ts1, tv1, mv1, zs, us, hS⟩ := hrel
       have hbel : Below B w wr := Below.trans (hu0.out.below H0.out.2.2.2.2.2.2.1) (hS.lay.memo.below hB2.out)
       have hBr : B ≤ wr.heap.size := Nat.le_trans H0.out.2.2.2.2.2.2.1 hbel.size
       have HQr := Lib.hid (hS.lay.memo.cells HQ.out (by decide) hnq.out)
       obtain ⟨la, lcap, rfl⟩ := ownsRow_form hS.row
       have hAr := lt_of_heap hS.are.head
       have x0 := cell_of HQr.out 0; have x1 := cell_of HQr.out 1; have x2 := cell_of HQr.out 2; have x3 := cell_of HQr.out 3; have x4 := cell_of HQr.out 4; have x5 := cell_of HQr.out 5; have xl := lt_of_heap HQr.out; simp only [List.getElem?_toArray, List.getElem?_cons_zero, List.getElem?_cons_succ] at x0 x1 x2 x3 x4 x5
       by_cases hlt : j < ps.length
       · have hji : (j : Int) < ps.length := by omega
         obtain ⟨p, b, off, u0, u1, u2, u3, u4, u5, hp, rfl, hb, c0, c1, c2, c3, c4, c5, ht⟩ := HP.out j hlt
         have hbl : b < wr.heap.size := by omega
         have c0 := (Below.cell (p := ⟨b, _, none⟩) hbel hb).trans c0
         have c1 := (Below.cell (p := ⟨b, _, none⟩) hbel hb).trans c1
         have c2 := (Below.cell (p := ⟨b, _, none⟩) hbel hb).trans c2
         have c3 := (Below.cell (p := ⟨b, _, none⟩) hbel hb).trans c3
         have c4 := (Below.cell (p := ⟨b, _, none⟩) hbel hb).trans c4
         have c5 := (Below.cell (p := ⟨b, _, none⟩) hbel hb).trans c5
         have HT := Lib.hid (fun W (hW : Up wr W) => IH.out p (by have := sumN_mem (List.mem_of_getElem? hp); have := hsum.out; have := H0.out; omega) [u0, u1, u2, u3, u4, u5] W B A (bs ++ bs1) (ts ++ ts1) tv1 mv1 dv m (ht.low (Below.trans hbel (hW.below hBr))) (hS.are.up hW) (((H0.out.2.1.memo (Memo.of_up none1 B hu0.out)).memo hS.lay.memo).memo (Memo.of_up none1 B hW)) ((hW.cells _ _ (by have := H0.out.2.2.2.1; omega)).trans ((Below.cell (p := ⟨0, 0, none⟩) hbel H0.out.2.2.2.1).trans H0.out.2.2.1)) H0.out.2.2.2.1 (by
           have h1 := hS.few
           have h2 := sumN_next hp
           have h3 := sumN_take ps (j + 1)
           have h4 := hsum.out
           have h5 := H0.out.2.2.2.2.1
           rw [List.length_append]
           omega) (by have := sumN_mem (List.mem_of_getElem? hp); have := hsum.out; have := H0.out.2.2.2.2.2.1; omega))
         have HS := Lib.hid (And.intro hS hp)
         obtain ⟨i0, hi, hz0, hz1, hz2⟩ := info_parts int_info
         clear hS hp ht hlt hbel
         go_wp2_with (first
           | (go_at_call 22; refine (HT.out _ (show Up wr _ from uq)).mono ?_; intro e w3 hR; obtain ⟨i3, ok, bs2, ts2, tv2, mv2, rfl, hS2, hx⟩ := HS.out.1.called (show Up wr _ from uq) HS.out.2 hR; have HS2 := Lib.hid (And.intro hS2 hx); clear hR hS2 hx; (rcases ok with _ | _))
           | (at_builtin; go_must (refine wpList_append_new rfl _ _ 43 rfl IntL i0 (.int .i64 0) 1 8 Tryz.underlying43 hi hz0 hz1 hz2 rfl (by decide) (.slice la j lcap) j (zs.map numV) rfl (ownsRow_up HS2.out.1.row uq) _ 1 1 rfl (by first | rfl | (simp; done) | omega) rfl (by intro u hu; have hu2 : u = .int .i64 i3 := (by simpa using hu); rw [hu2]; rfl) (by unfold maxLen; omega) (by omega) ?_; intro sa' cap' w7 hown' hgrow hblk; (try simp only [World.size_alloc] at hblk); have HY := Lib.hid (And.intro hown' (And.intro hgrow hblk)); clear hown' hgrow hblk)))
         · refine bodyPost_ret (v := .tuple #[.int .i64 0, .bool false]) (by simp [results, Tryz.results22, go_sem]) rfl ?_
           exact (HS2.out.1.stop (by have := hsum.out; have := hN.out; omega) (show Up w3 _ from uq)).from_ hu0.out
         · obtain ⟨x, hx1, hx2, hx3, hx4⟩ := HS2.out.2 (by first | rfl | trivial)
           exact ⟨⟨j + 1, by omega, by simp, bs2, ts2, tv2, mv2, zs ++ [i3], us ++ [x], HS2.out.1.grown (show Up w3 _ from uq) HS.out.2 hx1 hx2 hx3 hx4 HY.out.1 HY.out.2.1 HY.out.2.2⟩, by simp [intOf]; omega⟩
       · obtain rfl : j = ps.length := by omega
         have hsz : Hid (sumN us ≤ sumN ps) := by have := hS.size; rw [List.take_length] at this; exact this
         have hfit := Lib.hid (fit_of hS.are hS.ids (by have := hsz.out; have := hsum.out; have := H0.out.2.2.2.2.2.1; omega))
         have hbs : Hid ((bs ++ bs1).length ≤ 500000) := by
           unfold Hid
           have h1 := hS.few
           have h3 := sumN_take ps ps.length
           have h4 := hsum.out
           have h5 := H0.out.2.2.2.2.1
           rw [List.length_append]
           omega
         have hG1 := Lib.hid (fun W (hW : Up wr W) => ((H0.out.2.1.memo (Memo.of_up none1 B hu0.out)).memo hS.lay.memo).memo (Memo.of_up none1 B hW))
         have hid := Lib.hid (ids_row hS.row hS.len)
         have hvars : Hid (∀ P, T.varsOk P → ∀ u ∈ us, u.varsOk P) := fun P hP => hS.vars P (by rw [List.take_length]; rw [← hT.out] at hP; exact (Ty.varsOk_mk.1 hP).2)
         have hnorm : Hid (us.map Ty.canon = ps.map normC) := by have := hS.norm; rw [List.take_length] at this; exact this
         have HS := Lib.hid hS
         have HB := Lib.hid (And.intro hbel hBr)
         clear hS hlt hbel hBr
         by_cases hk : k = 16
         · have HU : Hid (∀ W, Up wr W → Calls Tryz.prog 24 #[.pointer (some ⟨A, 0, none⟩), .slice la ps.length lcap] W (UniR B A (bs ++ bs1) (ts ++ ts1) tv1 mv1 dv W (unionC (us.map Ty.canon)))) := fun W hW => by
             have q := Union_in B A (bs ++ bs1) (ts ++ ts1) tv1 mv1 dv zs us la lcap W (HS.out.are.up hW) (hid.out.up hW) HS.out.ids hfit.out (hG1.out W hW) hbs.out
             rw [HS.out.len] at q
             exact q
           subst hk
           go_wp2_with (first | (go_at_call 24; refine (HU.out _ (show Up wr _ from uq)).mono ?_; rintro e w5 ⟨u, w4, hv, hcn, hm4, hK⟩; obtain ⟨i5, rfl, hR⟩ := HS.out.done (hsum.out.trans hN.out.symm) (by have := hN.out; have := H0.out.2.2.2.2.2.1; omega) (show Up wr _ from uq) hm4 hK hv (by rw [← Ty.nodes_canon, hcn]; have h1 := unionC_nodes (us.map Ty.canon); rw [List.map_map, show (Ty.nodes ∘ Ty.canon) = Ty.nodes from funext Ty.nodes_canon] at h1; have h2 := hsz.out; have := hsum.out; have := hN.out; unfold sumN at *; omega) (fun P hP => by rw [← Ty.varsOk_canon, hcn]; exact unionC_vars fun z hz => (by obtain ⟨z', hz', rfl⟩ := List.mem_map.1 hz; rw [Ty.varsOk_canon]; exact hvars.out P hP z' hz')) (by rw [hcn, hnorm.out, ← hT.out, normC_mk, if_pos rfl]); have HR := Lib.hid (hR.from_ hu0.out); clear hv hcn hm4 hK hR))
           refine bodyPost_ret (v := .tuple #[.int .i64 i5, .bool true]) (by simp [results, Tryz.results22, go_sem]) rfl ?_
           exact HR.out
         · have HF : Hid (∀ W, Up wr W → Calls Tryz.prog 25 #[.pointer (some ⟨A, 0, none⟩), typV k n nm (.slice la ps.length lcap) (.slice na nl ncap) (.slice ma ml mcap)] W fun e w' => (e = .returned (.tuple #[.int .i64 0, .int .i64 1]) ∧ Up W w') ∨ ∃ i : Nat, e = .returned (.tuple #[.int .i64 i, .int .i64 0]) ∧ LaidR B A bs ts tv mv dv w T (.returned (.tuple #[.int .i64 i, .bool true])) w') := fun W hW => by
             have hbw : Below B w W := Below.trans HB.out.1 (hW.below HB.out.2)
             have q := Find_any (fun x => x < B) B A (bs ++ bs1) (ts ++ ts1) tv1 mv1 dv zs us la lcap k n nm _ _ ns ms m W ⟨HS.out.are.up hW, hid.out.up hW, HS.out.ids, hfit.out, hG1.out W hW, hbs.out, HNV.out.1.below hbw, HNV.out.2.2.2.1.below hbw, HNV.out.2.1, HNV.out.2.2.2.2.1, HNV.out.2.2.1, HNV.out.2.2.2.2.2.1, (Below.cell (p := ⟨0, 0, none⟩) hbw H0.out.2.2.2.1).trans H0.out.2.2.1⟩ HNV.out.2.2.2.2.2.2.1 HNV.out.2.2.2.2.2.2.2
             rw [HS.out.len, hnl.out, hml.out] at q
             refine q.mono ?_
             rintro e w5 (⟨rfl, hu5⟩ | ⟨hv, w4, hm4, hK⟩)
             · exact .inl ⟨rfl, hu5⟩
             · obtain ⟨i5, rfl, hR⟩ := HS.out.done (hsum.out.trans hN.out.symm) (by have := hN.out; have := H0.out.2.2.2.2.2.1; omega) hW hm4 hK hv (by rw [Ty.nodes_mk]; have h2 := hsz.out; have := hsum.out; have := hN.out; unfold sumN at *; omega) (fun P hP => Ty.varsOk_mk.2 ⟨by rw [← hT.out] at hP; exact (Ty.varsOk_mk.1 hP).1, hvars.out P hP⟩) (by rw [Ty.canon_mk, hnorm.out, ← hT.out, normC_mk, if_neg hk])
               exact .inr ⟨i5, rfl, hR.from_ hu0.out⟩
           go_wp2_with (first | (go_at_call 25; refine (HF.out _ (show Up wr _ from uq)).mono ?_; (rintro e w5 (⟨rfl, hu5⟩ | ⟨i5, rfl, hR⟩))))
           · refine bodyPost_ret (v := .tuple #[.int .i64 0, .bool false]) (by simp [results, Tryz.results22, go_sem]) rfl ?_
             exact (HS.out.stop (by have := hsum.out; have := hN.out; omega) (show Up wr _ from uq)).from_ hu0.out
           · refine bodyPost_ret (v := .tuple #[.int .i64 i5, .bool true]) (by simp [results, Tryz.results22, go_sem]) rfl ?_
             exact hR
theorem TIs.mono {B B' : Nat} {w : World} {us : List Value} {t : Ty} (h : TIs B w us t) (k : B ≤ B') : TIs B' w us t := by
 have hr : ∀ {v : Value} {us : List Value}, RowV (fun x => x < B) w v us → RowV (fun x => x < B') w v us := fun ⟨T, h⟩ => ⟨T, h.keep fun g cs fz h1 h2 => ⟨Nat.lt_of_lt_of_le h1 k, h2⟩⟩
 induction h with
 | mk us hn1 hn2 hnm hnv hln hsm hmv hlm hl hpl hpc hc hq ih =>
   refine TIs.mk us hn1 hn2 hnm (hr hnv) hln hsm (hr hmv) hlm hl hpl hpc (fun j u hj => ?_) ih
   obtain ⟨b, off, h1, h2, h3, h4⟩ := hc j u hj
   exact ⟨b, off, h1, Nat.lt_of_lt_of_le h2 k, h3, h4⟩
theorem GlobB.mono {B B' : Nat} {w : World} (h : GlobB B w) (k : B ≤ B') : GlobB B' w := fun w' hk => h w' fun b o hb ho => hk b o (Nat.lt_of_lt_of_le hb k) ho
structure Sta (w0 W : World) (A : Nat) (bs : List Nat) (ts : List Ty) (tv mv : Value) : Prop where
 are : Are W w0.heap.size A bs ts tv mv (.map none)
 glob : GlobB w0.heap.size W
 up : Up w0 W
theorem Sta.later {w0 W W' : World} {A : Nat} {bs : List Nat} {ts : List Ty} {tv mv : Value} (h : Sta w0 W A bs ts tv mv) (k : Up W W') : Sta w0 W' A bs ts tv mv := ⟨h.are.up k, h.glob.memo (Memo.of_up none1 _ k), h.up.trans k⟩
theorem Sta.step {w0 W W' : World} {A : Nat} {bs bs' : List Nat} {ts ts' : List Ty} {tv mv tv' mv' : Value} (h : Sta w0 W A bs ts tv mv) (k : Are W' w0.heap.size A bs' ts' tv' mv' (.map none)) (hL : LayM w0.heap.size A tv mv W W' tv' mv') : Sta w0 W' A bs' ts' tv' mv' :=
 ⟨k, h.glob.memo hL.memo, Below.trans h.up (hL.memo.below h.are.lt)⟩
theorem more {α : Type} {l r : List α} {i : Nat} {x : α} (h : l[i]? = some x) : (l ++ r)[i]? = some x := by
 rw [List.getElem?_append_left (List.getElem?_eq_some_iff.1 h).1]
 exact h
theorem laid_sta {w0 W : World} {A : Nat} {bs : List Nat} {ts : List Ty} {tv mv : Value} (h : Sta w0 W A bs ts tv mv) {us : List Value} {t : Ty} (ht : TIs w0.heap.size w0 us t) {m : Int} (hm : w0.cell? ⟨0, 0, none⟩ = some (.int .i64 m)) (h60 : t.nodes ≤ 60) (hb : bs.length ≤ 100000) :
   Calls Tryz.prog 22 #[.pointer (some ⟨A, 0, none⟩), .agg us.toArray] W fun e w' => ∃ (i : Nat) (ok : Bool) (bs' : List Nat) (ts' : List Ty) (tv' mv' : Value), e = .returned (.tuple #[.int .i64 i, .bool ok]) ∧ Sta w0 w' A (bs ++ bs') (ts ++ ts') tv' mv' ∧ bs'.length ≤ 6000 ∧ (ok = true → ∃ u, (ts ++ ts')[i]? = some u ∧ u.nodes ≤ 60 ∧ (∀ P, t.varsOk P → u.varsOk P) ∧ u.canon = normC t) := by
 refine (laid_any _ t (Nat.le_refl _) us W w0.heap.size A bs ts tv mv (.map none) m (ht.low h.up) h.are h.glob ((h.up.cells _ _ (cell_lt5 hm)).trans hm) (cell_lt5 hm) (by omega) h60).mono ?_
 rintro e w' ⟨i, ok, bs', ts', tv', mv', rfl, h1, h2, h3, h4⟩
 exact ⟨i, ok, bs', ts', tv', mv', rfl, h.step h1 h2, by omega, fun e => by
   obtain ⟨u, q1, q2, q3⟩ := h4 e
   exact ⟨u, q1, by omega, q3⟩⟩
theorem ids_lit (W : World) (zs : List Nat) (f : Nat × Nat) : IdsAt (W.alloc (.cells (zs.map numV).toArray IntL f)) (some ⟨W.heap.size, 0, none⟩) zs := fun j z hj => by
 have hA : (W.alloc (.cells (zs.map numV).toArray IntL f)).heap[W.heap.size]? = some (.cells (zs.map numV).toArray IntL f) := alloc_get _ _
 refine ⟨W.heap.size, 0, rfl, lt_of_heap hA, (cell_of hA _).trans ?_⟩
 rw [Nat.zero_add, List.getElem?_toArray, List.getElem?_map, hj]
 rfl
def UnionQ (w0 : World) (A : Nat) (bs : List Nat) (ts : List Ty) (c : Ty) (n : Nat) (e : Ending) (w' : World) : Prop :=
 ∃ (i : Nat) (bs' : List Nat) (ts' : List Ty) (tv' mv' : Value) (x : Ty), e = .returned (.tuple #[.int .i64 i, .int .i64 0]) ∧ Sta w0 w' A (bs ++ bs') (ts ++ ts') tv' mv' ∧ bs'.length ≤ 500 ∧ (ts ++ ts')[i]? = some x ∧ x.Valid ∧ x.canon = c ∧ x.nodes ≤ n
theorem union_sta {w0 W : World} {A : Nat} {bs : List Nat} {ts : List Ty} {tv mv : Value} (h : Sta w0 W A bs ts tv mv) (zs : List Nat) (us : List Ty) (n k cap : Nat) (hz : zs.map (fun z => ts[z]?) = us.map some) (hn : 1 + sumN us ≤ n) (h500 : n ≤ 500) (hb : bs.length ≤ 100000) (hk : zs.length = k) (f : Nat × Nat) :
   Calls Tryz.prog 24 #[.pointer (some ⟨A, 0, none⟩), .slice (some ⟨W.heap.size, 0, none⟩) k cap] (W.alloc (.cells (zs.map numV).toArray IntL f)) (UnionQ w0 A bs ts (unionC (us.map Ty.canon)) n) := by
 subst hk
 have hu : Up W (W.alloc (.cells (zs.map numV).toArray IntL f)) := uq
 have h' := h.later hu
 refine (Union_in w0.heap.size A bs ts tv mv (.map none) zs us _ cap _ h'.are (ids_lit W zs f) hz (fit_of h'.are hz (by omega)) h'.glob (by omega)).mono ?_
 rintro e w' ⟨u, w2, hv, hc, hm, hK⟩
 have hun : u.nodes ≤ n := by
   rw [← Ty.nodes_canon, hc]
   have h1 := unionC_nodes (us.map Ty.canon)
   rw [List.map_map, show (Ty.nodes ∘ Ty.canon) = Ty.nodes from funext Ty.nodes_canon] at h1
   unfold sumN at hn
   omega
 obtain ⟨i, bs', ts', tv', mv', x, rfl, k1, k2, k3, k4, k5, k6, k7⟩ := hK.done hv (by omega)
 exact ⟨i, bs', ts', tv', mv', x, rfl, h'.step k1 ((LayM.of_memo hm).trans k2), by omega, k4, k5, k6.trans hc, by omega⟩
theorem Sta.same {w0 W : World} {A : Nat} {bs : List Nat} {ts : List Ty} {tv mv : Value} (h : Sta w0 W A bs ts tv mv) {i j : Nat} {x y : Ty} (hi : ts[i]? = some x) (hj : ts[j]? = some y) (e : x.canon = y.canon) : i = j := by
 have hx : (ts.map Ty.text)[i]? = some x.text := by rw [List.getElem?_map, hi]; rfl
 have hy : (ts.map Ty.text)[j]? = some x.text := by rw [List.getElem?_map, hj, ← Ty.text_canon x, e, Ty.text_canon]; rfl
 obtain ⟨h1, h2⟩ := List.getElem?_eq_some_iff.1 hx
 obtain ⟨h3, h4⟩ := List.getElem?_eq_some_iff.1 hy
 rcases Nat.lt_trichotomy i j with hlt | rfl | hlt
 · exact absurd (h2.trans h4.symm) (List.pairwise_iff_getElem.1 h.are.nodup i j h1 h3 hlt)
 · rfl
 · exact absurd (h4.trans h2.symm) (List.pairwise_iff_getElem.1 h.are.nodup j i h3 h1 hlt)
theorem Sta.new {w0 W : World} {A : Nat} {bs : List Nat} {g : Nat} {tv : Value} (h : Few W w0.heap.size A bs g tv 10) (hu : Up w0 W) (hg : GlobB w0.heap.size w0) : Sta w0 W A bs tenT tv (.map (some g)) := ⟨h.are, hg.memo (Memo.of_up none1 _ hu), hu⟩
end Go.Proofs.YtiaepldmgighbaaGreatDoor
