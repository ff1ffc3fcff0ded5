import Derived.Test.YtiaepldmgighbaaGreatDoorM16
import Derived.Test.YtiaepldmgighbaaGreatDoorM36
import Derived.Test.YtiaepldmgighbaaGreatDoorM27
import Derived.Test.YtiaepldmgighbaaGreatDoorM12
namespace Go.Proofs.YtiaepldmgighbaaGreatDoor
open Go.RowKit
set_option linter.unusedSimpArgs false
def memCells (l : List Mem) : List Value := l.flatMap fun e => [.string e.1, .int .i64 (Int.ofNat e.2.1), .bool e.2.2]
def PieK (A i : Nat) (w : World) (r : Option (List Mem)) : Prop := ∀ W, Up w W → Calls Tryz.prog 168 #[.pointer (some ⟨A, 0, none⟩), .int .i64 i] W fun e w' => (match r with
 | none => e = .returned (.tuple #[.slice none 0 0, .int .i64 11])
 | some l => ∃ v, e = .returned (.tuple #[v, .int .i64 0]) ∧ w'.ownsRow 0 PieT 3 v l.length (memCells l)) ∧ Up W w'
set_option maxRecDepth 100000 in
set_option maxHeartbeats 1600000 in
theorem members_no (A i j : Nat) (ri rj : Option (List Mem)) (w : World) (hi : PieK A i w ri) (hj : PieK A j w rj) (hn : ri = none ∨ rj = none) :
   Calls Tryz.prog 134 #[.agg #[.pointer (some ⟨A, 0, none⟩)], .agg #[.int .i64 i, .int .i64 j]] w fun e w' => e = .returned (QV (sayQ false) (.slice none 0 0)) ∧ Up w w' := by
 have HX : Hid (∀ W, Up w W → Calls Tryz.prog 168 #[.pointer (some ⟨A, 0, none⟩), .int .i64 i] W fun e w' => ∃ (v1 v2 : Value), e = .returned (.tuple #[v1, v2]) ∧ (v2 = .int .i64 11 ∨ (v2 = .int .i64 0 ∧ rj = none)) ∧ (∃ a n c, v1 = .slice a n c) ∧ Up W w') := fun W hW => (hi W hW).mono fun e w' h => by
   cases ri with
   | none => exact ⟨_, _, h.1, .inl rfl, ⟨_, _, _, rfl⟩, h.2⟩
   | some l =>
     obtain ⟨⟨v, h1, h2⟩, h3⟩ := h
     obtain ⟨va, vc, rfl⟩ := ownsRow_form h2
     exact ⟨_, _, h1, .inr ⟨rfl, hn.resolve_left (fun e => by cases e)⟩, ⟨_, _, _, rfl⟩, h3⟩
 have HY : Hid (∀ W, Up w W → Calls Tryz.prog 168 #[.pointer (some ⟨A, 0, none⟩), .int .i64 j] W fun e w' => ∃ (v1 v2 : Value), e = .returned (.tuple #[v1, v2]) ∧ (v2 = .int .i64 11 ∨ (v2 = .int .i64 0 ∧ rj ≠ none)) ∧ (∃ a n c, v1 = .slice a n c) ∧ Up W w') := fun W hW => (hj W hW).mono fun e w' h => by
   cases rj with
   | none => exact ⟨_, _, h.1, .inl rfl, ⟨_, _, _, rfl⟩, h.2⟩
   | some l =>
     obtain ⟨⟨v, h1, h2⟩, h3⟩ := h
     obtain ⟨va, vc, rfl⟩ := ownsRow_form h2
     exact ⟨_, _, h1, .inr ⟨rfl, fun e => by cases e⟩, ⟨_, _, _, rfl⟩, h3⟩
 clear hi hj hn
 go_enter Tryz.func134, Tryz.ntmps134
 go_wp2_with fail
 refine (HX.out _ (show Up w _ from uq)).mono ?_
 rintro e w2 ⟨v1, v2, rfl, hv2, ⟨a1, n1, c1, rfl⟩, hu2⟩
 have HV2 := Lib.hid hv2
 have T := Lib.hid (three hu2)
 have v0 := cell_of T.out.1 0
 have v9 := lt_of_heap T.out.1
 have y0 := cell_of T.out.2.1 0
 have y1 := cell_of T.out.2.1 1
 have y2 := lt_of_heap T.out.2.1
 have s0 := T.out.2.2
 have d0 := cell_of s0 0; have df0 := ice_of s0 0; have d1 := cell_of s0 1; have df1 := ice_of s0 1; have d2 := cell_of s0 2; have df2 := ice_of s0 2; have d3 := cell_of s0 3; have df3 := ice_of s0 3; have d4 := cell_of s0 4; have df4 := ice_of s0 4; have dl := lt_of_heap s0; (try simp only [World.size_alloc, List.getElem?_toArray, List.getElem?_cons_zero, List.getElem?_cons_succ] at d0 df0 d1 df1 d2 df2 d3 df3 d4 df4 dl); clear s0
 simp only [List.getElem?_toArray, List.getElem?_cons_zero, List.getElem?_cons_succ] at v0 y0 y1
 rcases hv2 with rfl | ⟨rfl, hrj⟩
 all_goals (go_wp2_with fail
            refine (HY.out _ ((show Up w w2 from uq).trans (show Up w2 _ from uq))).mono ?_
            rintro e w3 ⟨v3, v4, rfl, hv4, ⟨a2, n2, c2, rfl⟩, hu3⟩
            have T3 := Lib.hid (three (hu2.trans (show Up w2 w3 from uq)))
            clear v0 v9 y0 y1 y2 d0 d1 d2 d3 d4 df0 df1 df2 df3 df4 dl
            have v0 := cell_of T3.out.1 0
            have v9 := lt_of_heap T3.out.1
            have s0 := T3.out.2.2
            have d0 := cell_of s0 0; have df0 := ice_of s0 0; have d1 := cell_of s0 1; have df1 := ice_of s0 1; have d2 := cell_of s0 2; have df2 := ice_of s0 2; have d3 := cell_of s0 3; have df3 := ice_of s0 3; have d4 := cell_of s0 4; have df4 := ice_of s0 4; have dl := lt_of_heap s0; (try simp only [World.size_alloc, List.getElem?_toArray, List.getElem?_cons_zero, List.getElem?_cons_succ] at d0 df0 d1 df1 d2 df2 d3 df3 d4 df4 dl); clear s0
            simp only [List.getElem?_toArray, List.getElem?_cons_zero, List.getElem?_cons_succ] at v0
            rcases hv4 with rfl | ⟨rfl, hrk⟩)
 rotate_right 1
 · exact absurd hrj hrk
 all_goals go_wp2_with fail
 all_goals refine (says_any false _).mono ?_
 all_goals rintro e w4 ⟨rfl, hu4⟩
 all_goals (have u4 : Up w w4 := ((show Up w w2 from uq).trans (show Up w2 w3 from uq)).trans (show Up w3 w4 from uq))
 all_goals (have T4 := Lib.hid (three ((hu2.trans (show Up w2 w3 from uq)).trans (show Up w3 w4 from uq))))
 all_goals have s0 := T4.out.2.2
 all_goals have d0 := cell_of s0 0; have df0 := ice_of s0 0; have d1 := cell_of s0 1; have df1 := ice_of s0 1; have d2 := cell_of s0 2; have df2 := ice_of s0 2; have d3 := cell_of s0 3; have df3 := ice_of s0 3; have d4 := cell_of s0 4; have df4 := ice_of s0 4; have dl := lt_of_heap s0; (try simp only [World.size_alloc, List.getElem?_toArray, List.getElem?_cons_zero, List.getElem?_cons_succ] at d0 df0 d1 df1 d2 df2 d3 df3 d4 df4 dl); clear s0
 all_goals go_wp2_with fail
 all_goals refine bodyPost_ret (v := QV (sayQ false) (.slice none 0 0)) (by simp [results, Tryz.results134, go_sem, *]; rfl) rfl ?_
 all_goals exact ⟨rfl, uq⟩
def pieV (e : Mem) : Value := .agg #[.string e.1, .int .i64 (Int.ofNat e.2.1), .bool e.2.2]
def MemMap (w : World) (g : Nat) (l : List Mem) : Prop := ∃ es clk, w.heap[g]? = some (.map es clk) ∧ Entries es Value.string pieV (l.map fun e => (e.1, e))
structure MapKeep (w0 w : World) : Prop where
 os : w.os = w0.os
 tape : w.tape = w0.tape
 output : w.output = w0.output
 size : w0.heap.size ≤ w.heap.size
 block : ∀ b, b < w0.heap.size → w.heap[b]? = w0.heap[b]?
theorem MapKeep.up {w0 w : World} (h : MapKeep w0 w) : Up w0 w := ⟨h.os, h.tape, h.output, h.size, h.block⟩
theorem MapKeep.of_up {w0 w : World} (h : Up w0 w) : MapKeep w0 w := ⟨h.os, h.tape, h.output, h.size, h.block⟩
theorem memCells_at : ∀ (l : List Mem) (k : Nat) (x : Mem), l[k]? = some x → (memCells l)[k * 3]? = some (.string x.1) ∧ (memCells l)[k * 3 + 1]? = some (.int .i64 (Int.ofNat x.2.1)) ∧ (memCells l)[k * 3 + 2]? = some (.bool x.2.2)
 | [], k, x, h => by simp at h
 | q :: r, 0, x, h => by simp at h; subst h; simp [memCells]
 | q :: r, k + 1, x, h => by
   have ih := memCells_at r k x (by simpa using h)
   have e : memCells (q :: r) = .string q.1 :: .int .i64 (Int.ofNat q.2.1) :: .bool q.2.2 :: memCells r := by simp [memCells]
   rw [e, show (k + 1) * 3 = k * 3 + 1 + 1 + 1 by omega]
   simpa using ih
theorem mem_at {w : World} {sa : Option Addr} {n cap : Nat} {l : List Mem} (h : w.ownsRow 0 PieT 3 (.slice sa n cap) l.length (memCells l)) {k : Nat} {x : Mem} (hk : l[k]? = some x) :
   ∃ g, sa = some ⟨g, 0, none⟩ ∧ g < w.heap.size ∧ w.cell? ⟨g, k * 3, none⟩ = some (.string x.1) ∧ w.cell? ⟨g, k * 3 + 1, none⟩ = some (.int .i64 (Int.ofNat x.2.1)) ∧ w.cell? ⟨g, k * 3 + 2, none⟩ = some (.bool x.2.2) := by
 have hlt := (List.getElem?_eq_some_iff.1 hk).1
 have hF := memCells_at l k x hk
 rcases h.2 with ⟨_, h0⟩ | ⟨g, c, cur, hv, _, hc, _⟩
 · omega
 · cases hv
   have q1 := h.cells (g := g) rfl _ _ hF.1
   have q2 := h.cells (g := g) rfl _ _ hF.2.1
   have q3 := h.cells (g := g) rfl _ _ hF.2.2
   rw [Addr.add_lit] at q1 q2 q3
   simp only [Nat.zero_add] at q1 q2 q3
   exact ⟨g, rfl, lt_of_heap hc, q1, q2, q3⟩
theorem mem_miss {l : List Mem} {nm : ByteArray} (h : hasM l nm = none) : ∀ x ∈ l.map (fun e => (e.1, e)), x.1 ≠ nm := fun x hx e => by
 obtain ⟨z, hz, rfl⟩ := List.mem_map.1 hx
 have := List.find?_eq_none.1 h z hz
 simp at this
 exact this e
theorem mem_hit {l : List Mem} {nm : ByteArray} {x : Mem} (h : hasM l nm = some x) : ∃ q : Nat, (l.map (fun e => (e.1, e)))[q]? = some (nm, x) := by
 have h1 := List.mem_of_find?_eq_some h
 have h2 : x.1 = nm := by simpa using List.find?_some h
 obtain ⟨q, hq⟩ := List.getElem?_of_mem h1
 exact ⟨q, by rw [List.getElem?_map, hq, ← h2]; rfl⟩
set_option maxRecDepth 100000 in
set_option maxHeartbeats 12800000 in
theorem members_yes (A i j : Nat) (l m : List Mem) (w : World) (hi : PieK A i w (some l)) (hj : PieK A j w (some m)) (hl : l.length ≤ 100000) (hm : m.length ≤ 100000) (hn : (l.map (·.1)).Nodup) :
   Calls Tryz.prog 134 #[.agg #[.pointer (some ⟨A, 0, none⟩)], .agg #[.int .i64 i, .int .i64 j]] w fun e w' => ∃ v, e = .returned (QV (memG l m []) v) ∧ PairsAt (fun g => w.heap.size ≤ g) w' v (memG l m []).pairs ∧ Up w w' := by
 have HI := Lib.hid hi
 have HJ := Lib.hid hj
 have HN := Lib.hid hn
 clear hi hj hn
 have hmm := @run_makeMap Tryz.prog
 go_enter Tryz.func134, Tryz.ntmps134
 go_wp2_with fail
 refine (HI.out _ (show Up w _ from uq)).mono ?_
 rintro e w2 ⟨⟨v, rfl, hr2⟩, hu2⟩
 obtain ⟨la, lc, rfl⟩ := ownsRow_form hr2
 have T := Lib.hid (three hu2)
 have v0 := cell_of T.out.1 0
 have v9 := lt_of_heap T.out.1
 have y0 := cell_of T.out.2.1 0
 have y1 := cell_of T.out.2.1 1
 have y2 := lt_of_heap T.out.2.1
 simp only [List.getElem?_toArray, List.getElem?_cons_zero, List.getElem?_cons_succ] at v0 y0 y1
 have HR2 := Lib.hid hr2
 have U2 : Hid (Up w w2) := uq
 clear hr2
 go_wp2_with fail
 refine (HJ.out _ (U2.out.trans (show Up w2 _ from uq))).mono ?_
 rintro e w3 ⟨⟨v, rfl, hr3⟩, hu3⟩
 obtain ⟨ma, mc, rfl⟩ := ownsRow_form hr3
 have U23 : Hid (Up w2 w3) := uq
 have hu2' := Lib.hid (hu2.trans U23.out)
 have HR3 := Lib.hid hr3
 clear hr3 v0 v9 y0 y1 y2 T hu2 hu3
 have U3 : Hid (Up w w3) := U2.out.trans U23.out
 have hmp : Hid (MemMap (w3.alloc (.map #[] 0)) w3.heap.size (l.take 0)) := ⟨#[], 0, alloc_get _ _, rfl⟩
 have hub : Hid (Up w3 (w3.alloc (.map #[] 0))) := Up.alloc (Up.refl _) _
 go_wp2_with fail
 obtain ⟨W0, hW0⟩ : ∃ W0, w3.alloc (.map #[] 0) = W0 := ⟨_, rfl⟩
 rw [hW0] at hmp hub ⊢
 clear hW0 hmm
 go_loopw [11, 52] (fun xb i wr => ∃ k : Nat, k ≤ l.length ∧ i = .int .i64 k ∧ MemMap wr w3.heap.size (l.take k) ∧ MapKeep w3 wr) (fun _ i _ => l.length - (intOf i).toNat)
 case atStart => exact ⟨0, Nat.zero_le _, rfl, hmp.out, .of_up hub.out⟩
 case round =>
   obtain ⟨k, hk, rfl, hM, hK⟩ := hrel
   by_cases hlt : k < l.length
   · have hki : (k : Int) < l.length := by omega
     obtain ⟨x, hx⟩ : ∃ x, l[k]? = some x := ⟨_, List.getElem?_eq_getElem hlt⟩
     obtain ⟨g, rfl, hgl, hgc0, hgc1, hgc2⟩ := mem_at HR2.out hx
     have c0 := (hK.up.cells _ _ (Nat.lt_of_lt_of_le hgl U23.out.size)).trans ((U23.out.cells _ _ hgl).trans hgc0)
     have c1 := (hK.up.cells _ _ (Nat.lt_of_lt_of_le hgl U23.out.size)).trans ((U23.out.cells _ _ hgl).trans hgc1)
     have c2 := (hK.up.cells _ _ (Nat.lt_of_lt_of_le hgl U23.out.size)).trans ((U23.out.cells _ _ hgl).trans hgc2)
     have cl : g < wr.heap.size := Nat.lt_of_lt_of_le (Nat.lt_of_lt_of_le hgl U23.out.size) hK.size
     obtain ⟨es, clk, hm1, hm2⟩ := hM
     have hnx : ∀ y ∈ (l.take k).map (fun e => (e.1, e)), y.1 ≠ x.1 := fun y hy e => by
       obtain ⟨z, hz, rfl⟩ := List.mem_map.1 hy
       obtain ⟨q, hq⟩ := List.getElem?_of_mem hz
       rw [List.getElem?_take] at hq
       split at hq
       · rename_i hqk
         have h1 : (l.map (·.1))[q]? = some x.1 := by rw [List.getElem?_map, hq]; exact congrArg some e
         have h2 : (l.map (·.1))[k]? = some x.1 := by rw [List.getElem?_map, hx]; rfl
         have := (List.getElem?_inj (List.getElem?_eq_some_iff.1 h1).1 HN.out).1 (h1.trans h2.symm)
         omega
       · cases hq
     obtain ⟨es', clk', hst, hE'⟩ := run_store_miss (f := pieV) (w := wr.alloc (.cells #[.string x.1, .int .i64 x.2.1, .bool x.2.2] PieT)) Tryz.underlying226 Tryz.underlying9 strKeys (alloc_keep hm1) hm2 x.1 x hnx
     obtain ⟨W6, hW6⟩ : ∃ W6, Hid (W6 = putB (wr.alloc (.cells #[.string x.1, .int .i64 x.2.1, .bool x.2.2] PieT)) w3.heap.size (.map es' clk')) := ⟨_, rfl⟩
     rw [← hW6.out] at hst
     replace hst : (Instr.mapUpdate 226 (.map (some w3.heap.size)) (.string x.1) (.agg #[.string x.1, .int .i64 x.2.1, .bool x.2.2])).run Tryz.prog (wr.alloc (.cells #[.string x.1, .int .i64 x.2.1, .bool x.2.2] PieT)) = .ok () W6 := hst
     have hM6 : Hid (MemMap W6 w3.heap.size (l.take (k + 1))) := ⟨es', clk', by rw [hW6.out]; exact putB_same _ _ _ (by have := lt_of_heap hm1; simp only [World.size_alloc]; omega), by rw [List.take_add_one, hx, List.map_append]; exact hE'⟩
     have hK6 : Hid (MapKeep w3 W6) := by
       unfold Hid
       rw [hW6.out]
       refine ⟨hK.os, hK.tape, hK.output, by rw [putB_size, World.size_alloc]; have := hK.size; omega, fun b hb => ?_⟩
       rw [putB_other _ _ _ _ (by omega), alloc_old _ _ _ (Nat.lt_of_lt_of_le hb hK.size)]
       exact hK.block b hb
     clear hm1 hm2 hnx hE' hW6 hK hx hgc0 hgc1 hgc2
     go_wp2_with fail
     exact ⟨⟨k + 1, by omega, by simp, hM6.out, hK6.out⟩, by simp [intOf]; omega⟩
   · obtain rfl : k = l.length := by omega
     rw [List.take_length] at hM
     obtain ⟨W5, hW5⟩ : ∃ W5, W5 = wr := ⟨_, rfl⟩
     subst hW5
     have HM := Lib.hid hM
     have u5 : Hid (Up w W5) := U3.out.trans hK.up
     have T5 := Lib.hid (three (hu2'.out.trans hK.up))
     have hK5 : Hid (Up w3 W5) := hK.up
     clear hM hK hlt
     go_wp2_with fail
     have hqb := QBox.start W5 true
     obtain ⟨WQ, hWQ⟩ : ∃ WQ, W5.alloc (.cells #[.bool false, .bool false, .bool true, .bool false, .slice none 0 0] QueT) = WQ := ⟨_, rfl⟩
     rw [hWQ] at hqb ⊢
     clear hWQ
     go_loopw [64] (fun i wr => ∃ (k : Nat) (L : List Pr) (v : Value), k ≤ m.length ∧ i = .int .i64 k ∧ L.length ≤ k ∧ QBox W5 true L v wr ∧ Hid (memG l (m.drop k) L = memG l m [])) (fun i _ => m.length - (intOf i).toNat)
     case atStart => exact ⟨0, [], .slice none 0 0, Nat.zero_le _, rfl, Nat.le_refl _, hqb, rfl⟩
     case round =>
       obtain ⟨k, L, v, hk, rfl, hLk, hQ, hG⟩ := hrel
       obtain ⟨va, vcap, rfl⟩ := ownsRow_form hQ.row
       have HQ := Lib.hid hQ
       have hup := Lib.hid hQ.up
       have u6 : Hid (Up w wr) := u5.out.trans hQ.up
       have hrb := lt_of_heap T5.out.2.2
       have hW3 : w3.heap.size < W5.heap.size := by obtain ⟨_, _, h, _⟩ := HM.out; exact lt_of_heap h
       clear hQ
       by_cases hlt : k < m.length
       · have hki : (k : Int) < m.length := by omega
         obtain ⟨y, hy⟩ : ∃ y, m[k]? = some y := ⟨_, List.getElem?_eq_getElem hlt⟩
         have hdrop : m.drop k = y :: m.drop (k + 1) := by rw [List.drop_eq_getElem_cons hlt, (List.getElem?_eq_some_iff.1 hy).2]
         obtain ⟨g, rfl, hgl, hgc0, hgc1, hgc2⟩ := mem_at HR3.out hy
         have u35 : Up w3 wr := hK5.out.trans hup.out
         have c0 := (u35.cells _ _ hgl).trans hgc0
         have c1 := (u35.cells _ _ hgl).trans hgc1
         have c2 := (u35.cells _ _ hgl).trans hgc2
         have cl : g < wr.heap.size := Nat.lt_of_lt_of_le hgl u35.size
         have hG2 : Hid (memG l (y :: m.drop (k + 1)) L = memG l m []) := by rw [← hdrop]; exact hG.out
         obtain ⟨yn, yt, ym⟩ := y
         obtain ⟨es, clk, hm1, hm2⟩ := HM.out
         have hm3 : (wr.alloc (.cells #[.string yn, .int .i64 yt, .bool ym] PieT)).heap[w3.heap.size]? = some (.map es clk) := alloc_keep (hup.out.get hm1)
         have s0 := hup.out.get T5.out.2.2
         have d0 := cell_of s0 0; have df0 := ice_of s0 0; have d1 := cell_of s0 1; have df1 := ice_of s0 1; have d2 := cell_of s0 2; have df2 := ice_of s0 2; have d3 := cell_of s0 3; have df3 := ice_of s0 3; have d4 := cell_of s0 4; have df4 := ice_of s0 4; have dl := lt_of_heap s0; (try simp only [World.size_alloc, List.getElem?_toArray, List.getElem?_cons_zero, List.getElem?_cons_succ] at d0 df0 d1 df1 d2 df2 d3 df3 d4 df4 dl); clear s0
         rcases hh : hasM l yn with _ | ⟨xn, xt, xm⟩
         · have hlk : (Instr.lookup 226 (.map (some w3.heap.size)) (.string yn) true).run Tryz.prog (wr.alloc (.cells #[.string yn, .int .i64 yt, .bool ym] PieT)) = .ok (.tuple #[.agg #[.string ⟨#[]⟩, .int .i64 0, .bool false], .bool false]) (wr.alloc (.cells #[.string yn, .int .i64 yt, .bool ym] PieT)) :=
             (run_lookup_miss (f := pieV) Tryz.underlying226 Tryz.underlying9 strKeys (show (zeroValue PieT).run Tryz.prog (wr.alloc (.cells #[.string yn, .int .i64 yt, .bool ym] PieT)) = .ok (.agg #[.string ⟨#[]⟩, .int .i64 0, .bool false]) (wr.alloc (.cells #[.string yn, .int .i64 yt, .bool ym] PieT)) by kernel_rfl) hm3 hm2 yn (mem_miss hh)).1
           have hstep : Hid (memG l (((yn, yt, ym) : Mem) :: m.drop (k + 1)) L = if ym = true then memG l (m.drop (k + 1)) L else sayQ false) := by unfold Hid; rw [memG]; simp only [hh]
           have HH := Lib.hid hh
           clear hh hm1 hm2 hm3 hy hdrop hgc0 hgc1 hgc2 hG
           cases ym
           · go_wp2_with (first | (go_at_call 131; refine (says_any _ _).mono ?_; rintro e w9 ⟨rfl, hu9⟩; have u9 : Up wr w9 := uq; have s0 := u9.get (hup.out.get T5.out.2.2); have d0 := cell_of s0 0; have df0 := ice_of s0 0; have d1 := cell_of s0 1; have df1 := ice_of s0 1; have d2 := cell_of s0 2; have df2 := ice_of s0 2; have d3 := cell_of s0 3; have df3 := ice_of s0 3; have d4 := cell_of s0 4; have df4 := ice_of s0 4; have dl := lt_of_heap s0; (try simp only [World.size_alloc, List.getElem?_toArray, List.getElem?_cons_zero, List.getElem?_cons_succ] at d0 df0 d1 df1 d2 df2 d3 df3 d4 df4 dl); clear s0))
             refine bodyPost_ret (v := QV (sayQ false) (.slice none 0 0)) (by simp [results, Tryz.results134, go_sem, *]; rfl) rfl ?_
             have e0 : memG l m [] = sayQ false := by rw [← hG2.out, hstep.out]; rfl
             rw [e0]
             have uw9 : Up w w9 := u6.out.trans u9
             exact ⟨_, rfl, PairsAt.nil _ _, uq⟩
           · go_wp2_with fail
             exact ⟨⟨k + 1, L, _, by omega, by simp, by omega, HQ.out.later uq, by unfold Hid; rw [← hG2.out, hstep.out]; rfl⟩, by simp [intOf]; omega⟩
         · have hlk : (Instr.lookup 226 (.map (some w3.heap.size)) (.string yn) true).run Tryz.prog (wr.alloc (.cells #[.string yn, .int .i64 yt, .bool ym] PieT)) = .ok (.tuple #[.agg #[.string xn, .int .i64 xt, .bool xm], .bool true]) (wr.alloc (.cells #[.string yn, .int .i64 yt, .bool ym] PieT)) := by
             obtain ⟨q, hq⟩ := mem_hit hh
             exact (run_lookup_hit (f := pieV) Tryz.underlying226 Tryz.underlying9 strKeys hm3 hm2 yn (xn, xt, xm) q hq (by rw [List.map_map]; exact HN.out)).1
           have hstep : Hid (memG l (((yn, yt, ym) : Mem) :: m.drop (k + 1)) L = if xm = true ∧ ym = false then sayQ false else memG l (m.drop (k + 1)) (L ++ [(xt, yt)])) := by unfold Hid; rw [memG]; simp only [hh]
           have HH := Lib.hid hh
           clear hh hm1 hm2 hm3 hy hdrop hgc0 hgc1 hgc2 hG
           have hcs : (xm = true ∧ ym = false) ∨ ¬ (xm = true ∧ ym = false) := Classical.em _
           rcases hcs with ⟨rfl, rfl⟩ | hcs
           · go_wp2_with (first | (go_at_call 131; refine (says_any _ _).mono ?_; rintro e w9 ⟨rfl, hu9⟩; have u9 : Up wr w9 := uq; have s0 := u9.get (hup.out.get T5.out.2.2); have d0 := cell_of s0 0; have df0 := ice_of s0 0; have d1 := cell_of s0 1; have df1 := ice_of s0 1; have d2 := cell_of s0 2; have df2 := ice_of s0 2; have d3 := cell_of s0 3; have df3 := ice_of s0 3; have d4 := cell_of s0 4; have df4 := ice_of s0 4; have dl := lt_of_heap s0; (try simp only [World.size_alloc, List.getElem?_toArray, List.getElem?_cons_zero, List.getElem?_cons_succ] at d0 df0 d1 df1 d2 df2 d3 df3 d4 df4 dl); clear s0))
             refine bodyPost_ret (v := QV (sayQ false) (.slice none 0 0)) (by simp [results, Tryz.results134, go_sem, *]; rfl) rfl ?_
             have e0 : memG l m [] = sayQ false := by rw [← hG2.out, hstep.out]; rfl
             rw [e0]
             have uw9 : Up w w9 := u6.out.trans u9
             exact ⟨_, rfl, PairsAt.nil _ _, uq⟩
           · have hnx : Hid (memG l (m.drop (k + 1)) (L ++ [(xt, yt)]) = memG l m []) := by unfold Hid; rw [← hG2.out, hstep.out, if_neg hcs]
             have hor : xm = false ∨ ym = true := by cases xm <;> cases ym <;> simp_all
             clear hstep hG2 hcs
             rcases hor with rfl | rfl
             all_goals (have s1 := HQ.out.box
                        have e0 := cell_of s1 0; have ef0 := ice_of s1 0; have e1 := cell_of s1 1; have ef1 := ice_of s1 1; have e2 := cell_of s1 2; have ef2 := ice_of s1 2; have e3 := cell_of s1 3; have ef3 := ice_of s1 3; have e4 := cell_of s1 4; have ef4 := ice_of s1 4; have el := lt_of_heap s1; (try simp only [World.size_alloc, List.getElem?_toArray, List.getElem?_cons_zero, List.getElem?_cons_succ] at e0 ef0 e1 ef1 e2 ef2 e3 ef3 e4 ef4 el); clear s1
                        obtain ⟨i0, hi, hz0, hz1, hz2⟩ := info_parts pairX_info
                        have hLi : (L.length : Int) ≤ 100000 := by omega
                        go_wp2_with (at_builtin; go_must (refine wpList_append_new rfl _ _ 86 rfl PairT i0 (.agg #[.int .i64 0, .int .i64 0]) 2 16 Tryz.underlying86 hi hz0 hz1 hz2 rfl (by decide) (.slice va L.length vcap) L.length (flatP L) rfl (ownsRow_up HQ.out.row uq) _ 1 1 rfl (by first | rfl | (simp; done) | omega) rfl (by intro u hu; have hu2 : u = .int .i64 xt ∨ u = .int .i64 yt := (by simpa using hu); rcases hu2 with hu2 | hu2 <;> rw [hu2] <;> rfl) (by unfold maxLen; omega) (by omega) ?_; intro sa' cap' w7 hown' hgrow hblk; have U7 : Up W5 w7 := Up.grown (hup.out.trans (show Up wr _ from uq)) hgrow (fun r e => Nat.le_of_lt (HQ.out.own r e)); have s0 := grown_get hgrow (alloc_keep (alloc_keep (alloc_keep HQ.out.box))) HQ.out.far; have hblk2 : (Value.slice sa' (L.length + 1) cap').ownBlock = (Value.slice va L.length vcap).ownBlock ∨ ∃ g, (Value.slice sa' (L.length + 1) cap').ownBlock = some g ∧ wr.heap.size + 1 ≤ g := hblk.imp id (fun ⟨g', q, q2⟩ => ⟨g', q, by (try simp only [World.size_alloc] at q2); omega⟩); have HY := Lib.hid (And.intro hown' (And.intro hblk2 (And.intro s0 U7))); have e0 := cell_of s0 0; have ef0 := ice_of s0 0; have e1 := cell_of s0 1; have ef1 := ice_of s0 1; have e2 := cell_of s0 2; have ef2 := ice_of s0 2; have e3 := cell_of s0 3; have ef3 := ice_of s0 3; have e4 := cell_of s0 4; have ef4 := ice_of s0 4; have el := lt_of_heap s0; (try simp only [World.size_alloc, List.getElem?_toArray, List.getElem?_cons_zero, List.getElem?_cons_succ] at e0 ef0 e1 ef1 e2 ef2 e3 ef3 e4 ef4 el); clear s0; clear hown' hgrow hblk hblk2))
                        all_goals exact ⟨⟨k + 1, L ++ [(xt, yt)], _, by omega, by simp, by simp; omega, HQ.out.push rfl rfl rfl HY.out.1 HY.out.2.1 HY.out.2.2.1 HY.out.2.2.2, hnx⟩, by simp [intOf]; omega⟩)
       · obtain rfl : k = m.length := by omega
         have e0 : memG l m [] = allQ L := by rw [← hG.out, List.drop_length]; rfl
         have s0 := hup.out.get T5.out.2.2
         have d0 := cell_of s0 0; have df0 := ice_of s0 0; have d1 := cell_of s0 1; have df1 := ice_of s0 1; have d2 := cell_of s0 2; have df2 := ice_of s0 2; have d3 := cell_of s0 3; have df3 := ice_of s0 3; have d4 := cell_of s0 4; have df4 := ice_of s0 4; have dl := lt_of_heap s0; (try simp only [World.size_alloc, List.getElem?_toArray, List.getElem?_cons_zero, List.getElem?_cons_succ] at d0 df0 d1 df1 d2 df2 d3 df3 d4 df4 dl); clear s0
         have s1 := HQ.out.box
         have c0 := cell_of s1 0; have cf0 := ice_of s1 0; have c1 := cell_of s1 1; have cf1 := ice_of s1 1; have c2 := cell_of s1 2; have cf2 := ice_of s1 2; have c3 := cell_of s1 3; have cf3 := ice_of s1 3; have c4 := cell_of s1 4; have cf4 := ice_of s1 4; have cl := lt_of_heap s1; (try simp only [World.size_alloc, List.getElem?_toArray, List.getElem?_cons_zero, List.getElem?_cons_succ] at c0 cf0 c1 cf1 c2 cf2 c3 cf3 c4 cf4 cl); clear s1
         clear hlt
         go_wp2_with fail
         refine bodyPost_ret (v := QV (allQ L) (.slice va L.length vcap)) (by simp [results, Tryz.results134, go_sem, *]; rfl) rfl ?_
         rw [e0]
         have u6' := u6.out
         exact ⟨_, rfl, ((HQ.out.pairs (B := fun g => W5.heap.size ≤ g) (by omega) (fun g h => h)).five (fun g hg => by omega)).loose (fun g hg => by omega), uq⟩
theorem Are.rows {w : World} {B A : Nat} {bs : List Nat} {ts : List Ty} {tv mv dv : Value} (h : Are w B A bs ts tv mv dv) : Rows ts := ⟨h.nodup, fun t ht => (h.good t ht).1, h.closed⟩
abbrev tyA (t : Ty) (zl : Nat) (pa : Option Addr) (pc : Nat) (na : Option Addr) (nc : Nat) (ma : Option Addr) (mc : Nat) : Array Value := #[.int .i64 t.kind, .int .i64 t.num, .string t.name, .slice pa zl pc, .slice na t.names.length nc, .slice ma t.marks.length mc]
def RowT (w : World) (a : Option Addr) (us : List Value) : Prop := ∀ (j : Nat) (u : Value), us[j]? = some u → ∃ g off cs T f, a = some ⟨g, off, none⟩ ∧ w.heap[g]? = some (Obj.cells cs T f) ∧ (T ≠ AtyT ∧ T ≠ QueT) ∧ cs[off + j]? = some u
theorem RowT.keep {w w' : World} {a : Option Addr} {us : List Value} (h : RowT w a us) (k : ∀ (g : Nat) (cs : Array Value) (T : TypeId) (f : Nat × Nat), T ≠ AtyT → w.heap[g]? = some (Obj.cells cs T f) → w'.heap[g]? = some (Obj.cells cs T f)) : RowT w' a us := fun j u hu => let ⟨g, off, cs, T, f, h1, h2, h3, h4⟩ := h j u hu; ⟨g, off, cs, T, f, h1, k g cs T f h3.1 h2, h3, h4⟩
structure TyV (w : World) (t : Ty) (zs : List Nat) (pa ma : Option Addr) : Prop where
 parts : RowT w pa (zs.map fun z => Value.int .i64 (Int.ofNat z))
 marks : RowT w ma (t.marks.map .bool)
 few : zs.length ≤ 100000 ∧ t.marks.length ≤ 100000 ∧ t.names.length ≤ 100000
theorem TyV.keep {w w' : World} {t : Ty} {zs : List Nat} {pa ma : Option Addr} (h : TyV w t zs pa ma) (k : ∀ (g : Nat) (cs : Array Value) (T : TypeId) (f : Nat × Nat), T ≠ AtyT → w.heap[g]? = some (Obj.cells cs T f) → w'.heap[g]? = some (Obj.cells cs T f)) : TyV w' t zs pa ma := ⟨h.parts.keep k, h.marks.keep k, h.few⟩
theorem TyV.up {w w' : World} {t : Ty} {zs : List Nat} {pa ma : Option Addr} (h : TyV w t zs pa ma) (u : Up w w') : TyV w' t zs pa ma := h.keep fun _ _ _ _ _ q => u.get q
theorem TyV.ints {w : World} {t : Ty} {zs : List Nat} {pa ma : Option Addr} (h : TyV w t zs pa ma) : IntsV w pa zs := fun j z hz => by
 obtain ⟨g, off, cs, T, f, h1, h2, _, h4⟩ := h.parts j (.int .i64 z) (by rw [List.getElem?_map, hz]; rfl)
 exact ⟨g, off, h1, lt_of_heap h2, (cell_of h2 _).trans h4⟩
theorem TyV.bools {w : World} {t : Ty} {zs : List Nat} {pa ma : Option Addr} (h : TyV w t zs pa ma) : BoolsV w ma t.marks := fun j m hm => by
 obtain ⟨g, off, cs, T, f, h1, h2, _, h4⟩ := h.marks j (.bool m) (by rw [List.getElem?_map, hm]; rfl)
 exact ⟨g, off, h1, lt_of_heap h2, (cell_of h2 _).trans h4⟩
theorem TyV.far {w : World} {t : Ty} {zs : List Nat} {pa ma : Option Addr} (h : TyV w t zs pa ma) (hz : zs ≠ []) : ∃ g off, pa = some ⟨g, off, none⟩ ∧ ∀ cs f, w.heap[g]? ≠ some (Obj.cells cs QueT f) := by
 cases zs with
 | nil => exact absurd rfl hz
 | cons z r =>
   obtain ⟨g, off, cs, T, f, h1, h2, h3, h4⟩ := h.parts 0 (.int .i64 (Int.ofNat z)) rfl
   refine ⟨g, off, h1, fun cs' f' e => ?_⟩
   rw [h2] at e
   injection e with e
   injection e with _ e _
   exact h3.2 e
theorem TyV.set6 {w : World} {t : Ty} {zs : List Nat} {pa ma : Option Addr} (h : TyV w t zs pa ma) {b : Nat} {cs0 : Array Value} {f0 : Nat × Nat} (hb : w.heap[b]? = some (.cells cs0 AtyT f0)) (x0 x1 x2 x3 x4 x5 : Value) :
   TyV ((((((w.setCell ⟨b, 0, none⟩ x0).setCell ⟨b, 1, none⟩ x1).setCell ⟨b, 2, none⟩ x2).setCell ⟨b, 3, none⟩ x3).setCell ⟨b, 4, none⟩ x4).setCell ⟨b, 5, none⟩ x5) t zs pa ma :=
 h.keep fun g cs T f hT q => by
   have hne := cells_ne q hb hT
   rw [setCell_other hne, setCell_other hne, setCell_other hne, setCell_other hne, setCell_other hne, setCell_other hne]
   exact q
theorem Are.atH {w : World} {B A : Nat} {bs : List Nat} {ts : List Ty} {tv mv dv : Value} (h : Are w B A bs ts tv mv dv) {i : Nat} {t : Ty} (ht : ts[i]? = some t) :
   ∃ (n tcap gr b g : Nat) (es : Array MapEntry) (clk : Nat) (pv nv kv : Value) (said : ByteArray) (qs : List Nat), qs.length = t.parts.length ∧
     AtH (fun _ => True) A i n tcap gr b g es clk dv t.kind t.num t.name pv nv kv t.size said qs (t.parts.map (idOf ts)) ((ts.map Ty.text).zipIdx) t.names t.marks w := by
 have hil : i < bs.length := by rw [← h.len]; exact (List.getElem?_eq_some_iff.1 ht).1
 obtain ⟨b, hb⟩ : ∃ b, bs[i]? = some b := ⟨_, List.getElem?_eq_getElem hil⟩
 obtain ⟨gr, tcap, g, es, clk, pv, nv, kv, said, qs, e1, e2, h1, h2, h3, h4, h5, h6, h7, h8, h9, h10⟩ := h.reads hb ht
 have hf := h.few (List.mem_of_getElem? ht)
 have hh := h.head
 rw [e1, e2] at hh
 refine ⟨bs.length, tcap, gr, b, g, es, clk, pv, nv, kv, said, qs, h7, ?_⟩
 exact {
   head := hh
   less := h1
   row := h2
   blk := h3
   parts := h4
   map_ := h5
   ents := h6
   nodup := by rw [zip_fst]; exact h.nodup
   len := by rw [List.length_map, h7]
   part := fun j q z hq hz => by
     rw [List.getElem?_map, Option.map_eq_some_iff] at hz
     obtain ⟨p, hp, rfl⟩ := hz
     obtain ⟨k1, k2, k3, k4⟩ := h8 j q p hq hp
     exact ⟨p.text, k1, k2, k3, k4⟩
   names := h9
   marks := h10
   few := by omega }
theorem At_any {w : World} {B A : Nat} {bs : List Nat} {ts : List Ty} {tv mv dv : Value} (h : Are w B A bs ts tv mv dv) {i : Nat} {t : Ty} (ht : ts[i]? = some t) :
   Calls Tryz.prog 64 #[.pointer (some ⟨A, 0, none⟩), .int .i64 i] w fun e w' => ∃ pa pc na nc ma mc, e = .returned (.tuple #[.agg (tyA t (t.parts.map (idOf ts)).length pa pc na nc ma mc), .int .i64 0]) ∧ TyV w' t (t.parts.map (idOf ts)) pa ma ∧ Up w w' := by
 obtain ⟨n, tcap, gr, b, g, es, clk, pv, nv, kv, said, qs, hql, hH⟩ := h.atH ht
 have hf := h.few (List.mem_of_getElem? ht)
 refine (At_walk _ A i n tcap gr b g es clk dv t.kind t.num t.name pv nv kv t.size said qs _ _ t.names t.marks w hH).mono ?_
 rintro e w' ⟨v, nv', mv', rfl, hv, hn, hm, hu⟩
 obtain ⟨va, vcap, rfl⟩ := ownsRow_form hv
 obtain ⟨na, nc, rfl, _, _⟩ := hn.form
 obtain ⟨ma, mc, hme, _, _, hmm⟩ := hm
 simp only [List.length_map] at hme ⊢
 subst hme
 refine ⟨va, vcap, na, nc, ma, mc, rfl, ⟨fun j u hu => ?_, fun j u hj => ?_, by rw [List.length_map]; omega⟩, hu⟩
 · have hj := (List.getElem?_eq_some_iff.1 hu).1
   rw [List.length_map] at hj
   rcases hv.2 with ⟨_, h0⟩ | ⟨g', cap', cur, hv', _, hg, _⟩
   · omega
   · cases hv'
     have q := hv.cells (g := g') rfl j u hu
     rw [Addr.add_lit, cell_of hg] at q
     exact ⟨g', 0, _, _, _, rfl, hg, ⟨by decide, by decide⟩, by simpa using q⟩
 · obtain ⟨g', off, cs, fz, k1, _, k3, k4⟩ := hmm j u hj
   exact ⟨g', off, _, _, _, k1, k3, ⟨by decide, by decide⟩, k4⟩
theorem at_walk (A i : Nat) (k n : Int) (nm : ByteArray) (zl nl ml : Nat) (R : Option Addr → Option Addr → World → Prop) (w : World) (hR : ∀ (pa ma : Option Addr) (W : World) (b : Nat) (cs : Array Value) (f : Nat × Nat) (x0 x1 x2 x3 x4 x5 : Value), R pa ma W → W.heap[b]? = some (Obj.cells cs AtyT f) → R pa ma ((((((W.setCell ⟨b, 0, none⟩ x0).setCell ⟨b, 1, none⟩ x1).setCell ⟨b, 2, none⟩ x2).setCell ⟨b, 3, none⟩ x3).setCell ⟨b, 4, none⟩ x4).setCell ⟨b, 5, none⟩ x5))
   (hU : ∀ (pa ma : Option Addr) (W W' : World), R pa ma W → Up W W' → R pa ma W') (hA : ∀ W, Up w W → Calls Tryz.prog 64 #[.pointer (some ⟨A, 0, none⟩), .int .i64 i] W fun e w' => ∃ pa pc na nc ma mc, e = .returned (.tuple #[.agg #[.int .i64 k, .int .i64 n, .string nm, .slice pa zl pc, .slice na nl nc, .slice ma ml mc], .int .i64 0]) ∧ R pa ma w' ∧ Up W w') :
   Calls Tryz.prog 130 #[.agg #[.pointer (some ⟨A, 0, none⟩)], .int .i64 i] w fun e w' => ∃ pa pc na nc ma mc, e = .returned (.agg #[.int .i64 k, .int .i64 n, .string nm, .slice pa zl pc, .slice na nl nc, .slice ma ml mc]) ∧ R pa ma w' ∧ Up w w' := by
 have HA := Lib.hid hA
 have HR := Lib.hid hR
 have HU := Lib.hid hU
 clear hA hR hU
 go_enter Tryz.func130, Tryz.ntmps130
 go_wp2_with (first | (go_at_call 64; refine (HA.out _ uq).mono ?_; rintro e w2 ⟨pa, pc, na, nc, ma, mc, rfl, hv2, hu2⟩; have s1 := hu2.get (alloc_get _ _); simp only [World.size_alloc] at s1; have HB := Lib.hid s1; have q0 := cell_of s1 0; have p0 := ice_of s1 0; have q1 := cell_of s1 1; have p1 := ice_of s1 1; have q2 := cell_of s1 2; have p2 := ice_of s1 2; have q3 := cell_of s1 3; have p3 := ice_of s1 3; have q4 := cell_of s1 4; have p4 := ice_of s1 4; have q5 := cell_of s1 5; have p5 := ice_of s1 5; have q9 := lt_of_heap s1; (try simp only [World.size_alloc, List.getElem?_toArray, List.getElem?_cons_zero, List.getElem?_cons_succ] at q0 q1 q2 q3 q4 q5 p0 p1 p2 p3 p4 p5 q9); clear s1; have HV := Lib.hid hv2; have u2 : Up w w2 := uq; clear hv2))
 refine bodyPost_ret (v := .agg #[.int .i64 k, .int .i64 n, .string nm, .slice pa zl pc, .slice na nl nc, .slice ma ml mc]) (by simp [results, Tryz.results130, go_sem, *]) rfl ?_
 exact ⟨pa, pc, na, nc, ma, mc, rfl, HU.out _ _ _ _ (HR.out _ _ _ _ _ _ _ _ _ _ _ _ HV.out HB.out) (Up.alloc (Up.refl _) _), uq⟩
theorem at_any {w : World} {B A : Nat} {bs : List Nat} {ts : List Ty} {tv mv dv : Value} (h : Are w B A bs ts tv mv dv) {i : Nat} {t : Ty} (ht : ts[i]? = some t) :
   Calls Tryz.prog 130 #[.agg #[.pointer (some ⟨A, 0, none⟩)], .int .i64 i] w fun e w' => ∃ pa pc na nc ma mc, e = .returned (.agg (tyA t (t.parts.map (idOf ts)).length pa pc na nc ma mc)) ∧ TyV w' t (t.parts.map (idOf ts)) pa ma ∧ Up w w' :=
 at_walk A i t.kind t.num t.name (t.parts.map (idOf ts)).length t.names.length t.marks.length (fun pa ma W => TyV W t (t.parts.map (idOf ts)) pa ma) w (fun _ _ _ _ _ _ _ _ _ _ _ _ h1 h2 => h1.set6 h2 _ _ _ _ _ _) (fun _ _ _ _ h1 h2 => h1.up h2) (fun _ hW => At_any (h.up hW) ht)
set_option maxHeartbeats 1000000 in
theorem small_any (kx nx ky ny : Int) (mx my : ByteArray) (px qx rx py qy ry : Value) (w : World) : Calls Tryz.prog 132 #[.agg #[.int .i64 kx, .int .i64 nx, .string mx, px, qx, rx], .agg #[.int .i64 ky, .int .i64 ny, .string my, py, qy, ry]] w fun e w' => e = .returned (.bool (smallK kx ky)) ∧ Up w w' := by
 unfold smallK
 go_enter Tryz.func132, Tryz.ntmps132
 go_wp2_with fail
 all_goals (go_ret; refine ⟨by simp_all, uq⟩)
end Go.Proofs.YtiaepldmgighbaaGreatDoor
