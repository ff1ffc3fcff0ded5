import Derived.Test.YtiaepldmgighbaaGreatDoorM35
import Derived.Test.YtiaepldmgighbaaGreatDoorM26
import Derived.Test.YtiaepldmgighbaaGreatDoorM28
namespace Go.Proofs.YtiaepldmgighbaaGreatDoor
open Go.RowKit
set_option linter.unusedSimpArgs false
set_option linter.unusedVariables false
theorem may_any (N M : Nat → Prop) (B : Nat) (k n : Int) (nm : ByteArray) (ids nv mv pv : Value) (qs : List Nat) (ps : List Ty) (ns : List ByteArray) (ms : List Bool) (m : Int) (w : World) (hi : ∃ a l c, ids = .slice a l c) (h : MayH N M B nm nv mv pv qs ps ns ms m w) (hn1 : -9223372036854775808 ≤ n) (hn2 : n ≤ 9223372036854775807) :
   Calls Tryz.prog 56 #[typV k n nm ids nv mv, pv] w (MayR (Ty.mk k n nm ps ns ms) w) := by
 obtain ⟨ia, il, ic, rfl⟩ := hi
 obtain ⟨pa, pcap, rfl, _, _⟩ := h.row.form
 obtain ⟨na, ncap, rfl, _, _⟩ := h.names.form
 obtain ⟨ma, mcap, rfl, _, _⟩ := h.marks.form
 simp only [List.length_map] at h ⊢
 by_cases k11 : k = 11
 · subst k11; exact may_11 N M B n nm ia na ma pa il ic ncap mcap pcap qs ps ns ms m w h hn1 hn2
 by_cases k12 : k = 12
 · subst k12; exact may_12 N M B n nm ia na ma pa il ic ncap mcap pcap qs ps ns ms m w h hn1 hn2
 by_cases k13 : k = 13
 · subst k13; exact may_13 N M B n nm ia na ma pa il ic ncap mcap pcap qs ps ns ms m w h hn1 hn2
 by_cases k14 : k = 14
 · subst k14; exact may_14 N M B n nm ia na ma pa il ic ncap mcap pcap qs ps ns ms m w h hn1 hn2
 by_cases k15 : k = 15
 · subst k15; exact may_15 N M B n nm ia na ma pa il ic ncap mcap pcap qs ps ns ms m w h hn1 hn2
 by_cases k17 : k = 17
 · subst k17; exact may_17 N M B n nm ia na ma pa il ic ncap mcap pcap qs ps ns ms m w h hn1 hn2
 by_cases hk : k = 18 ∨ k = 19 ∨ k = 21 ∨ k = 22 ∨ k = 23
 · exact may_18 N M B k hk n nm ia na ma pa il ic ncap mcap pcap qs ps ns ms m w h hn1 hn2
 by_cases k20 : k = 20
 · subst k20; exact may_20 N M B n nm ia na ma pa il ic ncap mcap pcap qs ps ns ms m w h hn1 hn2
 exact may_0 N M B k (by omega) n nm ia na ma pa il ic ncap mcap pcap qs ps ns ms m w h hn1 hn2
theorem Up.of_below {w w' : World} (h : Below w.heap.size w w') : Up w w' := ⟨h.os, h.tape, h.output, h.size, fun i hi => h.block i hi⟩
theorem ownsRow_rowN {N : Nat → Prop} {w0 w : World} {T : TypeId} {v : Value} {n : Nat} {us : List Value} (h : w.ownsRow w0.heap.size T 1 v n us) (hN : Open N w0) (hl : us.length = n) (hn : n ≤ 1000000000) : RowOf T N w v us := by
 subst hl
 rcases h.2 with ⟨hv, h0⟩ | ⟨g, cap, cur, hv, hB, hg, hc, hu⟩
 · rw [List.length_eq_zero_iff.1 h0, hv]; exact RowOf.nil _ _ _
 · refine ⟨some ⟨g, 0, none⟩, cap, hv, hc, hn, fun j u hj => ⟨g, 0, cur, (0, 0), rfl, hN g hB, hg, ?_⟩⟩
   have h2 := hu.2.2
   rw [Nat.mul_one] at h2
   rw [← h2, List.getElem?_take] at hj
   split at hj
   · rw [Nat.zero_add, ← Array.getElem?_toList]; exact hj
   · cases hj
theorem clone_names (N N' : Nat → Prop) (v : Value) (l : List ByteArray) (w : World) (h : RowV N w v (l.map .string)) (hl1 : l.length ≤ 2000000) (hN : Open N' w) :
   Calls Tryz.prog 58 #[v] w fun e w' => ∃ v', e = .returned v' ∧ RowOf StrT N' w' v' (l.map .string) ∧ Up w w' := by
 obtain ⟨a, cap, rfl, hcap, hlen⟩ := h.form
 rw [List.length_map] at hlen hcap
 cases a with
 | none =>
   have h0 : l = [] := by
     cases l with
     | nil => rfl
     | cons x r =>
       obtain ⟨g, off, cap', e, _⟩ := h.at_ (j := 0) (u := .string x) rfl
       cases e
   subst h0
   refine (Tryz.slices_Clone_string_nil 0 cap w).mono ?_
   rintro e w' ⟨rfl, rfl⟩
   exact ⟨_, rfl, RowOf.nil _ _ _, Up.refl _⟩
 | some ad =>
   cases l with
   | nil =>
     refine (Tryz.slices_Clone_string_zero ad cap w).mono ?_
     rintro e w' ⟨v', rfl, hv, _, hb⟩
     exact ⟨v', rfl, ownsRow_rowN hv hN rfl (by omega), Up.of_below hb⟩
   | cons l0 lr =>
   obtain ⟨l, hle⟩ : ∃ l, l = l0 :: lr := ⟨_, rfl⟩
   obtain ⟨b, off, rfl⟩ : ∃ b off, ad = ⟨b, off, none⟩ := by
     obtain ⟨g, off, cap', e, _⟩ := h.at_ (j := 0) (u := .string l0) rfl
     injection e with e _ _
     injection e with e
     exact ⟨g, off, e⟩
   rw [← hle] at h hl1 hlen hcap ⊢
   clear hle
   rw [List.length_map]
   refine (Tryz.slices_Clone_string b off l.length cap l w (Nat.le_refl _) (by omega) (fun j hj => ?_)).mono ?_
   · obtain ⟨s, hs⟩ : ∃ s, l[j]? = some s := ⟨_, List.getElem?_eq_getElem hj⟩
     obtain ⟨g, off', cap', e, hc, _⟩ := h.at_ (j := j) (u := .string s) (by rw [List.getElem?_map, hs]; rfl)
     injection e with e _ _
     injection e with e
     injection e with e1 e2 _
     subst e1 e2
     rw [hc]
     simp [List.getD, hs]
   · rintro e w' ⟨v', rfl, hv, _, hb⟩
     rw [List.take_length] at hv
     exact ⟨v', rfl, ownsRow_rowN hv hN (by simp) (by omega), Up.of_below hb⟩
theorem bool_info : (Tryz.prog.info? BooT).map (fun i => (i.zero, i.size, i.bytes)) = some (some (.bool false), 1, 1) := by kernel_rfl
set_option maxHeartbeats 2000000 in
set_option maxRecDepth 100000 in
theorem clone_bool_zero (ad : Addr) (c : Nat) (w : World) :
   Calls Tryz.prog 59 #[.slice (some ad) 0 c] w fun e w' => ∃ v', e = .returned v' ∧ w'.ownsRow w.heap.size BooT 1 v' 0 [] ∧ Below w.heap.size w w' := by
 obtain ⟨i0, hi, hz0, hz1, hz2⟩ := info_parts bool_info
 have q24 : ∀ (w : World) (a : Option Addr) (n c n' c' : Nat), (binOp .eql 31 (.slice a n c) (.slice none n' c')).run Tryz.prog w = .ok (.bool a.isNone) w := fun w a n c n' c' => Lib.run_eql_slice_nil w _ _ a n c n' c' Tryz.underlying31
 have u24 : ∀ w, Sem.run Tryz.prog (underlying 31) w = .ok (TypeDesc.slice BooT) w := run_underlying Tryz.underlying31
 go_enter Tryz.func59, Tryz.ntmps59
 go_wp2_with (at_builtin; refine wpList_append_own _ rfl _ _ 31 rfl w.heap.size BooT i0 (.bool false) 1 1 Tryz.underlying31 hi hz0 hz1 hz2 rfl (by decide) _ _ _ rfl (World.ownsRow_made w #[] 0 (Nat.le_refl _) (Nat.zero_le _) rfl) ad 0 c [] rfl rfl (by intro j u hj; simp at hj) (by intro u hu; cases hu) (by unfold maxLen; omega) (by omega) (by simp) ?_)
 intro v' w1 hown hgrow hnil
 go_wp2
 go_ret
 refine ⟨v', rfl, by simpa using hown, ?_⟩
 exact ((Below.refl _ w).alloc (Nat.le_refl _) _).grown hgrow (by simp) (by intro k hk; simp [Value.ownBlock] at hk; omega)
set_option maxRecDepth 100000 in
theorem clone_marks (N N' : Nat → Prop) (v : Value) (l : List Bool) (w : World) (h : RowV N w v (l.map .bool)) (hl1 : l.length ≤ 2000000) (hN : Open N' w) :
   Calls Tryz.prog 59 #[v] w fun e w' => ∃ v', e = .returned v' ∧ RowOf BooT N' w' v' (l.map .bool) ∧ Up w w' := by
 obtain ⟨a, cap, rfl, hcap, hlen⟩ := h.form
 rw [List.length_map] at hlen hcap
 cases a with
 | none =>
   have h0 : l = [] := by
     cases l with
     | nil => rfl
     | cons x r =>
       obtain ⟨g, off, cap', e, _⟩ := h.at_ (j := 0) (u := .bool x) rfl
       cases e
   subst h0
   refine (Tryz.slices_Clone_nil_f59 0 cap w).mono ?_
   rintro e w' ⟨rfl, rfl⟩
   exact ⟨_, rfl, RowOf.nil _ _ _, Up.refl _⟩
 | some ad =>
   cases l with
   | nil =>
     refine (clone_bool_zero ad cap w).mono ?_
     rintro e w' ⟨v', rfl, hv, hb⟩
     exact ⟨v', rfl, ownsRow_rowN hv hN rfl (by omega), Up.of_below hb⟩
   | cons l0 lr =>
   obtain ⟨l, hle⟩ : ∃ l, l = l0 :: lr := ⟨_, rfl⟩
   obtain ⟨b, off, rfl⟩ : ∃ b off, ad = ⟨b, off, none⟩ := by
     obtain ⟨g, off, cap', e, _⟩ := h.at_ (j := 0) (u := .bool l0) rfl
     injection e with e _ _
     injection e with e
     exact ⟨g, off, e⟩
   rw [← hle] at h hl1 hlen hcap ⊢
   clear hle
   obtain ⟨i0, hi, hz0, hz1, hz2⟩ := info_parts bool_info
   rw [List.length_map]
   refine (Tryz.slices_Clone_f59 i0 (.bool false) 1 1 hi hz0 hz1 hz2 rfl (by decide) (fun w => by kernel_rfl) b off l.length cap (l.map .bool) w (by simp) (by unfold maxLen; omega) (by omega) (fun j u hj => ?_) (fun u hu => ?_)).mono ?_
   · obtain ⟨g, off', cap', e, hc, _⟩ := h.at_ hj
     injection e with e _ _
     injection e with e
     injection e with e1 e2 _
     subst e1 e2
     exact hc
   · obtain ⟨x, _, rfl⟩ := List.mem_map.1 hu
     rfl
   · rintro e w' ⟨v', rfl, hv, _, hb⟩
     exact ⟨v', rfl, ownsRow_rowN hv hN (by simp) (by omega), Up.of_below hb⟩
abbrev IntE : TypeId := 3
theorem text_up (b : Nat) (s : ByteArray) (hs : (s.toList == []) = false) (w : World) (h : w.cell? ⟨b, 7, none⟩ = some (.string s)) :
   Calls Tryz.prog 61 #[.pointer (some ⟨b, 0, none⟩)] w fun e w' => e = .returned (.string s) ∧ Up w w' := by
 go_enter Tryz.func61, Tryz.ntmps61
 go_wp2_with fail
 go_ret
 exact ⟨rfl, uq⟩
theorem int1_info : (Tryz.prog.info? IntE).map (fun i => (i.zero, i.size, i.bytes)) = some (some (.int .i64 0), 1, 8) := by kernel_rfl
structure AtH (N : Nat → Prop) (A i n tcap gr b g : Nat) (es : Array MapEntry) (clk : Nat) (dv : Value) (k num : Int) (nm : ByteArray) (pv nv mv : Value) (sz : Nat) (said : ByteArray) (qs zs : List Nat) (xs : List (ByteArray × Nat)) (ns : List ByteArray) (ms : List Bool) (w : World) : Prop where
 head : w.heap[A]? = some (.cells #[.slice (some ⟨gr, 0, none⟩) n tcap, .map (some g), dv] ArT (0, 0))
 less : i < n
 row : gr < w.heap.size ∧ w.cell? ⟨gr, i, none⟩ = some (ptrV b)
 blk : w.heap[b]? = some (.cells (tyC k num nm pv nv mv sz said) TyT (0, 0))
 parts : RowOf TpT N w pv (qs.map ptrV)
 map_ : w.heap[g]? = some (.map es clk)
 ents : Entries es Value.string numV xs
 nodup : (xs.map (·.1)).Nodup
 len : zs.length = qs.length
 part : ∀ (j q z : Nat), qs[j]? = some q → zs[j]? = some z → ∃ s : ByteArray, (s.toList == []) = false ∧ q < w.heap.size ∧ w.cell? ⟨q, 7, none⟩ = some (.string s) ∧ xs[z]? = some (s, z)
 names : RowV N w nv (ns.map .string)
 marks : RowV N w mv (ms.map .bool)
 few : qs.length ≤ 1000000 ∧ ns.length ≤ 1000000 ∧ ms.length ≤ 1000000
theorem AtH.up {N : Nat → Prop} {A i n tcap gr b g : Nat} {es : Array MapEntry} {clk : Nat} {dv : Value} {k num : Int} {nm : ByteArray} {pv nv mv : Value} {sz : Nat} {said : ByteArray} {qs zs : List Nat} {xs : List (ByteArray × Nat)} {ns : List ByteArray} {ms : List Bool} {w w' : World}
   (h : AtH N A i n tcap gr b g es clk dv k num nm pv nv mv sz said qs zs xs ns ms w) (u : Up w w') : AtH N A i n tcap gr b g es clk dv k num nm pv nv mv sz said qs zs xs ns ms w' :=
 { h with
   head := u.get h.head
   row := ⟨Nat.lt_of_lt_of_le h.row.1 u.size, (u.cells _ _ h.row.1).trans h.row.2⟩
   blk := u.get h.blk
   parts := h.parts.keep fun _ _ _ q1 q2 => ⟨q1, u.get q2⟩
   map_ := u.get h.map_
   part := fun j q z h1 h2 => by
     obtain ⟨s, q1, q2, q3, q4⟩ := h.part j q z h1 h2
     exact ⟨s, q1, Nat.lt_of_lt_of_le q2 u.size, (u.cells _ _ q2).trans q3, q4⟩
   names := h.names.up u
   marks := h.marks.up u }
set_option maxRecDepth 100000 in
set_option maxHeartbeats 3200000 in
theorem At_walk (N : Nat → Prop) (A i n tcap gr b g : Nat) (es : Array MapEntry) (clk : Nat) (dv : Value) (k num : Int) (nm : ByteArray) (pv nv mv : Value) (sz : Nat) (said : ByteArray) (qs zs : List Nat) (xs : List (ByteArray × Nat)) (ns : List ByteArray) (ms : List Bool) (w : World)
   (h : AtH N A i n tcap gr b g es clk dv k num nm pv nv mv sz said qs zs xs ns ms w) :
   Calls Tryz.prog 64 #[.pointer (some ⟨A, 0, none⟩), .int .i64 i] w fun e w' => ∃ v nv' mv', e = .returned (.tuple #[.agg #[.int .i64 k, .int .i64 num, .string nm, v, nv', mv'], .int .i64 0]) ∧ w'.ownsRow 0 IntE 1 v zs.length (zs.map fun z => Value.int .i64 (Int.ofNat z)) ∧ RowOf StrT (fun _ => True) w' nv' (ns.map .string) ∧ RowOf BooT (fun _ => True) w' mv' (ms.map .bool) ∧ Up w w' := by
 obtain ⟨pa, pcap, hpv, hpc, hpl, hpj⟩ := h.parts
 simp only [List.length_map] at hpv hpc hpl
 subst hpv
 obtain ⟨na, ncap, hnv, _, _⟩ := h.names.form
 obtain ⟨ka, kcap, hkv, _, _⟩ := h.marks.form
 simp only [List.length_map] at hnv hkv
 subst hnv hkv
 have HJ := Lib.hid hpj
 clear hpj
 have H := Lib.hid h
 have a4 := lt_of_heap h.head
 have hji : (i : Int) < n := by have := h.less; omega
 clear h
 go_enter Tryz.func64, Tryz.ntmps64
 go_wp2_with fail
 refine wp_scope_straight ?_
 go_wp2_with (first | (go_at_call 60; refine (has_in dv A n tcap _ _ i H.out.less _ (Up.get (show Up w _ from uq) H.out.head)).mono ?_; rintro e w2 ⟨rfl, hu2⟩; have u2 : Up w w2 := uq; have H2 := Lib.hid (H.out.up u2); have a0 := cell_of H2.out.head 0; have a4 := lt_of_heap H2.out.head; have g0 := H2.out.row.2; simp only [ptrV] at g0; have g4 := H2.out.row.1; have b0 := cell_of H2.out.blk 0; have b1 := cell_of H2.out.blk 1; have b2 := cell_of H2.out.blk 2; have b3 := cell_of H2.out.blk 3; have b5 := cell_of H2.out.blk 4; have b6 := cell_of H2.out.blk 5; have b4 := lt_of_heap H2.out.blk; simp only [List.getElem?_toArray, List.getElem?_cons_zero, List.getElem?_cons_succ] at a0 b0 b1 b2 b3 b5 b6))
 refine wp_label ?_
 go_wp2_with fail
 go_loopw [7, 32] (fun v i wr => ∃ j : Nat, j ≤ qs.length ∧ i = .int .i64 j ∧ wr.ownsRow 0 IntE 1 v j ((zs.take j).map fun z => Value.int .i64 (Int.ofNat z)) ∧ (∀ g, v.ownBlock = some g → w2.heap.size ≤ g) ∧ Up w2 wr) (fun _ i _ => qs.length - (intOf i).toNat)
 case atStart => exact ⟨0, Nat.zero_le _, rfl, (show w2.ownsRow 0 IntE 1 (.slice none 0 0) 0 [] from ⟨rfl, .inl ⟨rfl, rfl⟩⟩), (fun g hg => by simp [Value.ownBlock] at hg), Up.refl _⟩
 case round =>
   obtain ⟨j, hj, rfl, hv, hvb, hup⟩ := hrel
   by_cases hlt : j < qs.length
   · have hji2 : (j : Int) < qs.length := by omega
     obtain ⟨q, hqj⟩ : ∃ q, qs[j]? = some q := ⟨_, List.getElem?_eq_getElem hlt⟩
     obtain ⟨z, hzj⟩ : ∃ z, zs[j]? = some z := ⟨_, List.getElem?_eq_getElem (by rw [H.out.len]; exact hlt)⟩
     obtain ⟨pg, poff, pcs, pfz, rfl, _, hpg, hpc0⟩ := HJ.out j (ptrV q) (by rw [List.getElem?_map, hqj]; rfl)
     have y0 := (hup.cells _ _ (Nat.lt_of_lt_of_le (lt_of_heap hpg) u2.size)).trans ((u2.cells _ _ (lt_of_heap hpg)).trans ((cell_of hpg (poff + j)).trans hpc0))
     have yl : pg < wr.heap.size := Nat.lt_of_lt_of_le (lt_of_heap hpg) (u2.trans hup).size
     simp only [ptrV] at y0
     obtain ⟨va, vcap, rfl⟩ := ownsRow_form hv
     have HV := Lib.hid (And.intro hv (And.intro hvb hup))
     have HR := Lib.hid (H2.out.up hup)
     obtain ⟨s, hs0, hql, hq7, hxz⟩ := HR.out.part j q z hqj hzj
     have HX := Lib.hid hxz
     have HT := Lib.hid (fun (W : World) (hW : Up wr W) => text_up q s hs0 W ((hW.cells _ _ hql).trans hq7))
     have a1 := cell_of HR.out.head 1
     have a4 := lt_of_heap HR.out.head
     simp only [List.getElem?_toArray, List.getElem?_cons_zero, List.getElem?_cons_succ] at a1
     have hlk : Hid (∀ W : World, Up wr W → (Instr.lookup 100 (.map (some g)) (.string s) true).run Tryz.prog W = .ok (.tuple #[.int .i64 z, .bool true]) W) := fun W hW => (run_lookup_hit (f := numV) Tryz.underlying100 Tryz.underlying9 strKeys (hW.get HR.out.map_) H.out.ents s z z HX.out H.out.nodup).1
     have HNX : Hid ((zs.take (j + 1)).map (fun z => Value.int .i64 (Int.ofNat z)) = (zs.take j).map (fun z => Value.int .i64 (Int.ofNat z)) ++ [.int .i64 z]) := by
       unfold Hid
       rw [List.take_add_one, hzj, List.map_append]
       rfl
     clear hqj hzj hv hvb hup hpg hpc0 hq7 hxz hs0
     go_wp2_with fail
     go_region_law (first | (go_simp; go_at_call 61; refine (HT.out _ (show Up wr _ from uq)).mono ?_; rintro e w3 ⟨rfl, hu3⟩; have u3 : Up wr w3 := uq; have a1 := (u3.cells _ _ a4).trans a1; have a4 := Nat.lt_of_lt_of_le a4 u3.size; have hlk := hlk.out w3 u3))
     all_goals (obtain ⟨i0, hi, hz0, hz1, hz2⟩ := info_parts int1_info)
     all_goals (have HU3 := Lib.hid u3)
     all_goals (have HB4 := Lib.hid a4)
     all_goals (clear hlk)
     all_goals (go_wp2_with (at_builtin; go_must (refine wpList_append_new rfl _ _ 43 rfl IntE i0 (.int .i64 0) 1 8 Tryz.underlying43 hi hz0 hz1 hz2 rfl (by decide) (.slice va j vcap) j ((zs.take j).map fun z => Value.int .i64 (Int.ofNat z)) rfl (ownsRow_up HV.out.1 uq) _ 1 1 rfl (by first | rfl | (simp; done) | omega) rfl (by intro u hu; have hu2 : u = .int .i64 z := (by simpa using hu); rw [hu2]; rfl) (by have := H.out.few.1; unfold maxLen; omega) (by omega) ?_; intro sa' cap' w7 hown' hgrow hblk; have HY := Lib.hid (And.intro hown' (And.intro hgrow hblk)); clear hown' hgrow hblk)))
     all_goals (refine ⟨⟨j + 1, by omega, by simp, by rw [HNX.out]; exact HY.out.1, fun g' hg => ?_, ?_⟩, by simp [intOf]; omega⟩)
     all_goals first
       | (refine Up.grown (W := _) ?_ HY.out.2.1 (fun r e => HV.out.2.1 r e); exact (HV.out.2.2.trans HU3.out).alloc _)
       | (rcases HY.out.2.2 with q | ⟨g2, q, q2⟩
          · exact HV.out.2.1 g' (by rw [← q]; exact hg)
          · rw [q] at hg
            cases hg
            have := HV.out.2.2.size
            have := HU3.out.size
            omega)
   · obtain rfl : j = qs.length := by omega
     rw [← H.out.len, List.take_length] at hv
     obtain ⟨va, vcap, rfl⟩ := ownsRow_form hv
     have HV := Lib.hid (And.intro hv (And.intro hvb hup))
     have HR := Lib.hid (H2.out.up hup)
     have hc1 := Lib.hid (fun (W : World) (hW : Up wr W) => clone_names N (fun x => wr.heap.size ≤ x) _ ns W (HR.out.names.up hW) (by have := H.out.few.2.1; omega) (fun _ hx => Nat.le_trans hW.size hx))
     have hc2 := Lib.hid (fun (W : World) (hW : Up wr W) => clone_marks N (fun x => wr.heap.size ≤ x) _ ms W (HR.out.marks.up hW) (by have := H.out.few.2.2; omega) (fun _ hx => Nat.le_trans hW.size hx))
     clear hlt hv hvb hup b3
     have HBX : Hid (wr.heap[w.heap.size]? = some (.cells #[.int .i64 0, .int .i64 0, .string ⟨#[]⟩, .slice none 0 0, .slice none 0 0, .slice none 0 0] 46 (0, 0))) := HV.out.2.2.get (hu2.get (alloc_get w _))
     have HS : Hid (∀ X : World, Up w X → X.cell? ⟨b, 0, none⟩ = some (.int .i64 k) ∧ X.cell? ⟨b, 1, none⟩ = some (.int .i64 num) ∧ X.cell? ⟨b, 2, none⟩ = some (.string nm) ∧ X.cell? ⟨b, 4, none⟩ = some (.slice na ns.length ncap) ∧ X.cell? ⟨b, 5, none⟩ = some (.slice ka ms.length kcap)) := fun X hX => ⟨cell_of (hX.get H.out.blk) 0, cell_of (hX.get H.out.blk) 1, cell_of (hX.get H.out.blk) 2, cell_of (hX.get H.out.blk) 4, cell_of (hX.get H.out.blk) 5⟩
     have ur : Up w wr := u2.trans HV.out.2.2
     have x0 := cell_of HR.out.blk 0
     have x1 := cell_of HR.out.blk 1
     have x2 := cell_of HR.out.blk 2
     have x4 := cell_of HR.out.blk 4
     have x5 := cell_of HR.out.blk 5
     simp only [List.getElem?_toArray, List.getElem?_cons_zero, List.getElem?_cons_succ] at x0 x1 x2 x4 x5
     have xl := lt_of_heap HR.out.blk
     clear b0 b1 b2 b5 b6 a0 g0 g4 b4
     go_wp2_with fail
     go_region_held3 (fun X => X.cell? ⟨b, 0, none⟩ = some (.int .i64 k) ∧ X.cell? ⟨b, 1, none⟩ = some (.int .i64 num) ∧ X.cell? ⟨b, 2, none⟩ = some (.string nm) ∧ X.cell? ⟨b, 4, none⟩ = some (.slice na ns.length ncap) ∧ X.cell? ⟨b, 5, none⟩ = some (.slice ka ms.length kcap)) (exact HS.out _ (show Up w _ from uq)) (first
       | (go_at_call 58; refine (hc1.out _ (show Up wr _ from uq)).mono ?_; rintro e w5 ⟨nv', rfl, hr5, hu5⟩; obtain ⟨nva, nvc, rfl, _, _⟩ := hr5.form; simp only [List.length_map] at hr5; have u5 : Up wr w5 := uq; have HC1 := Lib.hid (And.intro hr5 u5); have HQ5 := Lib.hid (u5.get HR.out.blk); have x0 := cell_of HQ5.out 0; have x1 := cell_of HQ5.out 1; have x2 := cell_of HQ5.out 2; have x4 := cell_of HQ5.out 4; have x5 := cell_of HQ5.out 5; simp only [List.getElem?_toArray, List.getElem?_cons_zero, List.getElem?_cons_succ] at x0 x1 x2 x4 x5; have xl := lt_of_heap HQ5.out; have s0 := u5.get HBX.out; have q0 := cell_of s0 0; have p0 := ice_of s0 0; have q1 := cell_of s0 1; have p1 := ice_of s0 1; have q2 := cell_of s0 2; have p2 := ice_of s0 2; have q3 := cell_of s0 3; have p3 := ice_of s0 3; have q4 := cell_of s0 4; have p4 := ice_of s0 4; have q5 := cell_of s0 5; have p5 := ice_of s0 5; have q9 := lt_of_heap s0; (try simp only [World.size_alloc, List.getElem?_toArray, List.getElem?_cons_zero, List.getElem?_cons_succ] at q0 q1 q2 q3 q4 q5 p0 p1 p2 p3 p4 p5 q9); clear s0; clear hr5)
       | (go_at_call 59; refine (hc2.out _ (show Up wr _ from uq)).mono ?_; rintro e w6 ⟨mv', rfl, hr6, hu6⟩; obtain ⟨mva, mvc, rfl, _, _⟩ := hr6.form; simp only [List.length_map] at hr6; have u6 : Up wr w6 := uq; have HC2 := Lib.hid (And.intro hr6 (And.intro u6 (show Up w5 w6 from uq))); have HQ6 := Lib.hid (u6.get HR.out.blk); have x0 := cell_of HQ6.out 0; have x1 := cell_of HQ6.out 1; have x2 := cell_of HQ6.out 2; have x4 := cell_of HQ6.out 4; have x5 := cell_of HQ6.out 5; simp only [List.getElem?_toArray, List.getElem?_cons_zero, List.getElem?_cons_succ] at x0 x1 x2 x4 x5; have xl := lt_of_heap HQ6.out; have s0 := u6.get HBX.out; have q0 := cell_of s0 0; have p0 := ice_of s0 0; have q1 := cell_of s0 1; have p1 := ice_of s0 1; have q2 := cell_of s0 2; have p2 := ice_of s0 2; have q3 := cell_of s0 3; have p3 := ice_of s0 3; have q4 := cell_of s0 4; have p4 := ice_of s0 4; have q5 := cell_of s0 5; have p5 := ice_of s0 5; have q9 := lt_of_heap s0; (try simp only [World.size_alloc, List.getElem?_toArray, List.getElem?_cons_zero, List.getElem?_cons_succ] at q0 q1 q2 q3 q4 q5 p0 p1 p2 p3 p4 p5 q9); clear s0; clear hr6))
     go_wp2_with fail
     rw [Exit.noGoto_ret]
     refine bodyPost_ret (v := .tuple #[.agg #[.int .i64 k, .int .i64 num, .string nm, .slice va zs.length vcap, .slice nva ns.length nvc, .slice mva ms.length mvc], .int .i64 0]) (by simp [results, Tryz.results64, go_sem, *]) rfl ?_
     refine ⟨_, _, _, rfl, ?_, ?_, ?_, ?_⟩
     · exact ownsRow_keep (w := w6) (ownsRow_up HV.out.1 HC2.out.2.1) (fun g' hg => by have := HV.out.2.1 g' hg; have hz := hu2.size; simp only [World.size_alloc] at hz; repeat rw [setCell_other (by omega)])
     · have hr := HC1.out.1.up (show Up w5 w6 from HC2.out.2.2)
       exact hr.keep fun g' cs fz h1 h2 => ⟨trivial, by have hz := hu2.size; have hz2 := HV.out.2.2.size; simp only [World.size_alloc] at hz; repeat rw [setCell_other (by omega)]
                                                        exact h2⟩
     · have hr := HC2.out.1
       exact hr.keep fun g' cs fz h1 h2 => ⟨trivial, by have hz := hu2.size; have hz2 := HV.out.2.2.size; simp only [World.size_alloc] at hz; repeat rw [setCell_other (by omega)]
                                                        exact h2⟩
     · exact uq
abbrev PieT : TypeId := 73
theorem piece_info : (Tryz.prog.info? PieT).map (fun i => (i.zero, i.size, i.bytes)) = some (some (.agg #[.string ⟨#[]⟩, .int .i64 0, .bool false]), 3, 32) := by kernel_rfl
set_option maxRecDepth 100000 in
theorem lay_told (A q z g : Nat) (es : Array MapEntry) (clk : Nat) (tv dv : Value) (s : ByteArray) (xs : List (ByteArray × Nat)) (w : World) (hA : w.heap[A]? = some (.cells #[tv, .map (some g), dv] ArT (0, 0))) (hm : w.heap[g]? = some (.map es clk))
   (hE : Entries es Value.string numV xs) (hn : (xs.map (·.1)).Nodup) (hz : xs[z]? = some (s, z)) (hs : (s.toList == []) = false) (ht : w.cell? ⟨q, 7, none⟩ = some (.string s)) (hl : q < w.heap.size) :
   Calls Tryz.prog 48 #[.pointer (some ⟨A, 0, none⟩), .pointer (some ⟨q, 0, none⟩)] w fun e w' => e = .returned (.int .i64 z) ∧ Up w w' := by
 have HA := Lib.hid hA
 have HT := Lib.hid (fun (W : World) (hW : Up w W) => text_up q s hs W ((hW.cells _ _ hl).trans ht))
 have hlk : Hid (∀ W : World, Up w W → (Instr.lookup 100 (.map (some g)) (.string s) true).run Tryz.prog W = .ok (.tuple #[.int .i64 z, .bool true]) W) := fun W hW => (run_lookup_hit (f := numV) Tryz.underlying100 Tryz.underlying9 strKeys (hW.get hm) hE s z z hz hn).1
 have a1 := cell_of hA 1
 have a4 := lt_of_heap hA
 simp only [List.getElem?_toArray, List.getElem?_cons_zero, List.getElem?_cons_succ] at a1
 clear hA hm hE hn hz hs ht hl
 go_enter Tryz.func48, Tryz.ntmps48
 go_wp2_with fail
 go_region_law (first | (go_simp; go_at_call 61; refine (HT.out _ (show Up w _ from uq)).mono ?_; rintro e w3 ⟨rfl, hu3⟩; have u3 : Up w w3 := uq; have a1 := (u3.cells _ _ a4).trans a1; have a4 := Nat.lt_of_lt_of_le a4 u3.size; have hlk := hlk.out w3 u3))
 all_goals (go_wp2_with fail)
 all_goals go_ret
 all_goals exact ⟨rfl, uq⟩
set_option maxRecDepth 100000 in
set_option maxHeartbeats 3200000 in
theorem Pieces_other (N : Nat → Prop) (A i n tcap gr b g : Nat) (es : Array MapEntry) (clk : Nat) (k num : Int) (nm : ByteArray) (pv nv mv : Value) (sz : Nat) (said : ByteArray) (qs zs : List Nat) (xs : List (ByteArray × Nat)) (ns : List ByteArray) (ms : List Bool) (w : World)
   (h : AtH N A i n tcap gr b g es clk (.map none) k num nm pv nv mv sz said qs zs xs ns ms w) (hk : k ≠ 14 ∧ k ≠ 17) :
   Calls Tryz.prog 168 #[.pointer (some ⟨A, 0, none⟩), .int .i64 i] w fun e w' => e = .returned (.tuple #[.slice none 0 0, .int .i64 11]) ∧ Up w w' := by
 have H := Lib.hid h
 have a4 := lt_of_heap h.head
 have hji : (i : Int) < n := by have := h.less; omega
 have k14 : (k == 14) = false := by simpa using hk.1
 have k17 : (k == 17) = false := by simpa using hk.2
 clear h hk
 go_enter Tryz.func168, Tryz.ntmps168
 go_wp2_with (first | (go_at_call 60; refine (has_in (.map none) A n tcap _ _ i H.out.less _ (Up.get (show Up w _ from uq) H.out.head)).mono ?_; rintro e w2 ⟨rfl, hu2⟩; have u2 : Up w w2 := uq; have H2 := Lib.hid (H.out.up u2); have a0 := cell_of H2.out.head 0; have a4 := lt_of_heap H2.out.head; have g0 := H2.out.row.2; simp only [ptrV] at g0; have g4 := H2.out.row.1; have b0 := cell_of H2.out.blk 0; have b4 := lt_of_heap H2.out.blk; simp only [List.getElem?_toArray, List.getElem?_cons_zero, List.getElem?_cons_succ] at a0 b0; clear u2))
 refine bodyPost_ret (v := .tuple #[.slice none 0 0, .int .i64 11]) (by simp [results, Tryz.results168, go_sem]) rfl ?_
 exact ⟨rfl, uq⟩
set_option maxRecDepth 100000 in
set_option maxHeartbeats 3200000 in
theorem Pieces_obj (N : Nat → Prop) (A i n tcap gr b g : Nat) (es : Array MapEntry) (clk : Nat) (dv : Value) (num : Int) (nm : ByteArray) (pv nv mv : Value) (sz : Nat) (said : ByteArray) (qs zs : List Nat) (xs : List (ByteArray × Nat)) (ns : List ByteArray) (ms : List Bool) (w : World)
   (h : AtH N A i n tcap gr b g es clk dv 14 num nm pv nv mv sz said qs zs xs ns ms w) (hln : ns.length = qs.length) (hlm : ms.length = qs.length) :
   Calls Tryz.prog 168 #[.pointer (some ⟨A, 0, none⟩), .int .i64 i] w fun e w' => ∃ v, e = .returned (.tuple #[v, .int .i64 0]) ∧ w'.ownsRow 0 PieT 3 v qs.length ((List.range qs.length).flatMap fun j => [.string (ns.getD j ⟨#[]⟩), .int .i64 (Int.ofNat (zs.getD j 0)), .bool (ms.getD j false)]) ∧ Up w w' := by
 obtain ⟨pa, pcap, hpv, hpc, hpl, hpj⟩ := h.parts
 simp only [List.length_map] at hpv hpc hpl
 subst hpv
 obtain ⟨na, ncap, hnv, _, _⟩ := h.names.form
 obtain ⟨ka, kcap, hkv, _, _⟩ := h.marks.form
 simp only [List.length_map] at hnv hkv
 rw [hln] at hnv
 rw [hlm] at hkv
 subst hnv hkv
 have HJ := Lib.hid hpj
 clear hpj
 have H := Lib.hid h
 have HL := Lib.hid (And.intro hln hlm)
 have a4 := lt_of_heap h.head
 have hji : (i : Int) < n := by have := h.less; omega
 clear h hln hlm
 go_enter Tryz.func168, Tryz.ntmps168
 go_wp2_with (first | (go_at_call 60; refine (has_in dv A n tcap _ _ i H.out.less _ (Up.get (show Up w _ from uq) H.out.head)).mono ?_; rintro e w2 ⟨rfl, hu2⟩; have u2 : Up w w2 := uq; have H2 := Lib.hid (H.out.up u2); have a0 := cell_of H2.out.head 0; have a4 := lt_of_heap H2.out.head; have g0 := H2.out.row.2; simp only [ptrV] at g0; have g4 := H2.out.row.1; have b0 := cell_of H2.out.blk 0; have b3 := cell_of H2.out.blk 3; have b4 := lt_of_heap H2.out.blk; simp only [List.getElem?_toArray, List.getElem?_cons_zero, List.getElem?_cons_succ] at a0 b0 b3))
 go_loopw [7, 43] (fun v i wr => ∃ j : Nat, j ≤ qs.length ∧ i = .int .i64 j ∧ wr.ownsRow 0 PieT 3 v j ((List.range j).flatMap fun j => [.string (ns.getD j ⟨#[]⟩), .int .i64 (Int.ofNat (zs.getD j 0)), .bool (ms.getD j false)]) ∧ (∀ g, v.ownBlock = some g → w2.heap.size ≤ g) ∧ Up w2 wr) (fun _ i _ => qs.length - (intOf i).toNat)
 case atStart => exact ⟨0, Nat.zero_le _, rfl, (show w2.ownsRow 0 PieT 3 (.slice none 0 0) 0 [] from ⟨rfl, .inl ⟨rfl, rfl⟩⟩), (fun g hg => by simp [Value.ownBlock] at hg), Up.refl _⟩
 case round =>
   obtain ⟨j, hj, rfl, hv, hvb, hup⟩ := hrel
   by_cases hlt : j < qs.length
   · have hji2 : (j : Int) < qs.length := by omega
     obtain ⟨q, hqj⟩ : ∃ q, qs[j]? = some q := ⟨_, List.getElem?_eq_getElem hlt⟩
     obtain ⟨z, hzj⟩ : ∃ z, zs[j]? = some z := ⟨_, List.getElem?_eq_getElem (by rw [H.out.len]; exact hlt)⟩
     obtain ⟨nj, hnj⟩ : ∃ x, ns[j]? = some x := ⟨_, List.getElem?_eq_getElem (by rw [HL.out.1]; exact hlt)⟩
     obtain ⟨mj, hmj⟩ : ∃ x, ms[j]? = some x := ⟨_, List.getElem?_eq_getElem (by rw [HL.out.2]; exact hlt)⟩
     obtain ⟨pg, poff, pcs, pfz, rfl, _, hpg, hpc0⟩ := HJ.out j (ptrV q) (by rw [List.getElem?_map, hqj]; rfl)
     have y0 := (hup.cells _ _ (Nat.lt_of_lt_of_le (lt_of_heap hpg) u2.size)).trans ((u2.cells _ _ (lt_of_heap hpg)).trans ((cell_of hpg (poff + j)).trans hpc0))
     have yl : pg < wr.heap.size := Nat.lt_of_lt_of_le (lt_of_heap hpg) (u2.trans hup).size
     simp only [ptrV] at y0
     obtain ⟨va, vcap, rfl⟩ := ownsRow_form hv
     have HV := Lib.hid (And.intro hv (And.intro hvb hup))
     have HR := Lib.hid (H2.out.up hup)
     obtain ⟨s, hs0, hql, hq7, hxz⟩ := HR.out.part j q z hqj hzj
     obtain ⟨ng, noff, _, hne, hnc, hnl, _⟩ := H2.out.names.at_ (j := j) (u := .string nj) (by rw [List.getElem?_map, hnj]; rfl)
     obtain ⟨mg, moff, _, hme, hmc, hml, _⟩ := H2.out.marks.at_ (j := j) (u := .bool mj) (by rw [List.getElem?_map, hmj]; rfl)
     injection hne with hne he1 he2
     injection hme with hme he3 he4
     subst hne hme
     clear he1 he2 he3 he4
     have HY0 := Lib.hid (fun (W : World) (hW : Up wr W) => lay_told A q z g es clk _ dv s xs W (hW.get HR.out.head) (hW.get HR.out.map_) H.out.ents H.out.nodup hxz hs0 ((hW.cells _ _ hql).trans hq7) (Nat.lt_of_lt_of_le hql hW.size))
     have HS : Hid (∀ X : World, Up w2 X → X.cell? ⟨b, 4, none⟩ = some (.slice (some ⟨ng, noff, none⟩) qs.length ncap) ∧ X.cell? ⟨ng, noff + j, none⟩ = some (.string nj) ∧ X.cell? ⟨b, 5, none⟩ = some (.slice (some ⟨mg, moff, none⟩) qs.length kcap) ∧ X.cell? ⟨mg, moff + j, none⟩ = some (.bool mj)) := fun X hX => ⟨cell_of (hX.get H2.out.blk) 4, (hX.cells _ _ hnl).trans hnc, cell_of (hX.get H2.out.blk) 5, (hX.cells _ _ hml).trans hmc⟩
     have HNX : Hid ((List.range (j + 1)).flatMap (fun j => [Value.string (ns.getD j ⟨#[]⟩), .int .i64 (Int.ofNat (zs.getD j 0)), .bool (ms.getD j false)]) = (List.range j).flatMap (fun j => [Value.string (ns.getD j ⟨#[]⟩), .int .i64 (Int.ofNat (zs.getD j 0)), .bool (ms.getD j false)]) ++ [.string nj, .int .i64 z, .bool mj]) := by
       unfold Hid
       rw [List.range_succ, List.flatMap_append]
       simp [List.getD, hnj, hmj, hzj]
     have hx1 := (HS.out wr hup).1
     have hx2 := (HS.out wr hup).2.1
     have hx3 := (HS.out wr hup).2.2.1
     have hx4 := (HS.out wr hup).2.2.2
     obtain ⟨i0, hi, hz0, hz1, hz2⟩ := info_parts piece_info
     clear hqj hzj hnj hmj hv hvb hpg hpc0 hq7 hxz hs0 hnc hmc a0 g0 b0 b3 g4
     go_upto_region 12 with (fail)
     go_region_held3 (fun X => X.cell? ⟨b, 4, none⟩ = some (.slice (some ⟨ng, noff, none⟩) qs.length ncap) ∧ X.cell? ⟨ng, noff + j, none⟩ = some (.string nj) ∧ X.cell? ⟨b, 5, none⟩ = some (.slice (some ⟨mg, moff, none⟩) qs.length kcap) ∧ X.cell? ⟨mg, moff + j, none⟩ = some (.bool mj)) (exact HS.out _ (show Up w2 _ from uq)) (first
       | (go_at_call 48; refine (HY0.out _ (show Up wr _ from uq)).mono ?_; rintro e w3 ⟨rfl, hu3⟩; have u3 : Up wr w3 := uq; have O3 := Lib.hid (And.intro (ownsRow_up HV.out.1 u3) u3))
       | (refine step_append_new rfl _ _ 74 rfl PieT i0 (.agg #[.string ⟨#[]⟩, .int .i64 0, .bool false]) 3 32 Tryz.underlying74 hi hz0 hz1 hz2 rfl (by decide) (.slice va j vcap) j _ rfl (ownsRow_up O3.out.1 uq) _ 1 1 rfl (by first | rfl | (simp; done) | omega) rfl (by intro u hu; have hu2 : u = .string nj ∨ u = .int .i64 z ∨ u = .bool mj := (by simpa using hu); rcases hu2 with hu2 | hu2 | hu2 <;> rw [hu2] <;> rfl) (by have := H.out.few.1; unfold maxLen; omega) (by have := H.out.few.1; omega) ?_; intro sa' cap' w7 hown' hgrow hblk; have U7 : Up w2 w7 := Up.grown (hup.trans (show Up wr _ from uq)) hgrow (fun r e => HV.out.2.1 r e); have HY := Lib.hid (And.intro hown' (And.intro hblk U7)); clear hown' hgrow hblk))
     go_wp2_with fail
     refine ⟨⟨j + 1, by omega, by simp, by rw [HNX.out]; exact HY.out.1, fun g' hg => ?_, HY.out.2.2⟩, by simp [intOf]; omega⟩
     rcases HY.out.2.1 with q2 | ⟨g2, q2, q3⟩
     · exact HV.out.2.1 g' (by rw [← q2]; exact hg)
     · rw [q2] at hg
       cases hg
       have h1 := HV.out.2.2.size
       have h2 := O3.out.2.size
       (try simp only [World.size_alloc] at q3)
       omega
   · obtain rfl : j = qs.length := by omega
     have HV := Lib.hid hv
     obtain ⟨va, vcap, rfl⟩ := ownsRow_form hv
     clear hv hlt
     go_wp2_with fail
     refine bodyPost_ret (v := .tuple #[_, .int .i64 0]) (by simp [results, Tryz.results168, go_sem]; rfl) rfl ?_
     exact ⟨_, rfl, HV.out, uq⟩
theorem Are.reads {w : World} {B A : Nat} {bs : List Nat} {ts : List Ty} {tv mv dv : Value} (h : Are w B A bs ts tv mv dv) {i b : Nat} {t : Ty} (hb : bs[i]? = some b) (ht : ts[i]? = some t) :
   ∃ (gr tcap g : Nat) (es : Array MapEntry) (clk : Nat) (pv nv kv : Value) (said : ByteArray) (qs : List Nat), tv = .slice (some ⟨gr, 0, none⟩) bs.length tcap ∧ mv = .map (some g) ∧ i < bs.length ∧ (gr < w.heap.size ∧ w.cell? ⟨gr, i, none⟩ = some (ptrV b)) ∧
     w.heap[b]? = some (.cells (tyC t.kind t.num t.name pv nv kv t.size said) TyT (0, 0)) ∧ RowOf TpT (fun _ => True) w pv (qs.map ptrV) ∧ w.heap[g]? = some (.map es clk) ∧ Entries es Value.string numV ((ts.map Ty.text).zipIdx) ∧ qs.length = t.parts.length ∧
     (∀ (j q : Nat) (p : Ty), qs[j]? = some q → t.parts[j]? = some p → (p.text.toList == []) = false ∧ q < w.heap.size ∧ w.cell? ⟨q, 7, none⟩ = some (.string p.text) ∧ ((ts.map Ty.text).zipIdx)[idOf ts p]? = some (p.text, idOf ts p)) ∧
     RowV (fun _ => True) w nv (t.names.map .string) ∧ RowV (fun _ => True) w kv (t.marks.map .bool) := by
 have hi : i < bs.length := (List.getElem?_eq_some_iff.1 hb).1
 have hty := h.ty i b t hb ht
 have hask := h.asked i b t hb ht
 have htm : t ∈ ts := List.mem_of_getElem? ht
 obtain ⟨gr, tcap, hgr, hcell⟩ : ∃ gr tcap, tv = .slice (some ⟨gr, 0, none⟩) bs.length tcap ∧ gr < w.heap.size ∧ w.cell? ⟨gr, i, none⟩ = some (ptrV b) := by
   rcases h.row.2 with ⟨_, h0⟩ | ⟨g, cap', cur, hv, _, hg, _⟩
   · omega
   · refine ⟨g, cap', hv, lt_of_heap hg, ?_⟩
     have q := h.row.cells (g := g) (by rw [hv]; rfl) i (ptrV b) (by rw [List.getElem?_map, hb]; rfl)
     rw [Addr.add_lit] at q
     simpa using q
 obtain ⟨g, es, clk, hm1, _, hm2, hm3⟩ : ∃ g es clk, mv = .map (some g) ∧ B ≤ g ∧ w.heap[g]? = some (.map es clk) ∧ Entries es Value.string numV ((ts.map Ty.text).zipIdx) := by
   rcases h.ids with ⟨_, e⟩ | q
   · rw [e] at htm; cases htm
   · exact q
 obtain ⟨pv2, qs2, k1, k2, k3, k4⟩ := hask.parts
 cases hty with
 | mk said pv nv kv qs hB hh hs hp hn hmm hl hq =>
   have e : pv2 = pv := by
     have := (cell_of hh 3).symm.trans k1
     simpa using this.symm
   subst e
   refine ⟨gr, tcap, g, es, clk, pv2, nv, kv, said, qs2, hgr, hm1, hi, hcell, hh, k2.keep fun _ _ _ _ q => ⟨trivial, q⟩, hm2, hm3, k3, fun j q p hj hpj => ?_, ⟨_, hn.keep fun _ _ _ _ q => ⟨trivial, q⟩⟩, ⟨_, hmm.keep fun _ _ _ _ q => ⟨trivial, q⟩⟩⟩
   obtain ⟨q1, q2, q3⟩ := k4 j q p hj hpj
   refine ⟨?_, q1.lt, q2, zip_text (idOf_at (h.closed _ htm p (List.mem_of_getElem? hpj)))⟩
   cases e : p.text.toList with
   | nil => exact absurd (by rw [ByteArray.toList_eq] at e; cases hp2 : p.text with | mk d => rw [hp2] at e; exact congrArg _ (Array.toList_inj.1 e)) q3
   | cons _ _ => rfl
theorem Ty.Valid.lens {t : Ty} (h : t.Valid) : t.names.length ≤ t.parts.length ∧ t.marks.length ≤ t.parts.length := by
 cases h <;> simp [Ty.names, Ty.marks, Ty.parts]
theorem Are.few {w : World} {B A : Nat} {bs : List Nat} {ts : List Ty} {tv mv dv : Value} (h : Are w B A bs ts tv mv dv) {t : Ty} (ht : t ∈ ts) : t.parts.length ≤ 100000 ∧ t.names.length ≤ 100000 ∧ t.marks.length ≤ 100000 := by
 obtain ⟨h1, h2, h3⟩ := h.good t ht
 have hs : Sm t := ⟨by omega, h3⟩
 have hl := h1.lens
 have hp : t.parts.length ≤ 100000 := by
   cases t with
   | mk k n nm ps ns ms => exact hs.length
 omega
structure FindH (M : Nat → Prop) (B A : Nat) (bs : List Nat) (ts : List Ty) (tv mv dv : Value) (zs : List Nat) (us : List Ty) (a : Option Addr) (nm : ByteArray) (nv kv : Value) (ns : List ByteArray) (ms : List Bool) (m : Int) (w : World) : Prop where
 are : Are w B A bs ts tv mv dv
 ids : IdsAt w a zs
 typs : zs.map (fun z => ts[z]?) = us.map some
 fit : Fit us
 glob : GlobB B w
 few : bs.length ≤ 500000
 names : RowV M w nv (ns.map .string)
 marks : RowV M w kv (ms.map .bool)
 ln : ns.length ≤ 2000000
 lm : ms.length ≤ 2000000
 small : ∀ s ∈ ns, s.size ≤ 2000000
 nm : nm.size ≤ 2000000
 max : w.cell? ⟨0, 0, none⟩ = some (.int .i64 m)
def FindR (B A : Nat) (bs : List Nat) (ts : List Ty) (tv mv dv : Value) (w : World) (u : Ty) (e : Ending) (w' : World) : Prop :=
 (e = .returned (.tuple #[.int .i64 0, .int .i64 1]) ∧ Up w w') ∨ (u.Valid ∧ ∃ w2 : World, Memo none1 B w w2 ∧ KeepR B A bs ts tv mv dv w2 u e w')
theorem ownsRow_rowB {N : Nat → Prop} {w : World} {T : TypeId} {v : Value} {n : Nat} {us : List Value} (h : w.ownsRow 0 T 1 v n us) (hN : ∀ g, v.ownBlock = some g → N g) (hl : us.length = n) (hn : n ≤ 1000000000) : RowOf T N w v us := by
 subst hl
 rcases h.2 with ⟨hv, h0⟩ | ⟨g, cap, cur, hv, hB, hg, hc, hu⟩
 · rw [List.length_eq_zero_iff.1 h0, hv]; exact RowOf.nil _ _ _
 · refine ⟨some ⟨g, 0, none⟩, cap, hv, hc, hn, fun j u hj => ⟨g, 0, cur, (0, 0), rfl, hN g (by rw [hv]; rfl), hg, ?_⟩⟩
   have h2 := hu.2.2
   rw [Nat.mul_one] at h2
   rw [← h2, List.getElem?_take] at hj
   split at hj
   · rw [Nat.zero_add, ← Array.getElem?_toList]; exact hj
   · cases hj
theorem KeepR.pair {B A : Nat} {bs : List Nat} {ts : List Ty} {tv mv dv : Value} {w w' : World} {t : Ty} {e : Ending} (h : KeepR B A bs ts tv mv dv w t e w') : ∃ i c : Int, e = .returned (.tuple #[.int .i64 i, .int .i64 c]) := by
 rcases h with ⟨_, i, rfl, _⟩ | ⟨_, rfl, _⟩
 · exact ⟨i, 0, rfl⟩
 · exact ⟨0, 9, rfl⟩
theorem KeepR.memo {B A : Nat} {bs : List Nat} {ts : List Ty} {tv mv dv : Value} {w w' : World} {t : Ty} {e : Ending} (h : KeepR B A bs ts tv mv dv w t e w') : Memo (arS A tv mv) B w w' := by
 rcases h with ⟨_, i, _, i', bs', ts', tv', mv', _, _, hL, _⟩ | ⟨_, _, hu⟩
 · exact hL.memo
 · exact Memo.of_up _ _ hu
theorem FindH.may {M : Nat → Prop} {B A : Nat} {bs : List Nat} {ts : List Ty} {tv mv dv : Value} {zs : List Nat} {us : List Ty} {a : Option Addr} {nm : ByteArray} {nv kv : Value} {ns : List ByteArray} {ms : List Bool} {m : Int} {w : World} (h : FindH M B A bs ts tv mv dv zs us a nm nv kv ns ms m w) {W : World} {v : Value} (hW : Up w W) (hv : W.ownsRow 0 TpT 1 v zs.length (zs.map fun z => ptrV (bs.getD z 0))) :
   MayH (fun x => ¬ arS A tv mv x) M B nm nv kv v (zs.map fun z => bs.getD z 0) us ns ms m W := by
 have hlen : zs.length = us.length := by have := congrArg List.length h.typs; simpa using this
 have hrow := ownsRow_rowOf hv (by simp) (by have := h.fit.len; omega)
 have e : (zs.map fun z => ptrV (bs.getD z 0)) = (zs.map fun z => bs.getD z 0).map ptrV := by rw [List.map_map]; rfl
 rw [e] at hrow
 refine ⟨hrow, by rw [List.length_map]; exact hlen, fun j b t h1 h2 => ?_, h.fit.valid, h.names.up hW, h.marks.up hW, fun s hs => Nat.le_trans (h.small s hs) (by decide), Nat.le_trans h.nm (by decide), (hW.cells _ _ (cell_lt5 h.max)).trans h.max⟩
 rw [List.getElem?_map] at h1
 cases hzj : zs[j]? with
 | none => rw [hzj] at h1; cases h1
 | some z =>
   rw [hzj] at h1
   have h3 : ts[z]? = some t := by
     have := congrArg (·[j]?) h.typs
     simp only [List.getElem?_map, hzj, h2, Option.map_some, Option.some.injEq] at this
     exact this
   have hzl : z < bs.length := by rw [← h.are.len]; exact (List.getElem?_eq_some_iff.1 h3).1
   obtain ⟨b', hb'⟩ : ∃ b, bs[z]? = some b := ⟨_, List.getElem?_eq_getElem hzl⟩
   simp only [Option.map_some, Option.some.injEq, List.getD, hb', Option.getD_some] at h1
   subst h1
   exact (h.are.ty z b' t hb' h3).up hW
def FindG (Pm : Prop) (B A : Nat) (bs : List Nat) (ts : List Ty) (tv mv dv : Value) (w : World) (u : Ty) (e : Ending) (w' : World) : Prop :=
 (Pm ∧ e = .returned (.tuple #[.int .i64 0, .int .i64 1]) ∧ Up w w') ∨ (u.Valid ∧ ∃ w2 : World, Memo none1 B w w2 ∧ KeepR B A bs ts tv mv dv w2 u e w')
set_option maxRecDepth 100000 in
set_option maxHeartbeats 6400000 in
theorem Find_gen (Pm : Prop) (M : Nat → Prop) (B A : Nat) (bs : List Nat) (ts : List Ty) (tv mv dv : Value) (zs : List Nat) (us : List Ty) (a : Option Addr) (cap : Nat) (k n : Int) (nm : ByteArray) (nv kv : Value) (ns : List ByteArray) (ms : List Bool) (m : Int) (w : World) (h : FindH M B A bs ts tv mv dv zs us a nm nv kv ns ms m w) (hgen : ∀ (W : World) (v : Value), Up w W → W.ownsRow 0 TpT 1 v zs.length (zs.map fun z => ptrV (bs.getD z 0)) → Calls Tryz.prog 56 #[typV k n nm (.slice a zs.length cap) nv kv, v] W fun e w' => (∃ b, e = .returned (.bool b) ∧ (b = true → (Ty.mk k n nm us ns ms).Valid) ∧ (b = false → Pm)) ∧ Up W w') :
   Calls Tryz.prog 25 #[.pointer (some ⟨A, 0, none⟩), typV k n nm (.slice a zs.length cap) nv kv] w (FindG Pm B A bs ts tv mv dv w (Ty.mk k n nm us ns ms)) := by
 have H := Lib.hid h
 have HGN := Lib.hid hgen
 have hlen : zs.length = us.length := by have := congrArg List.length h.typs; simpa using this
 have hat : ∀ (j z : Nat) (u : Ty), zs[j]? = some z → us[j]? = some u → ts[z]? = some u := fun j z u h1 h2 => by
   have := congrArg (·[j]?) h.typs
   simp only [List.getElem?_map, h1, h2, Option.map_some, Option.some.injEq] at this
   exact this
 have hr : ∀ z ∈ zs, z < bs.length := fun z hz' => by
   obtain ⟨j, hj⟩ := List.getElem?_of_mem hz'
   have hjl := (List.getElem?_eq_some_iff.1 hj).1
   obtain ⟨u, hu2⟩ : ∃ u, us[j]? = some u := ⟨_, List.getElem?_eq_getElem (by omega)⟩
   have := (List.getElem?_eq_some_iff.1 (hat j z u hj hu2)).1
   rw [← h.are.len]
   exact this
 have a4 := lt_of_heap h.are.head
 have HL := Lib.hid (And.intro hat (And.intro hlen hr))
 obtain ⟨na, ncap, rfl, _, _⟩ := h.names.form
 obtain ⟨ka, kcap, rfl, _, _⟩ := h.marks.form
 have hmay : Hid (∀ (W : World) (v : Value), Up w W → W.ownsRow 0 TpT 1 v zs.length (zs.map fun z => ptrV (bs.getD z 0)) → MayH (fun x => ¬ arS A tv mv x) M B nm (.slice na (ns.map Value.string).length ncap) (.slice ka (ms.map Value.bool).length kcap) v (zs.map fun z => bs.getD z 0) us ns ms m W) := fun W v hW hv => H.out.may hW hv
 clear h hgen hat hlen hr
 simp only [List.length_map] at *
 go_enter Tryz.func25, Tryz.ntmps25
 go_upto_region 1 with (fail)
 refine range_named fun A2 W2 hA2 hW2 => ?_
 have hu0 : Hid (Up w W2) := by subst hW2; exact uq
 obtain ⟨q, hq⟩ : ∃ q, Hid (w.heap.size = q) := ⟨_, rfl⟩
 have HQ : Hid (W2.heap[q]? = some (.cells #[.int .i64 k, .int .i64 n, .string nm, .slice a zs.length cap, .slice na ns.length ncap, .slice ka ms.length kcap] 46 (0, 0))) := by subst hW2; rw [← hq.out]; exact alloc_at _ _ _ rfl
 rw [hq.out] at hA2
 clear hW2
 subst hA2
 have a4 := hu0.out.size
 have hAl : A < W2.heap.size := by omega
 have x0 := cell_of HQ.out 0
 have x1 := cell_of HQ.out 1
 have x2 := cell_of HQ.out 2
 have x3 := cell_of HQ.out 3
 have x4 := cell_of HQ.out 4
 have x5 := cell_of HQ.out 5
 simp only [List.getElem?_toArray, List.getElem?_cons_zero, List.getElem?_cons_succ] at x0 x1 x2 x3 x4 x5
 have xl := lt_of_heap HQ.out
 have hall := Lib.hid (all_in dv A tv mv bs zs a cap W2 (hu0.out.get H.out.are.head) (ownsRow_up H.out.are.row hu0.out) (H.out.ids.up hu0.out) HL.out.2.2 (by have := H.out.fit.len; have := HL.out.2.1; omega))
 go_wp2_with (first
   | (go_at_call 53; refine hall.out.mono ?_; rintro e w3 ⟨v, rfl, h1, h2, hu2⟩; obtain ⟨va, vcap, rfl⟩ := ownsRow_form h1; have HV := Lib.hid (And.intro h1 (And.intro h2 hu2)); have HQ3 := Lib.hid (hu2.get HQ.out); have x0 := cell_of HQ3.out 0; have x1 := cell_of HQ3.out 1; have x2 := cell_of HQ3.out 2; have x3 := cell_of HQ3.out 3; have x4 := cell_of HQ3.out 4; have x5 := cell_of HQ3.out 5; simp only [List.getElem?_toArray, List.getElem?_cons_zero, List.getElem?_cons_succ] at x0 x1 x2 x3 x4 x5; have xl := lt_of_heap HQ3.out; have HMY := Lib.hid (HGN.out w3 _ (hu0.out.trans hu2) h1); clear h1 h2)
   | (go_at_call 56; refine HMY.out.mono ?_; (rintro e w4 ⟨⟨(_ | _), rfl, hk, hkf⟩, hu4⟩ <;> (have HK := Lib.hid (And.intro hk hkf); have HQ4 := Lib.hid (hu4.get HQ3.out); have x0 := cell_of HQ4.out 0; have x1 := cell_of HQ4.out 1; have x2 := cell_of HQ4.out 2; have x3 := cell_of HQ4.out 3; have x4 := cell_of HQ4.out 4; have x5 := cell_of HQ4.out 5; simp only [List.getElem?_toArray, List.getElem?_cons_zero, List.getElem?_cons_succ] at x0 x1 x2 x3 x4 x5; have xl := lt_of_heap HQ4.out; clear hk hkf))))
 · refine bodyPost_ret (v := .tuple #[.int .i64 0, .int .i64 1]) (by simp [results, Tryz.results25, go_sem]) rfl ?_
   exact .inl ⟨HK.out.2 (by first | rfl | trivial), rfl, hu0.out.trans (HV.out.2.2.trans hu4)⟩
 · have hval := HK.out.1 (by first | rfl | trivial)
   have HW := Lib.hid (And.intro (hu0.out.trans (HV.out.2.2.trans hu4)) hval)
   have hN : Hid (Open (fun x => ¬ arS A tv mv x) w) := H.out.are.open_
   have hqS : Hid (¬ arS A tv mv q) := hN.out q (by rw [← hq.out]; exact Nat.le_refl _)
   have hc1 := Lib.hid (fun (W : World) (hW : Up w W) => clone_names M (fun x => ¬ arS A tv mv x) _ ns W (H.out.names.up hW) H.out.ln (hN.out.up hW))
   have hc2 := Lib.hid (fun (W : World) (hW : Up w W) => clone_marks M (fun x => ¬ arS A tv mv x) _ ms W (H.out.marks.up hW) H.out.lm (hN.out.up hW))
   have hrw : Hid (RowOf TpT (fun x => ¬ arS A tv mv x) w3 (.slice va zs.length vcap) ((zs.map fun z => bs.getD z 0).map ptrV)) := by
     unfold Hid
     rw [List.map_map]
     exact ownsRow_rowB HV.out.1 (fun g hg => hN.out g (Nat.le_trans hu0.out.size (HV.out.2.1 g hg))) (by simp) (by have := H.out.fit.len; have := HL.out.2.1; omega)
   have HMM := Lib.hid (hmay.out w3 _ (hu0.out.trans HV.out.2.2) HV.out.1)
   have HU4 := Lib.hid hu4
   clear hval
   go_region_held3 (fun X => X.cell? ⟨q, 0, none⟩ = some (.int .i64 k) ∧ X.cell? ⟨q, 1, none⟩ = some (.int .i64 n) ∧ X.cell? ⟨q, 2, none⟩ = some (.string nm) ∧ X.cell? ⟨q, 4, none⟩ = some (.slice na ns.length ncap) ∧ X.cell? ⟨q, 5, none⟩ = some (.slice ka ms.length kcap)) (((try dsimp only); (repeat' apply And.intro); all_goals (first | go_keep | assumption))) (first | (go_at_call 58; refine (hc1.out _ (HW.out.1.trans uq)).mono ?_; rintro e w5 ⟨nv', rfl, hr5, hu5⟩; obtain ⟨nva, nvc, rfl, _, _⟩ := hr5.form; simp only [List.length_map] at hr5; have HC1 := Lib.hid (And.intro hr5 hu5); have HQ5 := Lib.hid (hu5.get (Up.get (w := w4) uq HQ4.out)); have x0 := cell_of HQ5.out 0; have x1 := cell_of HQ5.out 1; have x2 := cell_of HQ5.out 2; have x4 := cell_of HQ5.out 4; have x5 := cell_of HQ5.out 5; simp only [List.getElem?_toArray, List.getElem?_cons_zero, List.getElem?_cons_succ] at x0 x1 x2 x4 x5; have xl := lt_of_heap HQ5.out; clear hr5) | (go_at_call 59; refine (hc2.out _ (HW.out.1.trans uq)).mono ?_; rintro e w6 ⟨mv', rfl, hr6, hu6⟩; obtain ⟨mva, mvc, rfl, _, _⟩ := hr6.form; simp only [List.length_map] at hr6; have HC2 := Lib.hid (And.intro hr6 hu6); have HQ6 := Lib.hid (hu6.get (Up.get (w := w5) uq HQ5.out)); have x0 := cell_of HQ6.out 0; have x1 := cell_of HQ6.out 1; have x2 := cell_of HQ6.out 2; have x4 := cell_of HQ6.out 4; have x5 := cell_of HQ6.out 5; simp only [List.getElem?_toArray, List.getElem?_cons_zero, List.getElem?_cons_succ] at x0 x1 x2 x4 x5; have xl := lt_of_heap HQ6.out; clear hr6) | (go_at_call 57; refine (made_tree (fun x => ¬ arS A tv mv x) B k n nm (zs.map fun z => bs.getD z 0) us ns ms _ _ _ _ (Nat.le_trans H.out.are.lt (Up.size (HW.out.1.trans (show Up w4 _ from uq)))) (hrw.out.up (HU4.out.trans (show Up w4 _ from uq))) (HC1.out.1.up (show Up w5 _ from uq)) (HC2.out.1.up (show Up w6 _ from uq)) HMM.out.len (HMM.out.up (HU4.out.trans (show Up w4 _ from uq))).tys).mono ?_; rintro e w7 ⟨b7, rfl, hb7, hl7, hu7⟩; have HC3 := Lib.hid (And.intro hb7 hu7); have HQ7 := Lib.hid (hu7.get (Up.get (w := w6) uq HQ6.out)); have x0 := cell_of HQ7.out 0; have x1 := cell_of HQ7.out 1; have x2 := cell_of HQ7.out 2; have x4 := cell_of HQ7.out 4; have x5 := cell_of HQ7.out 5; simp only [List.getElem?_toArray, List.getElem?_cons_zero, List.getElem?_cons_succ] at x0 x1 x2 x4 x5; have xl := lt_of_heap HQ7.out; clear hb7) | (go_at_call 54; refine (keep_any (Ty.mk k n nm us ns ms) HW.out.2 (Ty.namesLe_mk.2 ⟨H.out.nm, H.out.small, H.out.fit.names⟩) B A b7 bs ts tv mv dv _ (H.out.are.up (HW.out.1.trans (show Up w4 _ from uq))) (HC3.out.1.up (show Up w7 _ from uq)) (H.out.glob.memo (Memo.of_up none1 B (HW.out.1.trans (show Up w4 _ from uq)))) (by have h1 := H.out.fit.nodes; have h2 := H.out.few; rw [Ty.nodes_mk]; omega)).mono ?_; intro e w8 hK; obtain ⟨i8, c8, rfl⟩ := hK.pair; have HK8 := Lib.hid hK; have HQ8 := Lib.hid (hK.memo.cells (Up.get (w := w7) uq HQ7.out) (by decide) hqS.out); have x0 := cell_of HQ8.out 0; have x1 := cell_of HQ8.out 1; have x2 := cell_of HQ8.out 2; have x4 := cell_of HQ8.out 4; have x5 := cell_of HQ8.out 5; simp only [List.getElem?_toArray, List.getElem?_cons_zero, List.getElem?_cons_succ] at x0 x1 x2 x4 x5; have xl := lt_of_heap HQ8.out; clear hK))
   all_goals (go_wp2_with fail)
   all_goals refine bodyPost_ret (v := .tuple #[.int .i64 i8, .int .i64 c8]) (by simp [results, Tryz.results25, go_sem]) rfl ?_
   all_goals exact .inr ⟨HW.out.2, _, Memo.of_up _ _ (HW.out.1.trans (show Up w4 _ from uq)), HK8.out⟩
theorem Find_any (M : Nat → Prop) (B A : Nat) (bs : List Nat) (ts : List Ty) (tv mv dv : Value) (zs : List Nat) (us : List Ty) (a : Option Addr) (cap : Nat) (k n : Int) (nm : ByteArray) (nv kv : Value) (ns : List ByteArray) (ms : List Bool) (m : Int) (w : World) (h : FindH M B A bs ts tv mv dv zs us a nm nv kv ns ms m w) (hn1 : -9223372036854775808 ≤ n) (hn2 : n ≤ 9223372036854775807) :
   Calls Tryz.prog 25 #[.pointer (some ⟨A, 0, none⟩), typV k n nm (.slice a zs.length cap) nv kv] w (FindR B A bs ts tv mv dv w (Ty.mk k n nm us ns ms)) := by
 refine (Find_gen True M B A bs ts tv mv dv zs us a cap k n nm nv kv ns ms m w h fun W v hW hv => ?_).mono fun e w' hR => hR.imp (fun q => q.2) id
 refine (may_any _ M B k n nm (.slice a zs.length cap) _ _ _ _ us ns ms m W ⟨a, zs.length, cap, rfl⟩ (h.may hW hv) hn1 hn2).mono ?_
 rintro e w' ⟨⟨b, h1, h2⟩, h3⟩
 exact ⟨⟨b, h1, h2, fun _ => trivial⟩, h3⟩
def tenT : List Ty := (List.range 10).map fun i : Nat => basicT ((i : Int) + 1)
theorem basic_text (k : Int) (h1 : 1 ≤ k) (h2 : k ≤ 10) : (basicT k).text = wordS k := by
 unfold basicT
 rw [Ty.text_mk]
 unfold textK
 rw [if_neg (by omega), if_neg (by omega), if_neg (by omega), if_neg (by omega), if_neg (by omega), if_neg (by omega), if_neg (by omega), if_neg (by omega), if_neg (by omega), if_neg (by omega), if_neg (by omega), if_neg (by omega), if_neg (by omega)]
theorem tenT_text : tenT.map Ty.text = wordsL 10 := by
 unfold tenT wordsL
 rw [List.map_map]
 refine List.map_congr_left fun i hi => ?_
 have := List.mem_range.1 hi
 exact basic_text _ (by omega) (by omega)
theorem tenT_get {i : Nat} {t : Ty} (h : tenT[i]? = some t) : i < 10 ∧ t = basicT ((i : Int) + 1) := by
 unfold tenT at h
 rw [List.getElem?_map] at h
 cases hr : (List.range 10)[i]? with
 | none => rw [hr] at h; cases h
 | some j =>
   rw [hr] at h
   have h2 := List.getElem?_eq_some_iff.1 hr
   obtain ⟨h3, h4⟩ := h2
   rw [List.getElem_range] at h4
   simp only [List.length_range] at h3
   subst h4
   simp only [Option.map_some, Option.some.injEq] at h
   exact ⟨h3, h.symm⟩
theorem leaf_tyS {N : Nat → Prop} {B : Nat} {w : World} {b : Nat} {k : Int} (h1 : 1 ≤ k) (h2 : k ≤ 10) (h : Leaf w b k (wordS k)) (hB : B ≤ b) : TyAt N B w b (basicT k) :=
 TyAt.mk (wordS k) (.slice none 0 0) (.slice none 0 0) (.slice none 0 0) [] hB h (.inr (basic_text k h1 h2).symm) (RowOf.nil _ _ _) (RowOf.nil _ _ _) (RowOf.nil _ _ _) rfl (fun j q p h1 _ => by simp at h1)
theorem Few.are {w : World} {B A : Nat} {bs : List Nat} {g : Nat} {tv : Value} (h : Few w B A bs g tv 10) : Are w B A bs tenT tv (.map (some g)) (.map none) where
 base := h.ar.base
 head := h.ar.head
 row := h.ar.row
 rowB := h.ar.rowB
 ids := by rw [tenT_text]; rcases h.ar.ids with ⟨h9, _⟩ | q
           · cases h9
           · exact .inr q
 len := by rw [h.len]; rfl
 nodup := by rw [tenT_text]; exact h.ar.nodup
 ty i b t h1 h2 := by
   obtain ⟨h3, rfl⟩ := tenT_get h2
   have hs := h.ar.said i b (wordS ((i : Int) + 1)) h1 (by rw [← tenT_text, List.getElem?_map, h2]; simp [basic_text ((i : Int) + 1) (by omega) (by omega)])
   exact leaf_tyS (by omega) (by omega) (h.leaf i b h1) hs.1
 asked i b t h1 h2 := by
   obtain ⟨h3, rfl⟩ := tenT_get h2
   have hl := h.leaf i b h1
   have hv : (basicT ((i : Int) + 1)).Valid := .basic (by omega) (by omega)
   exact ⟨by rw [basic_text _ (by omega) (by omega)]; exact (cell_of hl 7).trans rfl, text_nil hv, .slice none 0 0, [], (cell_of hl 3).trans rfl, RowOf.nil _ _ _, rfl, fun j q p hj _ => by simp at hj⟩
 good t ht := by
   obtain ⟨i, hi⟩ := List.getElem?_of_mem ht
   obtain ⟨h3, rfl⟩ := tenT_get hi
   exact ⟨.basic (by omega) (by omega), by unfold basicT; rw [Ty.nodes_mk]; simp, basicT_names _ _⟩
 closed t ht p hp := by
   obtain ⟨i, hi⟩ := List.getElem?_of_mem ht
   obtain ⟨h3, rfl⟩ := tenT_get hi
   cases hp
end Go.Proofs.YtiaepldmgighbaaGreatDoor
