import Derived.Deep.RegionHeld3
import Derived.Test.YtiaepldmgighbaaGreatDoorM46
import Derived.Test.YtiaepldmgighbaaGreatDoorM28
namespace Go.Proofs.YtiaepldmgighbaaGreatDoor
open Go.RowKit
set_option linter.unusedSimpArgs false
def oneS : ByteArray := ⟨#[49]⟩
theorem itoa_one (w : World) : Calls Tryz.prog 148 #[.int .i64 1] w fun e w' => e = .returned (.string oneS) ∧ Up w w' := by
 refine (Tryz.strconv_Itoa_small 1 (by decide) w).mono ?_
 rintro e w' ⟨rfl, rfl⟩
 exact ⟨by rw [Lib.decDigits_one (by decide)]; rfl, Up.refl _⟩
set_option maxRecDepth 100000 in
set_option maxHeartbeats 1600000 in
theorem may_one (w : World) : Calls Tryz.prog 56 #[tyV 11 1 ⟨#[]⟩, .slice none 0 0] w fun e w' => e = .returned (.bool true) ∧ Up w w' := by
 go_enter Tryz.func56, Tryz.ntmps56
 go_wp2_with fail
 refine range_named fun A1 W1 hA1 hW1 => ?_
 have hb : W1.heap[w.heap.size]? = some (.cells #[.int .i64 11, .int .i64 1, .string ⟨#[]⟩, .slice none 0 0, .slice none 0 0, .slice none 0 0] 46 (0, 0)) := by rw [hW1]; exact alloc_get _ _
 have hu1 : Up w W1 := by rw [hW1]; exact uq
 clear hW1
 subst hA1
 have q4 : ∀ i : RUp W1, i.W.cell? ⟨w.heap.size, 4, none⟩ = some (.slice none 0 0) := fun i => cell_of (i.up.get hb) 4
 have q5 : ∀ i : RUp W1, i.W.cell? ⟨w.heap.size, 5, none⟩ = some (.slice none 0 0) := fun i => cell_of (i.up.get hb) 5
 refine wp_region_rup (by kernel_rfl) (by kernel_rfl) ?_
 repeat (go_big_quiet_step (fail))
 refine wpQuiet_nil ?_
 intro w6 hw'
 obtain ⟨i6, hw''⟩ := hw'
 have hu6 : Up W1 w6 := by rw [hw'']; exact i6.up
 clear hw'' i6 q4 q5
 have s0 := hu6.get hb
 have q0 := cell_of s0 0; have p0 := ice_of s0 0; have q1 := cell_of s0 1; have p1 := ice_of s0 1; have q2 := cell_of s0 2; have p2 := ice_of s0 2; have q3 := cell_of s0 3; have p3 := ice_of s0 3; have q4 := cell_of s0 4; have p4 := ice_of s0 4; have q5 := cell_of s0 5; have p5 := ice_of s0 5; have q9 := lt_of_heap s0; (try simp only [World.size_alloc, List.getElem?_toArray, List.getElem?_cons_zero, List.getElem?_cons_succ] at q0 q1 q2 q3 q4 q5 p0 p1 p2 p3 p4 p5 q9); clear s0
 clear hb
 go_wp2_with fail
 go_ret
 exact ⟨rfl, uq⟩
set_option maxRecDepth 100000 in
set_option maxHeartbeats 1600000 in
theorem all_nil (A : Nat) (w : World) : Calls Tryz.prog 53 #[.pointer (some ⟨A, 0, none⟩), .slice none 0 0] w fun e w' => e = .returned (.tuple #[.slice none 0 0, .bool true]) ∧ Up w w' := by
 go_enter Tryz.func53, Tryz.ntmps53
 go_wp2_with fail
 refine wp_loop_rounds 1 ?_
 rw [rounds_succ]
 go_wp2_with fail
 refine bodyPost_ret (v := .tuple #[.slice none 0 0, .bool true]) (by simp [results, Tryz.results53, go_sem]) rfl ?_
 exact ⟨rfl, uq⟩
set_option maxRecDepth 100000 in
set_option maxHeartbeats 1600000 in
theorem spelled_one (b : Nat) (w : World) (h : w.heap[b]? = some (.cells (leafT 11 1 ⟨#[]⟩ ⟨#[]⟩) TyT (0, 0))) : Calls Tryz.prog 101 #[.pointer (some ⟨b, 0, none⟩)] w fun e w' => e = .returned (.string oneS) ∧ Up w w' := by
 have a0 := cell_of h 0
 have a1 := cell_of h 1
 have al := lt_of_heap h
 simp only [List.getElem?_toArray, List.getElem?_cons_zero, List.getElem?_cons_succ] at a0 a1
 clear h
 go_enter Tryz.func101, Tryz.ntmps101
 go_wp2_with (first | (go_at_call 148; refine (itoa_one _).mono ?_; rintro e w2 ⟨rfl, hu2⟩))
 go_ret
 exact ⟨rfl, uq⟩
theorem one_new : oneS ∉ wordsL 10 := by
 intro hm
 have hm := List.mem_map_of_mem (f := fun s : ByteArray => s.data.toList) hm
 exact absurd hm (by decide +kernel)
structure Eleven (w : World) (B A : Nat) (bs : List Nat) (g c : Nat) (tv : Value) : Prop where
 ar : Ar w B A (bs ++ [c]) (wordsL 10 ++ [oneS]) tv (.map (some g))
 len : bs.length = 10
 leaf : ∀ (i b : Nat), bs[i]? = some b → Leaf w b ((i : Int) + 1) (wordS ((i : Int) + 1))
 one : w.heap[c]? = some (.cells (leafT 11 1 ⟨#[]⟩ oneS) TyT (0, 0))
theorem lay_one (B A g b : Nat) (bs : List Nat) (tv : Value) (w : World) (h : Few w B A bs g tv 10) (hb : w.heap[b]? = some (.cells (leafT 11 1 ⟨#[]⟩ ⟨#[]⟩) TyT (0, 0))) (hbB : B ≤ b) (hbn : b ∉ bs) :
   Calls Tryz.prog 48 #[.pointer (some ⟨A, 0, none⟩), .pointer (some ⟨b, 0, none⟩)] w fun e w' => ∃ n : Nat, e = .returned (.int .i64 n) ∧ n = 10 ∧ (∃ tv', Eleven w' B A bs g b tv') ∧ LayK B A b tv w w' := by
 have htx := text_new b oneS _ w hb rfl (fun X hX => spelled_one b X (hX.get hb))
 refine (lay_new B A b g bs (wordsL 10) tv oneS _ (.slice none 0 0) [] _ w h.ar hb hbB hbn htx (by rintro cs rfl; exact ⟨rfl, rfl⟩) (by decide +kernel) one_new (Parts.nil _) (by simp) (by intro g' off cap he; cases he) (by rw [h.len]; decide)).mono ?_
 rintro e w' ⟨rfl, ⟨tv', hA⟩, ⟨cs, h2, rfl⟩, hk⟩
 refine ⟨bs.length, rfl, h.len, ⟨tv', hA, h.len, fun i c hc => ?_, h2⟩, hk⟩
 have q := h.leaf i c hc
 refine hk.kept c _ _ _ (fun e => ?_) (fun e => ?_) (fun e => hbn (by rw [← e]; exact List.mem_of_getElem? hc)) q
 · have q2 := h.ar.head
   rw [← e, show w.heap[c]? = _ from q] at q2
   injection q2 with q2
   injection q2 with _ q2 _
   exact absurd q2 (by decide)
 · rcases h.ar.row.2 with ⟨hv, _⟩ | ⟨g', cap, cur, hv, _, hc2, _⟩
   · rw [hv] at e; cases e
   · rw [hv] at e
     have e : g' = c := by simpa [Value.ownBlock] using e
     rw [e, show w.heap[c]? = _ from q] at hc2
     injection hc2 with q2
     injection q2 with _ q2 _
     exact absurd q2 (by decide)
set_option maxRecDepth 100000 in
set_option maxHeartbeats 3200000 in
theorem Find_one (B A g : Nat) (bs : List Nat) (tv : Value) (w : World) (h : Few w B A bs g tv 10) :
   Calls Tryz.prog 25 #[.pointer (some ⟨A, 0, none⟩), tyV 11 1 ⟨#[]⟩] w fun e w' => e = .returned (.tuple #[.int .i64 10, .int .i64 0]) ∧ (∃ c tv', Eleven w' B A bs g c tv') ∧ Below B w w' := by
 have HF := Lib.hid h
 have hAl := lt_of_heap h.ar.head
 have hBw : B ≤ w.heap.size := Nat.le_trans h.ar.base (Nat.le_of_lt (lt_of_heap h.ar.head))
 clear h
 go_enter Tryz.func25, Tryz.ntmps25
 go_wp2_with (first | (go_at_call 53; refine (all_nil A _).mono ?_; rintro e w2 ⟨rfl, hu2⟩; have u2 : Up w w2 := uq; have s0 := hu2.get (alloc_get w (.cells #[.int .i64 11, .int .i64 1, .string ⟨#[]⟩, .slice none 0 0, .slice none 0 0, .slice none 0 0] 46)); have q0 := cell_of s0 0; have p0 := ice_of s0 0; have q1 := cell_of s0 1; have p1 := ice_of s0 1; have q2 := cell_of s0 2; have p2 := ice_of s0 2; have q3 := cell_of s0 3; have p3 := ice_of s0 3; have q4 := cell_of s0 4; have p4 := ice_of s0 4; have q5 := cell_of s0 5; have p5 := ice_of s0 5; have q9 := lt_of_heap s0; (try simp only [World.size_alloc, List.getElem?_toArray, List.getElem?_cons_zero, List.getElem?_cons_succ] at q0 q1 q2 q3 q4 q5 p0 p1 p2 p3 p4 p5 q9); clear s0) | (go_at_call 56; refine (may_one _).mono ?_; rintro e w3 ⟨rfl, hu3⟩; have u3 : Up w w3 := uq; have s0 := hu3.get (hu2.get (alloc_get w (.cells #[.int .i64 11, .int .i64 1, .string ⟨#[]⟩, .slice none 0 0, .slice none 0 0, .slice none 0 0] 46))); have q0 := cell_of s0 0; have p0 := ice_of s0 0; have q1 := cell_of s0 1; have p1 := ice_of s0 1; have q2 := cell_of s0 2; have p2 := ice_of s0 2; have q3 := cell_of s0 3; have p3 := ice_of s0 3; have q4 := cell_of s0 4; have p4 := ice_of s0 4; have q5 := cell_of s0 5; have p5 := ice_of s0 5; have q9 := lt_of_heap s0; (try simp only [World.size_alloc, List.getElem?_toArray, List.getElem?_cons_zero, List.getElem?_cons_succ] at q0 q1 q2 q3 q4 q5 p0 p1 p2 p3 p4 p5 q9); clear s0) | (go_at_call 58; refine (Tryz.slices_Clone_nil_f58 _ _ _).mono ?_; rintro e w4 ⟨rfl, rfl⟩) | (go_at_call 59; refine (Tryz.slices_Clone_nil_f59 _ _ _).mono ?_; rintro e w5 ⟨rfl, rfl⟩) | (go_at_call 57; refine (made_any 11 1 ⟨#[]⟩ (.slice none 0 0) (.slice none 0 0) (.slice none 0 0) [] _ (Parts.nil _) ⟨_, _, _, rfl⟩ ⟨_, _, _, rfl⟩).mono ?_; rintro e w6 ⟨b, rfl, hb6, hl6, hu6⟩))
 have S3 := Lib.hid (hu3.get (hu2.get (alloc_get w (.cells #[.int .i64 11, .int .i64 1, .string ⟨#[]⟩, .slice none 0 0, .slice none 0 0, .slice none 0 0] 46))))
 go_region_held3 (fun W => W.cell? ⟨w.heap.size, 0, none⟩ = some (.int .i64 11) ∧ W.cell? ⟨w.heap.size, 1, none⟩ = some (.int .i64 1) ∧ W.cell? ⟨w.heap.size, 2, none⟩ = some (.string ⟨#[]⟩) ∧ W.cell? ⟨w.heap.size, 4, none⟩ = some (.slice none 0 0) ∧ W.cell? ⟨w.heap.size, 5, none⟩ = some (.slice none 0 0)) (go_keep) (first | (go_at_call 58; refine (Tryz.slices_Clone_nil_f58 _ _ _).mono ?_; rintro e w4 ⟨rfl, rfl⟩) | (go_at_call 59; refine (Tryz.slices_Clone_nil_f59 _ _ _).mono ?_; rintro e w5 ⟨rfl, rfl⟩) | (go_at_call 57; refine (made_any 11 1 ⟨#[]⟩ (.slice none 0 0) (.slice none 0 0) (.slice none 0 0) [] _ (Parts.nil _) ⟨_, _, _, rfl⟩ ⟨_, _, _, rfl⟩).mono ?_; rintro e w6 ⟨b, rfl, hb6, hl6, hu6⟩; have u6 : Up w w6 := u3.trans (Up.trans (Up.drew (Up.refl _)) hu6); have hb6 : w6.heap[b]? = some (.cells (leafT 11 1 ⟨#[]⟩ ⟨#[]⟩) TyT (0, 0)) := hb6; have hbl2 : w.heap.size < b := Nat.lt_of_lt_of_le (lt_of_heap S3.out) hl6; have hbl : w.heap.size ≤ b := Nat.le_of_lt hbl2; have s0 := (Up.trans (Up.drew (Up.refl w3)) hu6).get S3.out; have q0 := cell_of s0 0; have p0 := ice_of s0 0; have q1 := cell_of s0 1; have p1 := ice_of s0 1; have q2 := cell_of s0 2; have p2 := ice_of s0 2; have q3 := cell_of s0 3; have p3 := ice_of s0 3; have q4 := cell_of s0 4; have p4 := ice_of s0 4; have q5 := cell_of s0 5; have p5 := ice_of s0 5; have q9 := lt_of_heap s0; (try simp only [World.size_alloc, List.getElem?_toArray, List.getElem?_cons_zero, List.getElem?_cons_succ] at q0 q1 q2 q3 q4 q5 p0 p1 p2 p3 p4 p5 q9); clear s0) | (go_at_call 54; refine (keep_small A b 1 _ (fun n w' => n = 10 ∧ (∃ tv', Eleven w' B A bs g b tv') ∧ LayK B A b tv w6 w') _ hb6 rfl (by decide) (lay_one B A g b bs tv _ (HF.out.up u6) hb6 (Nat.le_trans hBw hbl) (HF.out.old hbl))).mono ?_; rintro e w7 ⟨n, rfl, rfl, hE, hl7⟩; have s0 := hl7.kept w.heap.size _ _ _ (by omega) (fun e => by have := HF.out.ar.row.lt _ e; omega) (by omega) ((Up.trans (Up.drew (Up.refl w3)) hu6).get S3.out); have q0 := cell_of s0 0; have p0 := ice_of s0 0; have q1 := cell_of s0 1; have p1 := ice_of s0 1; have q2 := cell_of s0 2; have p2 := ice_of s0 2; have q3 := cell_of s0 3; have p3 := ice_of s0 3; have q4 := cell_of s0 4; have p4 := ice_of s0 4; have q5 := cell_of s0 5; have p5 := ice_of s0 5; have q9 := lt_of_heap s0; (try simp only [World.size_alloc, List.getElem?_toArray, List.getElem?_cons_zero, List.getElem?_cons_succ] at q0 q1 q2 q3 q4 q5 p0 p1 p2 p3 p4 p5 q9); clear s0))
 all_goals go_wp2_with fail
 all_goals refine bodyPost_ret (v := .tuple #[.int .i64 10, .int .i64 0]) (by simp [results, Tryz.results25, go_sem]) rfl ?_
 all_goals exact ⟨rfl, ⟨b, hE⟩, Below.trans (Below.mono u6 hBw) hl7.low⟩
theorem leaves_of {w : World} {B A N : Nat} {bs : List Nat} {ws : List ByteArray} {tv mv : Value} {kd : Nat → Int} (h : Ar w B A bs ws tv mv) (hl : bs.length = N) (hN : 0 < N) (hf : N ≤ 1000000) (hk : ∀ (i b : Nat), bs[i]? = some b → ∃ n nm s, w.heap[b]? = some (.cells (leafT (kd i) n nm s) TyT (0, 0)) ∧ 1 ≤ kd i ∧ kd i ≤ 12) : Leaves w A N kd ∧ HeadIs w A N := by
 obtain ⟨gr, cap, cur, rfl, hgr, _, hcur⟩ := row_cells_gen h.row (by omega)
 have hh := h.head
 rw [hl] at hh
 refine ⟨⟨fun i hi => ?_, hf⟩, _, _, _, hh⟩
 obtain ⟨b, hb⟩ : ∃ b, bs[i]? = some b := ⟨_, List.getElem?_eq_getElem (by omega)⟩
 obtain ⟨n, nm, s, h1, h2⟩ := hk i b hb
 have q := hcur i (ptrV b) (by rw [List.getElem?_map, hb]; rfl)
 rw [Nat.zero_add] at q
 exact ⟨n, nm, ⟨gr, N, cap, b, mv, s, cur, hh, hi, hgr, q, h1⟩, h2⟩
theorem Few.leaves {w : World} {B A g : Nat} {bs : List Nat} {tv : Value} (h : Few w B A bs g tv 10) : Leaves w A 10 (fun i => (i : Int) + 1) ∧ HeadIs w A 10 :=
 leaves_of h.ar h.len (by decide) (by decide) fun i b hb => ⟨0, ⟨#[]⟩, _, h.leaf i b hb, by omega, by have := (List.getElem?_eq_some_iff.1 hb).1; have := h.len; omega⟩
theorem Eleven.leaves {w : World} {B A g c : Nat} {bs : List Nat} {tv : Value} (h : Eleven w B A bs g c tv) : Leaves w A 11 (fun i => (i : Int) + 1) ∧ HeadIs w A 11 :=
 leaves_of h.ar (by rw [List.length_append, h.len]; rfl) (by decide) (by decide) fun i b hb => by
   have hl := h.len
   rcases Nat.lt_or_ge i bs.length with hi | hi
   · rw [List.getElem?_append_left hi] at hb
     exact ⟨0, ⟨#[]⟩, _, h.leaf i b hb, by omega, by omega⟩
   · have e : i = bs.length := by
       have := (List.getElem?_eq_some_iff.1 hb).1
       rw [List.length_append] at this
       simp at this
       omega
     rw [e, List.getElem?_append_right (Nat.le_refl _), Nat.sub_self] at hb
     simp at hb
     subst hb
     rw [e, hl]
     exact ⟨1, ⟨#[]⟩, oneS, h.one, by omega, by omega⟩
theorem Leaves.up {w w' : World} {A N : Nat} {kd : Nat → Int} (h : Leaves w A N kd) (u : Up w w') : Leaves w' A N kd := ⟨fun i hi => let ⟨n, nm, h1, h2⟩ := h.at_ i hi; ⟨n, nm, h1.up u, h2⟩, h.few⟩
theorem HeadIs.up {w w' : World} {A N : Nat} (h : HeadIs w A N) (u : Up w w') : HeadIs w' A N := let ⟨ta, tcap, mv, hA⟩ := h; ⟨ta, tcap, mv, u.get hA⟩
set_option maxRecDepth 100000 in
set_option maxHeartbeats 3200000 in
theorem known_any (w : World) : Calls Tryz.prog 20 #[] w fun e w' => e = .returned (.bool true) ∧ Up w w' := by
 go_enter Tryz.func20, Tryz.ntmps20
 go_wp2_with fail
 go_at_call 17
 refine (New_any _).mono ?_
 rintro e w2 ⟨A, bs, g, tv, rfl, hf, hu2⟩
 have HF := Lib.hid hf
 clear hf
 go_wp2_with fail
 refine (Find_one w.heap.size A g bs tv _ HF.out).mono ?_
 rintro e w3 ⟨rfl, ⟨c, tv', hE⟩, hb3⟩
 have HE := Lib.hid hE.leaves
 have hW : Hid (Up w w3) := Below.trans hu2 hb3
 have hc1 : Hid (∀ W, Up w3 W → Calls Tryz.prog 16 #[.pointer (some ⟨A, 0, none⟩), .int .i64 10, .int .i64 6] W fun e W' => e = .returned (.tuple #[.bool true, .int .i64 0]) ∧ Up W W') := fun W hW => (Assignable_leaf A 11 10 6 _ W (HE.out.1.up hW) (HE.out.2.up hW) (by decide) (by decide)).mono fun e W' ⟨h1, h2⟩ => ⟨h1.trans (by rw [show ansK (decide ((10 : Nat) = 6)) (((10 : Nat) : Int) + 1) (((6 : Nat) : Int) + 1) = true by decide +kernel]), h2⟩
 have hc2 : Hid (∀ W, Up w3 W → Calls Tryz.prog 16 #[.pointer (some ⟨A, 0, none⟩), .int .i64 6, .int .i64 10] W fun e W' => e = .returned (.tuple #[.bool false, .int .i64 0]) ∧ Up W W') := fun W hW => (Assignable_leaf A 11 6 10 _ W (HE.out.1.up hW) (HE.out.2.up hW) (by decide) (by decide)).mono fun e W' ⟨h1, h2⟩ => ⟨h1.trans (by rw [show ansK (decide ((6 : Nat) = 10)) (((6 : Nat) : Int) + 1) (((10 : Nat) : Int) + 1) = false by decide +kernel]), h2⟩
 have hc3 : Hid (∀ W, Up w3 W → Calls Tryz.prog 35 #[.pointer (some ⟨A, 0, none⟩), .int .i64 10, .int .i64 6, .int .i64 9] W fun e W' => e = .returned (.int .i64 1) ∧ Up W W') := fun W hW => Pairs_leaf A 11 10 6 9 _ W (HE.out.1.up hW) (HE.out.2.up hW) (by decide) (by decide) (by decide) (by decide)
 clear hE hb3 hu2
 go_wp2_with fail
 refine (hc1.out _ uq).mono ?_
 rintro e w4 ⟨rfl, hu4⟩
 go_wp2_with fail
 refine (hc2.out _ uq).mono ?_
 rintro e w5 ⟨rfl, hu5⟩
 go_wp2_with fail
 refine (hc3.out _ uq).mono ?_
 rintro e w6 ⟨rfl, hu6⟩
 go_wp2_with fail
 go_ret
 exact ⟨rfl, Up.trans hW.out uq⟩
end Go.Proofs.YtiaepldmgighbaaGreatDoor
