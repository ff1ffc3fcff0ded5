import Derived.Test.YtiaepldmgighbaaGreatDoorM40
namespace Go.Proofs.YtiaepldmgighbaaGreatDoor
open Go.RowKit
set_option linter.unusedSimpArgs false
attribute [local go_sem] Oper.semAt_some
structure PaI (w : World) (N0 most c : Nat) (t : Tags) (W : World) : Prop where
 up : Up w W
 lt : w.heap.size < N0
 mb : W.heap[w.heap.size]? = some (.cells #[.int .i64 most] IntT (0, 0))
 nb : W.heap[N0]? = some (.cells #[.int .i64 c] IntT (0, 0))
 le : c ≤ most
 mine : ∀ b, b = w.heap.size ∨ b = N0 → ¬ t.own b ∧ ¬ t.kept b
 onew : ∀ b, t.own b → w.heap.size ≤ b
theorem PaI.step {w : World} {N0 most c : Nat} {t t' : Tags} {W W' : World} (h : PaI w N0 most c t W) (k : Steps t t' W W') : PaI w N0 most c t' W' where
 up := ⟨k.os.trans h.up.os, k.tape.trans h.up.tape, k.output.trans h.up.output, Nat.le_trans h.up.size k.size, fun b hb => (k.same b (Nat.lt_of_lt_of_le hb h.up.size) (fun e => by have := h.onew b e; omega)).trans (h.up.block b hb)⟩
 lt := h.lt
 mb := (k.same _ (lt_of_heap h.mb) (h.mine _ (.inl rfl)).1).trans h.mb
 nb := (k.same _ (lt_of_heap h.nb) (h.mine _ (.inr rfl)).1).trans h.nb
 le := h.le
 mine b hb := by
   have hlt : b < W.heap.size := by
     rcases hb with rfl | rfl
     · exact lt_of_heap h.mb
     · exact lt_of_heap h.nb
   refine ⟨fun e => ?_, fun e => ?_⟩
   · rcases k.news b e with q | q
     · exact (h.mine b hb).1 q
     · omega
   · rcases k.keeps b e with q | q
     · exact (h.mine b hb).2 q
     · omega
 onew b hb := by
   rcases k.news b hb with q | q
   · exact h.onew b q
   · exact Nat.le_trans h.up.size q
set_option maxRecDepth 100000 in
set_option maxHeartbeats 6400000 in
theorem Pairs_any (A N x y most : Nat) (G : Pr → Que) (V : Pr → Prop) (w : World) (hA : AsksAny A G V (fun b => b < w.heap.size) w) (hL : LenAny A N (fun b => b < w.heap.size) w) (hV : V (x, y)) (hx : x < N) (hy : y < N) (hmo : most ≤ 1000000) :
   Calls Tryz.prog 35 #[.pointer (some ⟨A, 0, none⟩), .int .i64 x, .int .i64 y, .int .i64 most] w fun e w' => e = .returned (.int .i64 (min (reachL G most (x, y)).length most : Nat)) ∧ Up w w' := by
 have HA := Lib.hid (And.intro hA (And.intro hL hV))
 have hxi : (x : Int) < N := by omega
 have hyi : (y : Int) < N := by omega
 clear hA hL hV
 refine callsIn_wide.1 (callsIn_of_wp_marks (n := 2) Tryz.func35 rfl trivial ?_)
 refine wpIn_wide.2 ?_
 simp only [Tryz.ntmps35, List.size_toArray, List.length_cons, List.length_nil, Nat.reduceAdd, Nat.reduceSub, Array.replicate_succ, Array.replicate_zero, List.push_toArray, List.append_toArray, List.nil_append, List.cons_append]
 go_wp2_with (first | (go_at_call 45; refine (HA.out.2.1.2 _ (.up uq fun b hb => hb)).mono ?_; rintro e w2 ⟨rfl, hu2⟩; have u2 : Up (w.alloc (.cells #[.int .i64 most] IntT)) w2 := uq; have zb := u2.get (alloc_get w (.cells #[.int .i64 most] IntT)); have z0 := cell_of zb 0; have z4 := lt_of_heap zb; simp only [List.getElem?_toArray, List.getElem?_cons_zero] at z0) | (go_at_call 46; refine (reached_any A x y most _).mono ?_; rintro e w3 ⟨fb, mb, kb, rfl, hfb, hmb, hkb, hfl, hml, hkl, hu3⟩))
 refine range_named fun A2 W2 hA2 hW2 => ?_
 subst hW2
 obtain ⟨N0, hN0⟩ : ∃ N0, w2.heap.size = N0 := ⟨_, rfl⟩
 have e4 : (w2.alloc (.cells #[.int .i64 0] IntT)).heap.size = N0 + 1 := by simp [hN0]
 rw [e4] at hfl hml hkl
 have hw : Up w W2 := Up.trans (Up.trans uq u2) (Up.trans uq hu3)
 have hnb : W2.heap[N0]? = some (.cells #[.int .i64 (0 : Nat)] IntT (0, 0)) := by rw [← hN0]; exact hu3.get (alloc_get _ _)
 have hmbx : W2.heap[w.heap.size]? = some (.cells #[.int .i64 most] IntT (0, 0)) := (Up.trans uq hu3).get zb
 have hwn : w.heap.size < N0 := by rw [← hN0]; exact z4
 obtain ⟨t0, ht0⟩ : ∃ t0 : Tags, t0 = ⟨fun _ => False, fun b => b < w.heap.size ∨ b = fb ∨ b = mb ∨ b = kb⟩ := ⟨_, rfl⟩
 have h0 : PaI w N0 most 0 t0 W2 := by
   subst ht0
   exact ⟨hw, hwn, hmbx, hnb, Nat.zero_le _, fun b hb => ⟨fun e => e, fun e => by rcases hb with rfl | rfl <;> rcases e with e | e | e | e <;> omega⟩, fun b hb => hb.elim⟩
 have H0 := Lib.hid h0
 have hkept : ∀ b, t0.own b ∨ t0.kept b → b < W2.heap.size := fun b hb => by
   subst ht0
   rcases hb with hb | hb
   · exact hb.elim
   · rcases hb with hb | rfl | rfl | rfl
     · exact Nat.lt_of_lt_of_le hb hw.size
     · exact lt_of_heap hfb
     · exact lt_of_heap hmb
     · exact lt_of_heap hkb
 have hA3 : AsksAny A G V t0.kept W2 := by
   subst ht0
   exact (HA.out.1.later (.up hw fun b hb => hb)).mono fun b hb => .inl hb
 have hseq := reached_tells fb mb kb A most (x, y) G V t0 W2 hfb hmb hkb hA3 HA.out.2.2 (fun b hb => hkept b (.inr hb)) (fun b hb => by subst ht0; exact hb) (by subst ht0; exact ⟨.inr (.inl rfl), .inr (.inr (.inl rfl)), .inr (.inr (.inr rfl))⟩) hmo
 have HK := Lib.hid hkept
 rw [hN0] at hA2
 clear hfb hmb hkb hfl hml hkl hu3 hw hnb hmbx hwn e4 h0 hkept hA3 ht0 zb z0 z4 u2
 refine (wpIn_wide (n := 2)).1 ?_
 refine range_tells rfl (by omega) (gf := reachedF) (lb := #[.pointer (some ⟨fb, 0, none⟩), .pointer (some ⟨mb, 0, none⟩), .pointer (some ⟨kb, 0, none⟩)]) (by subst hA2; rfl) trivial (enters_of Tryz.func86 (by kernel_rfl) rfl) hseq HK.out (fun _ => rfl)
   (fun x t W W' hu h => ⟨h.1.up hu, h.2⟩) (fun x t t' W l o o' hl hc hn hk h => told_put hl hc hn hk h)
   (fun ys t W => PaI w N0 most ys.length t W) (fun c ys t W => c = .exit 0 ∧ most < ys.length ∧ PaI w N0 most most t W)
   (fun s t t' W W' h k => h.step k) (fun c s t t' W W' h k => ⟨h.1, h.2.1, h.2.2.step k⟩) H0.out
   (fun x m => { tmps := ((A2.tmps.setIfInBounds 43 (.agg #[.int .i64 x.p.1, .int .i64 x.p.2])).setIfInBounds 44 (.agg #[.bool (G x.p).known, .bool (G x.p).yes, .bool (G x.p).all, .bool (G x.p).hard, .slice x.va (G x.p).pairs.length x.vc])), defers := [] })
   (fun x m W => True) (fun x m W l o hl h => h) ?assign ?body ?done ?stop
 case assign =>
   intro l x W K hK
   subst hA2
   simp only [toldV, pairK, QV, Told.v]
   simp only [List.setIfInBounds_toArray, List.set_cons_succ, List.set_cons_zero] at hK
   gi_wp2
   simpa using hK _ (Up.refl _) trivial
 case body =>
   rintro l pre x own W0 W hI0 hst hpx - hkl hpl
   have hI := Lib.hid (hI0.step hst)
   subst hA2
   simp only [List.setIfInBounds_toArray, List.set_cons_succ, List.set_cons_zero]
   have n0 := cell_of hI.out.nb 0
   have nf := ice_of hI.out.nb 0
   have nl := lt_of_heap hI.out.nb
   have m0 := cell_of hI.out.mb 0
   have ml := lt_of_heap hI.out.mb
   simp only [List.getElem?_toArray, List.getElem?_cons_zero] at n0 m0
   have hle := hI.out.le
   have hli : (pre.length : Int) ≤ most := by omega
   have hmi : (most : Int) ≤ 1000000 := by omega
   clear hI0 hst hpx
   by_cases hf : pre.length = most
   · have hf2 := Lib.hid hf
     rw [hf] at n0
     have e1 : ((most : Int) == (most : Int)) = true := by simp
     clear hf
     gi_wp2
     exact ⟨KeepOwn.refl _ _, rfl, by rw [List.length_append, hf2.out]; simp, by have q := hI.out; rw [hf2.out] at q; exact q⟩
   · have e1 : ((pre.length : Int) == (most : Int)) = false := by simp; omega
     gi_wp2
     have q := setCell_block (i := 0) hI.out.nb (.int .i64 ((pre ++ [x]).length : Nat))
     have e2 : ((pre.length : Int) + 1) = (((pre ++ [x]).length : Nat) : Int) := by rw [List.length_append]; simp
     rw [e2]
     have hm := hI.out.mine
     have hlt := hI.out.lt
     refine ⟨⟨rfl, rfl, rfl, by rw [setCell_size]; exact Nat.le_refl _, fun b hb => setCell_other (fun e => (hm N0 (.inr rfl)).2 (by rw [← e]; exact hb)) _⟩, ⟨hI.out.up.setCell (Nat.le_of_lt hlt) _, hlt, (setCell_other (by omega) _).trans hI.out.mb, q, by rw [List.length_append]; simp; omega, hm, hI.out.onew⟩⟩
 case stop =>
   rintro D c pre own W hD hSp ⟨rfl, hlt, hI⟩ hK
   have hI := Lib.hid hI
   subst hA2
   have hM : Marks w.heap.size [D] W := (Marks.none _ W).cons hK (Nat.le_trans H0.out.up.size hD) (by simp)
   have n0 := cell_of hI.out.nb 0
   have nl := lt_of_heap hI.out.nb
   simp only [List.getElem?_toArray, List.getElem?_cons_zero] at n0
   have hmin : min (reachL G most (x, y)).length most = most := by
     have := hSp.length_le
     rw [List.length_map] at this
     omega
   gi_wp2
   go_wp2_with fail
   refine leaves_marks w.heap.size [D] _ hM fun W' hW' => ?_
   have n0' := cell_of (hW'.cells _ _ _ _ hI.out.nb) 0
   simp only [List.getElem?_toArray, List.getElem?_cons_zero] at n0'
   exact ⟨.int .i64 most, by simp [results, Tryz.results35, go_sem, n0'], by rw [hmin], Below.trans hI.out.up hW'.low⟩
 case done =>
   rintro D zs own W hD hzs hI hK
   have hI := Lib.hid hI
   subst hA2
   have hM : Marks w.heap.size [D] W := (Marks.none _ W).cons hK (Nat.le_trans H0.out.up.size hD) (by simp)
   have n0 := cell_of hI.out.nb 0
   have nl := lt_of_heap hI.out.nb
   simp only [List.getElem?_toArray, List.getElem?_cons_zero] at n0
   have hmin : min (reachL G most (x, y)).length most = zs.length := by
     have := hI.out.le
     rw [← hzs, List.length_map]
     omega
   go_wp2_with fail
   refine leaves_marks w.heap.size [D] _ hM fun W' hW' => ?_
   have n0' := cell_of (hW'.cells _ _ _ _ hI.out.nb) 0
   simp only [List.getElem?_toArray, List.getElem?_cons_zero] at n0'
   exact ⟨.int .i64 zs.length, by simp [results, Tryz.results35, go_sem, n0'], by rw [hmin], Below.trans hI.out.up hW'.low⟩
end Go.Proofs.YtiaepldmgighbaaGreatDoor
