import Derived.LoopNIn
import Derived.Shelf.RegionOpen
import Derived.Test.YtiaepldmgighbaaGreatDoorM08
import Derived.Test.YtiaepldmgighbaaGreatDoorM09
import Derived.Test.YtiaepldmgighbaaGreatDoorM02
namespace Go.Proofs.YtiaepldmgighbaaGreatDoor
open Go.RowKit
set_option linter.unusedSimpArgs false
attribute [local go_sem] Oper.semAt_some
structure Told where
 p : Pr
 va : Option Addr
 vc : Nat
abbrev Told.v (G : Pr → Que) (x : Told) : Value := .slice x.va (G x.p).pairs.length x.vc
abbrev toldV (G : Pr → Que) (x : Told) : Array Value := #[pairK x.p, QV (G x.p) (x.v G)]
def AsksAny (A : Nat) (G : Pr → Que) (V : Pr → Prop) (kept : Nat → Prop) (w : World) : Prop :=
 (∀ p, V p → ∀ q ∈ (G p).pairs, V q) ∧ ∀ p, V p → ∀ W, KeepOwn kept w W → Calls Tryz.prog 87 #[.agg #[.pointer (some ⟨A, 0, none⟩)], pairK p] W fun e W' => ∃ v, e = .returned (QV (G p) v) ∧ PairsAt (fun g => W.heap.size ≤ g) W' v (G p).pairs ∧ Up W W'
structure Reach (G : Pr → Que) (V : Pr → Prop) (most : Nat) (t0 : Tags) (J : InvA Told) (W0 : World) (mg : Nat) (lv : Value) (i : Nat) (L : List Pr) (t : Tags) (told : List Told) (W : World) : Prop where
 row : W.ownsRow 0 PairT 2 lv L.length (flatP L)
 rown : ∀ g, lv.ownBlock = some g → t.own g
 map : ∃ (es : Array MapEntry) (clk : Nat), W.heap[mg]? = some (.map es clk) ∧ Entries es pairK numV L.zipIdx
 mown : t.own mg
 tolds : told.map Told.p = L.take i
 le : i ≤ L.length
 len : L.length ≤ most + 1
 nodup : L.Nodup
 inv : J told t W
 base : ∀ b, t0.kept b → t.kept b
 sub : ∀ b, t.own b → t.kept b
 new : ∀ b, t.own b → W0.heap.size ≤ b
 lt : ∀ b, t.kept b → b < W.heap.size
 keep : KeepOwn t0.kept W0 W
 fresh : ∀ b, t0.kept b → b < W0.heap.size
 val : ∀ p ∈ L, V p
theorem set5_up {w W : World} {b : Nat} {x0 x1 x2 x3 x4 : Value} (h : Up w W) (hb : w.heap.size ≤ b) : Up w (((((W.setCell ⟨b, 0, none⟩ x0).setCell ⟨b, 1, none⟩ x1).setCell ⟨b, 2, none⟩ x2).setCell ⟨b, 3, none⟩ x3).setCell ⟨b, 4, none⟩ x4) := ((((h.setCell hb _).setCell hb _).setCell hb _).setCell hb _).setCell hb _
theorem PairsAt.five {B : Nat → Prop} {W : World} {b : Nat} {x0 x1 x2 x3 x4 v : Value} {ps : List Pr} (h : PairsAt B W v ps) (hb : ∀ g, B g → g ≠ b) : PairsAt B (((((W.setCell ⟨b, 0, none⟩ x0).setCell ⟨b, 1, none⟩ x1).setCell ⟨b, 2, none⟩ x2).setCell ⟨b, 3, none⟩ x3).setCell ⟨b, 4, none⟩ x4) v ps :=
 h.keep (by simp only [setCell_size]; exact Nat.le_refl _) fun g q1 q2 => ⟨q1, fun i u q => by
   obtain ⟨o, ho⟩ : ∃ o, W.heap[g]? = some o := ⟨_, Array.getElem?_eq_getElem q2⟩
   have e := set5_other (x0 := x0) (x1 := x1) (x2 := x2) (x3 := x3) (x4 := x4) (hb g q1) ho
   simp only [World.cell?, e, ho] at q ⊢
   exact q⟩
theorem PairsAt.loose {B B' : Nat → Prop} {W : World} {v : Value} {ps : List Pr} (h : PairsAt B W v ps) (hb : ∀ g, B g → B' g) : PairsAt B' W v ps := h.keep (Nat.le_refl _) fun g q _ => ⟨hb g q, fun _ _ q => q⟩
def viaQ (R : Act → World → Prop) : Exit → Act → World → Prop
 | .normal, a, w => R a w
 | _, _, _ => False
theorem wide_via {P : Program} {c : Code} {n : Nat} {Q : Exit → Act → World → Prop} {a : Act} {w : World} {β : Type} (Fct : β → World → Prop) (upd : β → Array Value → Array Value)
   (h : c.wp P (viaQ fun a' w' => ∃ x, Fct x w' ∧ a' = { tmps := upd x a.tmps, defers := a.defers }) a w) (k : ∀ x w', Fct x w' → Q .normal { tmps := upd x a.tmps, defers := a.defers } w') : c.wpIn Fence.wide n P Q a w := by
 refine wpIn_wide.2 (wp_mono h ?_)
 intro e a' w' hq
 cases e <;> first | exact hq.elim | skip
 obtain ⟨x, hx, rfl⟩ := hq
 exact k x w' hx
theorem in_via {F : Fence} {P : Program} {c : Code} {n : Nat} {Q : Exit → Act → World → Prop} {a : Act} {w : World} {β : Type} (Fct : β → World → Prop) (upd : β → Array Value → Array Value)
   (h : c.wpIn F n P (viaQ fun a' w' => ∃ x, Fct x w' ∧ a' = { tmps := upd x a.tmps, defers := a.defers }) a w) (k : ∀ x w', Fct x w' → Q .normal { tmps := upd x a.tmps, defers := a.defers } w') : c.wpIn F n P Q a w := by
 refine wpIn_mono h ?_
 intro e a' w' hq
 cases e <;> first | exact hq.elim | skip
 obtain ⟨x, hx, rfl⟩ := hq
 exact k x w' hx
theorem zipP_fst (ws : List Pr) (k : Nat) : (ws.zipIdx k).map (·.1) = ws := by
 induction ws generalizing k with
 | nil => rfl
 | cons x l ih => simp [List.zipIdx_cons, ih]
theorem zipP_at (ws : List Pr) (i : Nat) (s : Pr) (h : ws[i]? = some s) : (ws.zipIdx)[i]? = some (s, i) := by
 rw [List.getElem?_zipIdx, h]; simp
theorem zipP_miss {ws : List Pr} {s : Pr} (h : s ∉ ws) : ∀ x ∈ ws.zipIdx, x.1 ≠ s := fun x hx e => by
 subst e
 exact h (by have := List.mem_map_of_mem (f := (·.1)) hx; rwa [zipP_fst] at this)
theorem zipP_snoc (ws : List Pr) (s : Pr) : (ws ++ [s]).zipIdx = ws.zipIdx ++ [(s, ws.length)] := by
 rw [List.zipIdx_append]; simp
theorem Reach.up {G : Pr → Que} {V : Pr → Prop} {most : Nat} {t0 : Tags} {J : InvA Told} {W0 : World} {mg : Nat} {lv : Value} {i : Nat} {L : List Pr} {t : Tags} {told : List Told} {W W' : World} (h : Reach G V most t0 J W0 mg lv i L t told W) (hJ : Abides J) (hu : Up W W') : Reach G V most t0 J W0 mg lv i L t told W' where
 row := ownsRow_up h.row hu
 rown := h.rown
 map := let ⟨es, clk, q1, q2⟩ := h.map; ⟨es, clk, hu.get q1, q2⟩
 mown := h.mown
 tolds := h.tolds
 le := h.le
 len := h.len
 nodup := h.nodup
 inv := hJ _ _ _ _ _ h.inv (.up hu (fun _ h => .inl h) (fun _ h => .inl h))
 base := h.base
 sub := h.sub
 new := h.new
 lt b hb := Nat.lt_of_lt_of_le (h.lt b hb) hu.size
 keep := h.keep.trans (.up hu fun b hb => h.lt b (h.base b hb))
 fresh := h.fresh
 val := h.val
def Tags.plus (t : Tags) (a b : Nat) : Tags := ⟨fun x => t.own x ∨ (a ≤ x ∧ x < b), fun x => t.kept x ∨ (a ≤ x ∧ x < b)⟩
theorem pair_info : (Tryz.prog.info? PairT).map (fun i => (i.zero, i.size, i.bytes)) = some (some (.agg #[.int .i64 0, .int .i64 0]), 2, 16) := by kernel_rfl
theorem Reach.push {G : Pr → Que} {V : Pr → Prop} {most : Nat} {t0 : Tags} {J : InvA Told} {W0 : World} {mg : Nat} {lv lv' : Value} {i : Nat} {L : List Pr} {t : Tags} {told : List Told} {W W' : World} {z : Pr} {es : Array MapEntry} {clk : Nat} (h : Reach G V most t0 J W0 mg lv i L t told W) (hJ : Abides J)
   (hz : z ∉ L) (hl : L.length ≤ most) (hV : V z) (hos : W'.os = W.os ∧ W'.tape = W.tape ∧ W'.output = W.output) (hs : W.heap.size ≤ W'.heap.size) (hold : ∀ b, b < W.heap.size → b ≠ mg → lv.ownBlock ≠ some b → W'.heap[b]? = W.heap[b]?)
   (hm : W'.heap[mg]? = some (.map es clk)) (hE : Entries es pairK numV (L.zipIdx ++ [(z, L.length)])) (hrow : W'.ownsRow 0 PairT 2 lv' (L.length + 1) (flatP L ++ [.int .i64 z.1, .int .i64 z.2]))
   (hblk : lv'.ownBlock = lv.ownBlock ∨ ∃ g, lv'.ownBlock = some g ∧ W.heap.size ≤ g) : Reach G V most t0 J W0 mg lv' i (L ++ [z]) (t.plus W.heap.size W'.heap.size) told W' := by
 have hst : Steps t (t.plus W.heap.size W'.heap.size) W W' := ⟨hos.1, hos.2.1, hos.2.2, hs, fun b hb hn => hold b hb (fun e => hn (by rw [e]; exact h.mown)) (fun e => hn (h.rown b e)), fun b hb => hb.imp id And.left, fun b hb => hb.imp id And.left⟩
 exact {
   row := by rw [List.length_append, flatP_snoc]; exact hrow
   rown := fun g hg => by
     rcases hblk with q | ⟨g', q, q2⟩
     · rw [q] at hg; exact .inl (h.rown g hg)
     · rw [q] at hg; cases hg; exact .inr ⟨q2, (hrow.lt g q).2⟩
   map := ⟨es, clk, hm, by rw [zipP_snoc]; exact hE⟩
   mown := .inl h.mown
   tolds := by rw [h.tolds, List.take_append_of_le_length h.le]
   le := by simp; have := h.le; omega
   len := by simp; omega
   nodup := by
     rw [List.nodup_append]
     refine ⟨h.nodup, by simp, fun x hx y hy => ?_⟩
     simp at hy
     subst hy
     exact fun e => hz (e ▸ hx)
   inv := hJ _ _ _ _ _ h.inv hst
   base := fun b hb => .inl (h.base b hb)
   sub := fun b hb => hb.imp (h.sub b) id
   new := fun b hb => by
     rcases hb with hb | hb
     · exact h.new b hb
     · exact Nat.le_trans h.keep.size hb.1
   lt := fun b hb => by
     rcases hb with hb | hb
     · exact Nat.lt_of_lt_of_le (h.lt b hb) hs
     · exact hb.2
   keep := h.keep.trans ⟨hos.1, hos.2.1, hos.2.2, hs, fun b hb => by
     have hnew : ¬ t.own b := fun e => by
       have q1 := h.new b e
       have q2 := h.fresh b hb
       omega
     exact hold b (h.lt b (h.base b hb)) (fun e => hnew (by rw [e]; exact h.mown)) (fun e => hnew (h.rown b e))⟩
   fresh := h.fresh
   val := fun p hp => by
     rcases List.mem_append.1 hp with q | q
     · exact h.val p q
     · simp at q; subst q; exact hV }
theorem Reach.told_len {G : Pr → Que} {V : Pr → Prop} {most : Nat} {t0 : Tags} {J : InvA Told} {W0 : World} {mg : Nat} {lv : Value} {i : Nat} {L : List Pr} {t : Tags} {told : List Told} {W : World} (h : Reach G V most t0 J W0 mg lv i L t told W) : told.length = i := by
 have := congrArg List.length h.tolds
 simp only [List.length_map, List.length_take] at this
 have := h.le
 omega
theorem Reach.next {G : Pr → Que} {V : Pr → Prop} {most : Nat} {t0 : Tags} {J : InvA Told} {W0 : World} {mg : Nat} {lv : Value} {i : Nat} {L : List Pr} {t t' : Tags} {told : List Told} {W W' : World} (h : Reach G V most t0 J W0 mg lv i L t told W) {p : Pr} {va : Option Addr} {vc : Nat} (hp : L[i]? = some p)
   (ho : t'.own = t.own) (hk : ∀ b, t.kept b → t'.kept b) (hlt : ∀ b, t'.kept b → b < W'.heap.size) (hkeep : KeepOwn t.kept W W') (hJ : J (told ++ [⟨p, va, vc⟩]) t' W') : Reach G V most t0 J W0 mg lv (i + 1) L t' (told ++ [⟨p, va, vc⟩]) W' where
 row := ownsRow_keep h.row fun g hg => hkeep.same g (h.sub g (h.rown g hg))
 rown g hg := by rw [ho]; exact h.rown g hg
 map := let ⟨es, clk, q1, q2⟩ := h.map; ⟨es, clk, hkeep.get (h.sub mg h.mown) q1, q2⟩
 mown := by rw [ho]; exact h.mown
 tolds := by rw [List.map_append, h.tolds, List.take_add_one, hp]; rfl
 le := (List.getElem?_eq_some_iff.1 hp).1
 len := h.len
 nodup := h.nodup
 inv := hJ
 base b hb := hk b (h.base b hb)
 sub b hb := hk b (h.sub b (by rw [← ho]; exact hb))
 new b hb := h.new b (by rw [← ho]; exact hb)
 lt := hlt
 keep := h.keep.trans (hkeep.mono h.base)
 fresh := h.fresh
 val := h.val
set_option maxRecDepth 100000 in
set_option maxHeartbeats 6400000 in
theorem reached_iterG (l fb mb kb A most : Nat) (p0 : Pr) (G : Pr → Que) (V : Pr → Prop) (t0 : Tags) (J Jx : InvA Told) (W : World) (hJ : Abides J) (hJx : Abides Jx)
   (hY : ∀ pre x t W1, J pre t W1 → (PairsAt (fun g => ¬ t.own g ∧ t.kept g) W1 (x.v G) (G x.p).pairs ∧ V x.p) → (∀ b, t.own b ∨ t.kept b → b < W1.heap.size) → pre.length < most + 1 → YieldAt Fence.wide 0 Tryz.prog l (toldV G x) W1 fun e W' =>
     (e = .returned (.bool true) ∧ J (pre ++ [x]) t W' ∧ KeepOwn t.kept W1 W') ∨ (e = .returned (.bool false) ∧ Jx (pre ++ [x]) t W'))
   (hf : W.heap[fb]? = some (.cells #[.int .i64 p0.1, .int .i64 p0.2] PairT (0, 0))) (hm : W.heap[mb]? = some (.cells #[.int .i64 most] IntT (0, 0))) (hk : W.heap[kb]? = some (.cells #[.pointer (some ⟨A, 0, none⟩)] AskT (0, 0)))
   (hA : AsksAny A G V t0.kept W) (hV : V p0) (ho : ∀ b, t0.kept b → b < W.heap.size) (hn : ∀ b, ¬ t0.own b) (hfo : t0.kept fb ∧ t0.kept mb ∧ t0.kept kb) (h0 : J [] t0 W) (hmo : most ≤ 1000000) :
   CallsIn Fence.wide 1 Tryz.prog reachedF #[.func (.yield l) #[] #[], .pointer (some ⟨fb, 0, none⟩), .pointer (some ⟨mb, 0, none⟩), .pointer (some ⟨kb, 0, none⟩)] W fun e W' => (∃ v, e = .returned v) ∧
     ((∃ xs t, xs.map Told.p = reachL G most p0 ∧ J xs t W') ∨ (∃ pre t, pre.map Told.p <+: reachL G most p0 ∧ Jx pre t W')) := by
 have H := Lib.hid (And.intro hf (And.intro hm hk))
 have f0 := cell_of hf 0
 have f1 := cell_of hf 1
 have fl := lt_of_heap hf
 have m0 := cell_of hm 0
 have ml := lt_of_heap hm
 have k0 := cell_of hk 0
 have kl := lt_of_heap hk
 simp only [List.getElem?_toArray, List.getElem?_cons_zero, List.getElem?_cons_succ] at f0 f1 m0 k0
 have HA := Lib.hid (And.intro hA (And.intro hJ (And.intro hY h0)))
 have HX := Lib.hid (And.intro hJx (And.intro ho (And.intro hfo (And.intro hV hn))))
 have hmm := @run_makeMap Tryz.prog
 have hmo1 : (most : Int) ≤ 1000000 := by omega
 have hmo2 : (0 : Int) ≤ most := by omega
 clear hf hm hk hA hJ hY h0 hJx ho hfo hV hn
 refine callsIn_of_wp Tryz.func86 rfl trivial ?_ rfl
 simp only [Tryz.ntmps86, List.size_toArray, List.length_cons, List.length_nil, Nat.reduceAdd, Nat.reduceSub, Array.replicate_succ, Array.replicate_zero, List.push_toArray, List.append_toArray, List.nil_append, List.cons_append]
 obtain ⟨es, clk, hst, hE⟩ := pair_store_miss (f := numV) (w := (W.alloc (.cells #[.int .i64 p0.1, .int .i64 p0.2] PairT)).alloc (.map #[] 0)) (g := W.heap.size + 1) (es := #[]) (clk := 0) (l := []) (alloc_at _ _ _ (by simp)) rfl p0 0 (by simp)
 replace hst : (Instr.mapUpdate MpT (.map (some (W.heap.size + 1))) (.agg #[.int .i64 p0.1, .int .i64 p0.2]) (.int .i64 0)).run Tryz.prog ((W.alloc (.cells #[.int .i64 p0.1, .int .i64 p0.2] PairT)).alloc (.map #[] 0)) = .ok () (putB ((W.alloc (.cells #[.int .i64 p0.1, .int .i64 p0.2] PairT)).alloc (.map #[] 0)) (W.heap.size + 1) (.map es clk)) := hst
 gi_wp2
 obtain ⟨W2, hW2⟩ : ∃ W2, Hid (W2 = putB ((W.alloc (.cells #[.int .i64 p0.1, .int .i64 p0.2] PairT)).alloc (.map #[] 0)) (W.heap.size + 1) (.map es clk)) := ⟨_, rfl⟩
 rw [← hW2.out]
 have u2 : Hid (Up W W2) := by
   unfold Hid
   rw [hW2.out]
   refine ⟨rfl, rfl, rfl, ?_, fun b hb => ?_⟩
   · rw [putB_size]
     simp
     omega
   · rw [putB_other _ _ _ _ (by omega)]
     exact (alloc_old _ _ _ (by simp; omega)).trans (alloc_old _ _ _ hb)
 have hl : Hid (W2.heap[W.heap.size]? = some (.cells #[.int .i64 p0.1, .int .i64 p0.2] PairT (0, 0))) := by
   unfold Hid
   rw [hW2.out, putB_other _ _ _ _ (by omega)]
   exact (alloc_old _ _ _ (by simp)).trans (alloc_get _ _)
 have hmap : Hid (W2.heap[W.heap.size + 1]? = some (.map es clk)) := by
   unfold Hid
   rw [hW2.out]
   exact putB_same _ _ _ (by simp)
 clear hst hmm f0 f1 fl m0 ml k0 kl
 gi_loopw [5, 7] (fun lv iv wr => ∃ (j : Nat) (L : List Pr) (t : Tags) (told : List Told), iv = .int .i64 j ∧ Reach G V most t0 J W (W.heap.size + 1) lv j L t told wr ∧ Hid (reachN G most (most + 2 - j) j L = reachL G most p0)) (fun _ iv _ => most + 2 - (intOf iv).toNat)
 case atStart =>
   refine ⟨0, [p0], ⟨fun b => b = W.heap.size ∨ b = W.heap.size + 1, fun b => t0.kept b ∨ b = W.heap.size ∨ b = W.heap.size + 1⟩, [], rfl, ?_, rfl⟩
   have hz : W.heap.size + 1 < W2.heap.size := lt_of_heap hmap.out
   exact {
     row := ⟨rfl, .inr ⟨W.heap.size, 1, _, rfl, Nat.zero_le _, hl.out, Nat.le_refl _, by decide, rfl, rfl⟩⟩
     rown := fun g hg => by cases hg; exact .inl rfl
     map := ⟨es, clk, hmap.out, hE⟩
     mown := .inr rfl
     tolds := rfl
     le := by simp
     len := by simp
     nodup := by simp
     inv := HA.out.2.1 _ _ _ _ _ HA.out.2.2.2 (.up u2.out (fun b hb => .inr (by rcases hb with hb | hb <;> omega)) (fun b hb => hb.imp id fun hb => by rcases hb with hb | hb <;> omega))
     base := fun b hb => .inl hb
     sub := fun b hb => .inr hb
     new := fun b hb => by rcases hb with hb | hb <;> omega
     lt := fun b hb => by
       rcases hb with hb | hb
       · exact Nat.lt_of_lt_of_le (HX.out.2.1 b hb) u2.out.size
       · rcases hb with hb | hb <;> omega
     keep := .up u2.out HX.out.2.1
     fresh := HX.out.2.1
     val := fun p hp => by simp at hp; subst hp; exact HX.out.2.2.2.1 }
 case round =>
   obtain ⟨j, L, t, told, rfl, hR, hfin⟩ := hrel
   obtain ⟨sa, cap, rfl⟩ := ownsRow_form hR.row
   have m0 := cell_of (hR.keep.get HX.out.2.2.1.2.1 H.out.2.1) 0
   have ml := lt_of_heap (hR.keep.get HX.out.2.2.1.2.1 H.out.2.1)
   have k0 := cell_of (hR.keep.get HX.out.2.2.1.2.2 H.out.2.2) 0
   have kl := lt_of_heap (hR.keep.get HX.out.2.2.1.2.2 H.out.2.2)
   simp only [List.getElem?_toArray, List.getElem?_cons_zero, List.getElem?_cons_succ] at m0 k0
   have hlen := hR.len
   have hR := Lib.hid hR
   by_cases hlt : j < L.length
   · have hji : (j : Int) < L.length := by omega
     have hjm : (j : Int) ≤ most := by omega
     obtain ⟨p, hp⟩ : ∃ p, L[j]? = some p := ⟨_, List.getElem?_eq_getElem hlt⟩
     obtain ⟨g, rfl, hgl, hgo, c0, c1⟩ := rowP_at hR.out.row hp
     have HP := Lib.hid hp
     clear hp
     gi_wp2
     refine wide_via (β := Nat × Value) (fun x w' => Up wr w' ∧ wr.heap.size ≤ x.1 ∧ w'.heap[x.1]? = some (.cells (QC (G p) x.2) QueT (0, 0)) ∧ PairsAt (fun g => wr.heap.size ≤ g) w' x.2 (G p).pairs)
       (fun x a => ((((((a.setIfInBounds 8 (.pointer (some ⟨x.1, 0, none⟩))).setIfInBounds 29 (.agg #[.pointer (some ⟨A, 0, none⟩)])).setIfInBounds 30 (.slice (some ⟨g, 0, none⟩) L.length cap)).setIfInBounds 31 (.int .i64 j)).setIfInBounds 32 (.pointer (some ⟨g, j * 2, none⟩))).setIfInBounds 33 (pairK p)).setIfInBounds 34 (QV (G p) x.2)) ?_ ?_
     · have HC : Hid (∀ w', Up wr w' → Calls Tryz.prog 87 #[.agg #[.pointer (some ⟨A, 0, none⟩)], .agg #[.int .i64 p.1, .int .i64 p.2]] w' fun e W' => ∃ v, e = .returned (QV (G p) v) ∧ PairsAt (fun g => w'.heap.size ≤ g) W' v (G p).pairs ∧ Up w' W') := fun w' hw' =>
         HA.out.1.2 p (hR.out.val p (List.mem_of_getElem? HP.out)) w' (hR.out.keep.trans (.up hw' fun b hb => hR.out.lt b (hR.out.base b hb)))
       clear hlt
       simp only [List.setIfInBounds_toArray, List.set_cons_succ, List.set_cons_zero]
       go_region_law (first | (go_simp; go_at_call 87; refine (HC.out _ uq).mono ?_; rintro e w3 ⟨v, rfl, hv3, hu3⟩; obtain ⟨va, vc, rfl⟩ := hv3.form; have HV3 := Lib.hid hv3; clear hv3; simp only [QV]; (try (have s0 : w3.heap[wr.heap.size]? = some (.cells #[.bool false, .bool false, .bool false, .bool false, .slice none 0 0] 97 (0, 0)) := hu3.get (show (wr.alloc (.cells #[.bool false, .bool false, .bool false, .bool false, .slice none 0 0] 97)).heap[wr.heap.size]? = _ from alloc_get _ _); have b0 := cell_of s0 0; have g0 := ice_of s0 0; have b1 := cell_of s0 1; have g1 := ice_of s0 1; have b2 := cell_of s0 2; have g2 := ice_of s0 2; have b3 := cell_of s0 3; have g3 := ice_of s0 3; have b4 := cell_of s0 4; have g4 := ice_of s0 4; have b9 := lt_of_heap s0; (try simp only [World.size_alloc, List.getElem?_toArray, List.getElem?_cons_zero, List.getElem?_cons_succ] at b0 b1 b2 b3 b4 g0 g1 g2 g3 g4 b9); clear s0))))
       all_goals have hur : Up wr w3 := (by first | exact Up.trans (Up.drew (Up.refl _)) hu3 | exact Up.trans (Up.drew (Up.alloc (Up.refl _) _)) hu3)
       all_goals first
         | (have hq : Up wr.drew w3 := (by with_reducible exact hu3)
            exact Exists.intro (w3.heap.size, .slice va (G p).pairs.length vc) (And.intro ⟨Up.alloc hur _, hur.size, alloc_get _ _, (HV3.out.up (Up.alloc (Up.refl _) _)).loose (fun g q => q)⟩ rfl))
         | (have hq := (set5_at (x0 := .bool (G p).known) (x1 := .bool (G p).yes) (x2 := .bool (G p).all) (x3 := .bool (G p).hard) (x4 := .slice va (G p).pairs.length vc) (hu3.get (show (wr.alloc (.cells #[.bool false, .bool false, .bool false, .bool false, .slice none 0 0] 97)).drew.heap[wr.heap.size]? = _ from alloc_get _ _)))
            exact Exists.intro (wr.heap.size, .slice va (G p).pairs.length vc) (And.intro ⟨set5_up hur (Nat.le_refl _), Nat.le_refl _, hq, (HV3.out.five (fun g q => by have q : (wr.alloc (.cells #[.bool false, .bool false, .bool false, .bool false, .slice none 0 0] 97)).heap.size ≤ g := q; simp only [World.size_alloc] at q; omega)).loose (fun g q => by have q : (wr.alloc (.cells #[.bool false, .bool false, .bool false, .bool false, .slice none 0 0] 97)).heap.size ≤ g := q; simp only [World.size_alloc] at q; omega)⟩ rfl))
     · rintro ⟨b, v⟩ W3 ⟨hu3, hb, hbox, hpv⟩
       simp only [List.setIfInBounds_toArray, List.set_cons_succ, List.set_cons_zero]
       obtain ⟨va, vc, rfl⟩ := hpv.form
       have hbl := lt_of_heap hbox
       obtain ⟨t', ht'⟩ : ∃ t' : Tags, t' = ⟨t.own, fun x => t.kept x ∨ (wr.heap.size ≤ x ∧ x < W3.heap.size)⟩ := ⟨_, rfl⟩
       have hst : Steps t t' wr W3.drew := by
         subst ht'
         exact .up hu3.drew (fun b hb => .inl hb) (fun b hb => hb.imp id And.left)
       have hold : ∀ b, t'.kept b → b < W3.heap.size := fun b hb => by
         subst ht'
         rcases hb with hb | hb
         · exact Nat.lt_of_lt_of_le (hR.out.lt b hb) hu3.size
         · exact hb.2
       have hvt : PairsAt (fun g => ¬ t'.own g ∧ t'.kept g) W3 (.slice va (G p).pairs.length vc) (G p).pairs := hpv.keep (Nat.le_refl _) fun g q1 q2 => ⟨by
         subst ht'
         exact ⟨fun e => by have := hR.out.lt g (hR.out.sub g e); omega, .inr ⟨q1, q2⟩⟩, fun _ _ h => h⟩
       obtain ⟨fn, tmps, assign, body, hy, hRd⟩ := HA.out.2.2.1 told ⟨p, va, vc⟩ t' W3.drew (HA.out.2.1 _ _ _ _ _ hR.out.inv hst) ⟨hvt.up (show Up W3 W3.drew from uq), hR.out.val p (List.mem_of_getElem? HP.out)⟩ (fun b hb => hold b (by subst ht'; exact hb.elim (fun q => .inl (hR.out.sub b q)) id)) (by rw [hR.out.told_len]; have := hR.out.len; omega)
       have hkt : Hid (t'.own = t.own ∧ (∀ b, t.kept b → t'.kept b) ∧ (∀ x, wr.heap.size ≤ x → x < W3.heap.size → t'.kept x)) := by subst ht'; exact ⟨rfl, fun b hb => .inl hb, fun x h1 h2 => .inr ⟨h1, h2⟩⟩
       have HT := Lib.hid (And.intro hold (And.intro hvt (And.intro hu3 hbox)))
       have c0 := (hu3.cells _ _ hgl).trans c0
       have c1 := (hu3.cells _ _ hgl).trans c1
       have hgl3 := Nat.lt_of_lt_of_le hgl hu3.size
       have s0 := hbox
       simp only [QC] at s0
       have b0 := cell_of s0 0; have g0 := ice_of s0 0; have b1 := cell_of s0 1; have g1 := ice_of s0 1; have b2 := cell_of s0 2; have g2 := ice_of s0 2; have b3 := cell_of s0 3; have g3 := ice_of s0 3; have b4 := cell_of s0 4; have g4 := ice_of s0 4; have b9 := lt_of_heap s0; (try simp only [World.size_alloc, List.getElem?_toArray, List.getElem?_cons_zero, List.getElem?_cons_succ] at b0 b1 b2 b3 b4 g0 g1 g2 g3 g4 b9); clear s0
       simp only [toldV, pairK, QV] at hy
       simp only [pairK, QV]
       clear ht' hst hold hvt hpv hu3 hbox
       gi_wp2
       have hmix : Tryz.prog.follows .mixedOrders = true := by kernel_rfl
       refine in_via (β := Bool) (fun r W4 => Hid ((r = true ∧ J (told ++ [⟨p, va, vc⟩]) t' W4 ∧ KeepOwn t'.kept W3.drew W4) ∨ (r = false ∧ Jx (told ++ [⟨p, va, vc⟩]) t' W4)))
         (fun r a => (((((((a.setIfInBounds 35 (.func (.yield l) #[] #[])).setIfInBounds 36 (.slice (some ⟨g, 0, none⟩) L.length cap)).setIfInBounds 37 (.int .i64 j)).setIfInBounds 38 (.pointer (some ⟨g, j * 2, none⟩))).setIfInBounds 39 (.agg #[.int .i64 p.1, .int .i64 p.2])).setIfInBounds 40 (.agg #[.bool (G p).known, .bool (G p).yes, .bool (G p).all, .bool (G p).hard, .slice va (G p).pairs.length vc])).setIfInBounds 41 (.bool r)).setIfInBounds 42 (.bool (!r))) ?_ ?_
       · simp only [List.setIfInBounds_toArray, List.set_cons_succ, List.set_cons_zero]
         gi_region_with_o (refine hRd.mono ?_; refine fun e W4 hor => ?_; obtain ⟨r, rfl, hr⟩ : ∃ r : Bool, e = .returned (.bool r) ∧ Hid ((r = true ∧ J (told ++ [⟨p, va, vc⟩]) t' W4 ∧ KeepOwn t'.kept W3.drew W4) ∨ (r = false ∧ Jx (told ++ [⟨p, va, vc⟩]) t' W4)) := (by rcases hor with ⟨h1, h2⟩ | ⟨h1, h2⟩; exact ⟨true, h1, .inl ⟨rfl, h2⟩⟩; exact ⟨false, h1, .inr ⟨rfl, h2⟩⟩); clear hor)
         all_goals refine Exists.intro r (And.intro hr ?_)
         all_goals simp only [Act.put, List.getElem_toArray, List.getElem_cons_zero, List.getElem_cons_succ, List.setIfInBounds_toArray, List.set_cons_succ, List.set_cons_zero]
       · rintro r W4 hr
         simp only [List.setIfInBounds_toArray, List.set_cons_succ, List.set_cons_zero]
         rcases hr.out with ⟨rfl, hJ4, hk4⟩ | ⟨rfl, hJx4⟩
         · have hkw : KeepOwn t.kept wr W4 := (KeepOwn.up (HT.out.2.2.1.drew) hR.out.lt).trans (hk4.mono hkt.out.2.1)
           have hlt4 : ∀ b, t'.kept b → b < W4.heap.size := fun b hb => Nat.lt_of_lt_of_le (HT.out.1 b hb) hk4.size
           have hR4 := Lib.hid (hR.out.next (va := va) (vc := vc) HP.out hkt.out.1 hkt.out.2.1 hlt4 hkw hJ4)
           have hpv4 : Hid (PairsAt (fun g => ¬ t'.own g ∧ t'.kept g) W4 (.slice va (G p).pairs.length vc) (G p).pairs) := HT.out.2.1.keep hk4.size fun g q1 q2 => ⟨q1, fun i u q => by
             obtain ⟨o, ho⟩ : ∃ o, W3.heap[g]? = some o := ⟨_, Array.getElem?_eq_getElem q2⟩
             have e := hk4.get q1.2 (show W3.drew.heap[g]? = some o from ho)
             simp only [World.cell?, e, ho] at q ⊢
             exact q⟩
           have s0 := hk4.get (hkt.out.2.2 b hb hbl) (show W3.drew.heap[b]? = _ from HT.out.2.2.2)
           simp only [QC] at s0
           have b0 := cell_of s0 0; have g0 := ice_of s0 0; have b1 := cell_of s0 1; have g1 := ice_of s0 1; have b2 := cell_of s0 2; have g2 := ice_of s0 2; have b3 := cell_of s0 3; have g3 := ice_of s0 3; have b4 := cell_of s0 4; have g4 := ice_of s0 4; have b9 := lt_of_heap s0; (try simp only [World.size_alloc, List.getElem?_toArray, List.getElem?_cons_zero, List.getElem?_cons_succ] at b0 b1 b2 b3 b4 g0 g1 g2 g3 g4 b9); clear s0
           have hpl := hpv4.out.1
           obtain ⟨LL, hLL⟩ : ∃ LL, Hid (addP most L (G p).pairs = LL) := ⟨_, rfl⟩
           clear hk4 hkw hlt4 hJ4 c0 c1 hgl hgl3 hlt
           gi_wp2
           refine wpIn_wide.2 ?_
           go_loopw [5, 46] (fun lv kv wr' => ∃ (k : Nat) (L' : List Pr) (t'' : Tags), kv = .int .i64 k ∧ k ≤ (G p).pairs.length ∧ Reach G V most t0 J W (W.heap.size + 1) lv (j + 1) L' t'' (told ++ [⟨p, va, vc⟩]) wr' ∧ Hid (addP most L' ((G p).pairs.drop k) = LL) ∧ Hid (PairsAt (fun g => ¬ t''.own g) wr' (.slice va (G p).pairs.length vc) (G p).pairs)) (fun _ kv _ => (G p).pairs.length - (intOf kv).toNat)
           case atStart => exact ⟨0, L, t', rfl, Nat.zero_le _, hR4.out, hLL, hpv4.out.loose (fun g q => q.1)⟩
           case round =>
             obtain ⟨k, L', t2, rfl, hk, hR2, hadd, hpv2⟩ := hrel
             obtain ⟨sa2, cap2, rfl⟩ := ownsRow_form hR2.row
             have m0 := cell_of (hR2.keep.get HX.out.2.2.1.2.1 H.out.2.1) 0
             have ml := lt_of_heap (hR2.keep.get HX.out.2.2.1.2.1 H.out.2.1)
             simp only [List.getElem?_toArray, List.getElem?_cons_zero] at m0
             have hlen2 := hR2.len
             have HR2 := Lib.hid hR2
             by_cases hkl : k < (G p).pairs.length
             · have hki : (k : Int) < (G p).pairs.length := by omega
               obtain ⟨z, hz⟩ : ∃ z, (G p).pairs[k]? = some z := ⟨_, List.getElem?_eq_getElem hkl⟩
               obtain ⟨_, a2, c2, he, hat⟩ := hpv2.out
               obtain ⟨g2, off2, ha, hng, hgl2, y0, y1⟩ := hat k z hz
               injection he with he1 _ he3
               rw [ha] at he1
               subst he1
               have hdrop : (G p).pairs.drop k = z :: (G p).pairs.drop (k + 1) := by rw [List.drop_eq_getElem_cons hkl, (List.getElem?_eq_some_iff.1 hz).2]
               have hnext : Hid (addP most (if z ∈ L' then L' else if L'.length ≤ most then L' ++ [z] else L') ((G p).pairs.drop (k + 1)) = LL) := by
                 unfold Hid
                 rw [← hadd.out, hdrop, addP]
               have hVz : Hid (V z) := HA.out.1.1 p (hR.out.val p (List.mem_of_getElem? HP.out)) z (List.mem_of_getElem? hz)
               obtain ⟨es2, clk2, hmp2, hE2⟩ := hR2.map
               have HM := Lib.hid (And.intro hmp2 hE2)
               have hup : Up wr (wr.alloc (.cells #[.int .i64 z.1, .int .i64 z.2] PairT)) := Up.alloc (Up.refl _) _
               have HU := Lib.hid hup
               clear hR2 hat ha he3 hdrop hz hadd hup
               by_cases hzl : z ∈ L'
               · obtain ⟨x, hx⟩ := List.getElem?_of_mem hzl
                 have hlk : (Instr.lookup MpT (.map (some (W.heap.size + 1))) (.agg #[.int .i64 z.1, .int .i64 z.2]) true).run Tryz.prog (wr.alloc (.cells #[.int .i64 z.1, .int .i64 z.2] PairT)) = .ok (.tuple #[.int .i64 x, .bool true]) (wr.alloc (.cells #[.int .i64 z.1, .int .i64 z.2] PairT)) :=
                   (pair_look_hit (f := numV) (alloc_keep hmp2) hE2 z x x (zipP_at _ _ _ hx) (by rw [zipP_fst]; exact HR2.out.nodup)).1
                 rw [if_pos hzl] at hnext
                 clear hx hzl hmp2 hE2
                 go_wp2_with fail
                 exact ⟨⟨k + 1, L', t2, by simp, by omega, HR2.out.up HA.out.2.1 HU.out, hnext, hpv2.out.up HU.out⟩, by simp [intOf]; omega⟩
               · have hlk : (Instr.lookup MpT (.map (some (W.heap.size + 1))) (.agg #[.int .i64 z.1, .int .i64 z.2]) true).run Tryz.prog (wr.alloc (.cells #[.int .i64 z.1, .int .i64 z.2] PairT)) = .ok (.tuple #[.int .i64 0, .bool false]) (wr.alloc (.cells #[.int .i64 z.1, .int .i64 z.2] PairT)) :=
                   (pair_look_miss (f := numV) (alloc_keep hmp2) hE2 z (zipP_miss hzl)).1
                 have HZ := Lib.hid hzl
                 rw [if_neg hzl] at hnext
                 by_cases hfull : L'.length ≤ most
                 · have hfi : (L'.length : Int) ≤ most := by omega
                   rw [if_pos hfull] at hnext
                   obtain ⟨es3, clk3, hst, hE3⟩ := pair_store_miss (f := numV) (show (wr.alloc (.cells #[.int .i64 z.1, .int .i64 z.2] PairT)).heap[W.heap.size + 1]? = some (.map es2 clk2) from alloc_keep hmp2) hE2 z L'.length (zipP_miss hzl)
                   obtain ⟨W6, hW6⟩ : ∃ W6, Hid (W6 = putB (wr.alloc (.cells #[.int .i64 z.1, .int .i64 z.2] PairT)) (W.heap.size + 1) (.map es3 clk3)) := ⟨_, rfl⟩
                   rw [← hW6.out] at hst
                   replace hst : (Instr.mapUpdate MpT (.map (some (W.heap.size + 1))) (.agg #[.int .i64 z.1, .int .i64 z.2]) (.int .i64 L'.length)).run Tryz.prog (wr.alloc (.cells #[.int .i64 z.1, .int .i64 z.2] PairT)) = .ok () W6 := hst
                   have hmlt := lt_of_heap hmp2
                   have hz6 : W6.heap.size = wr.heap.size + 1 := by rw [hW6.out, putB_size]; simp
                   have hb6 : W6.heap[wr.heap.size]? = some (.cells #[.int .i64 z.1, .int .i64 z.2] PairT (0, 0)) := by
                     rw [hW6.out, putB_other _ _ _ _ (by omega)]
                     exact alloc_get _ _
                   have ho6 : Hid (∀ b, b < wr.heap.size → b ≠ W.heap.size + 1 → W6.heap[b]? = wr.heap[b]?) := fun b h1 h2 => by
                     rw [hW6.out, putB_other _ _ _ _ h2, alloc_old _ _ _ h1]
                   have hm6 : Hid (W6.heap[W.heap.size + 1]? = some (.map es3 clk3)) := by
                     unfold Hid
                     rw [hW6.out]
                     exact putB_same _ _ _ (by simp; omega)
                   have hos6 : Hid (W6.os = wr.os ∧ W6.tape = wr.tape ∧ W6.output = wr.output) := by
                     unfold Hid
                     rw [hW6.out]
                     exact ⟨rfl, rfl, rfl⟩
                   have hrm : Hid (∀ q, (Value.slice sa2 L'.length cap2).ownBlock = some q → q ≠ W.heap.size + 1) := fun q hq e => by
                     rcases HR2.out.row.2 with ⟨hv, _⟩ | ⟨g', cap', cur, hv, _, hc, _⟩
                     · rw [hv] at hq; cases hq
                     · rw [hv] at hq
                       cases hq
                       have e : g' = W.heap.size + 1 := e
                       rw [e, hmp2] at hc
                       cases hc
                   have row6 : Hid (W6.ownsRow 0 PairT 2 (.slice sa2 L'.length cap2) L'.length (flatP L')) := ownsRow_keep HR2.out.row fun q hq => ho6.out q (HR2.out.row.lt q hq).2 (hrm.out q hq)
                   have d0 := cell_of hb6 0
                   have d1 := cell_of hb6 1
                   have dl := lt_of_heap hb6
                   simp only [List.getElem?_toArray, List.getElem?_cons_zero, List.getElem?_cons_succ] at d0 d1
                   obtain ⟨n2, hn2⟩ : ∃ n2, Hid (L'.length = n2) := ⟨_, rfl⟩
                   obtain ⟨vs, hvs⟩ : ∃ vs, Hid (flatP L' = vs) := ⟨_, rfl⟩
                   have hE3 := Lib.hid hE3
                   rw [hn2.out, hvs.out] at row6
                   rw [hn2.out] at hst hfi hE3 hrm hlen2 hfull ⊢
                   have hb6 := Lib.hid hb6
                   clear hzl hmp2 hE2 HM
                   obtain ⟨i0, hi, hz0, hz1, hz2⟩ := info_parts pair_info
                   go_wp2_with (first | (at_builtin; go_must (refine wpList_append_new rfl _ _ 86 rfl PairT i0 (.agg #[.int .i64 0, .int .i64 0]) 2 16 Tryz.underlying86 hi hz0 hz1 hz2 rfl (by decide) (.slice sa2 n2 cap2) n2 vs rfl (ownsRow_up row6.out uq) _ 1 1 rfl (by first | rfl | (simp; done) | omega) rfl (by intro u hu; have hu2 : u = .int .i64 z.1 ∨ u = .int .i64 z.2 := (by simpa using hu); rcases hu2 with hu2 | hu2 <;> rw [hu2] <;> rfl) (by unfold maxLen; omega) (by omega) ?_; intro sa' cap' w7 hown' hgrow hblk; have HY := Lib.hid (And.intro hown' (And.intro hgrow hblk)); clear hown' hgrow hblk)))
                   have hold : ∀ b, b < wr.heap.size → b ≠ W.heap.size + 1 → (Value.slice sa2 n2 cap2).ownBlock ≠ some b → w7.heap[b]? = wr.heap[b]? := fun b h1 h2 h3 => by
                     rw [HY.out.2.1.block b (by simp; omega) (fun e => h3 e.symm), alloc_old _ _ _ (by omega)]
                     exact ho6.out b h1 h2
                   have hm7 : w7.heap[W.heap.size + 1]? = some (.map es3 clk3) := by
                     have q := lt_of_heap hm6.out
                     rw [HY.out.2.1.block _ (by simp; omega) (fun e => hrm.out _ e.symm rfl), alloc_old _ _ _ q]
                     exact hm6.out
                   have hs7 : wr.heap.size ≤ w7.heap.size := by
                     have q := HY.out.2.1.size
                     simp only [World.size_alloc] at q
                     omega
                   have hR7 : Reach G V most t0 J W (W.heap.size + 1) (.slice sa' (n2 + 1) cap') (j + 1) (L' ++ [z]) (t2.plus wr.heap.size w7.heap.size) (told ++ [⟨p, some ⟨g2, off2, none⟩, vc⟩]) w7 := by
                     refine HR2.out.push HA.out.2.1 HZ.out (by rw [hn2.out]; exact hfull) hVz.out ?_ hs7 (fun b h1 h2 h3 => hold b h1 h2 (by rw [← hn2.out]; exact h3)) hm7 (by rw [hn2.out]; exact hE3.out) ?_ ?_
                     · exact ⟨HY.out.2.1.os.trans hos6.out.1, HY.out.2.1.tape.trans hos6.out.2.1, HY.out.2.1.output.trans hos6.out.2.2⟩
                     · rw [hn2.out, hvs.out]
                       exact HY.out.1
                     · rw [hn2.out]
                       rcases HY.out.2.2 with q | ⟨g', q, q2⟩
                       · exact .inl q
                       · exact .inr ⟨g', q, by omega⟩
                   refine ⟨⟨k + 1, L' ++ [z], _, by simp, by omega, hR7, hnext, hpv2.out.keep hs7 fun q q1 q2 => ⟨fun e => ?_, fun i u hu => ?_⟩⟩, by simp [intOf]; omega⟩
                   · rcases e with e | e
                     · exact q1 e
                     · omega
                   · have e := hold q q2 (fun e => q1 (by rw [e]; exact HR2.out.mown)) (fun e => q1 (HR2.out.rown q (by rw [hn2.out]; exact e)))
                     simp only [World.cell?, e] at hu ⊢
                     exact hu
                 · have hfi : ¬ (L'.length : Int) ≤ most := by omega
                   rw [if_neg hfull] at hnext
                   clear hzl hmp2 hE2
                   go_wp2_with fail
                   exact ⟨⟨k + 1, L', t2, by simp, by omega, HR2.out.up HA.out.2.1 HU.out, hnext, hpv2.out.up HU.out⟩, by simp [intOf]; omega⟩
             · obtain rfl : k = (G p).pairs.length := by omega
               have hL : Hid (reachN G most (most + 2 - (j + 1)) (j + 1) L' = reachL G most p0) := by
                 unfold Hid
                 have h1 := hadd.out
                 rw [List.drop_length, addP] at h1
                 rw [← hfin.out, show most + 2 - j = (most + 2 - (j + 1)) + 1 by omega, reachN, HP.out]
                 simp only
                 rw [h1, ← hLL.out]
               have hjL := HR2.out.le
               clear hadd hR2 hkl
               go_wp2_with fail
               gi_wp2
               exact ⟨⟨j + 1, L', t2, _, by simp, HR2.out, hL⟩, by simp [intOf]; omega⟩
         · gi_wp2
           refine bodyPost_ret (results_none rfl _ _ _) rfl ?_
           refine ⟨⟨_, rfl⟩, .inr ⟨told ++ [⟨p, va, vc⟩], ?_, t', hJx4⟩⟩
           rw [List.map_append, hR.out.tolds, ← hfin.out]
           refine List.IsPrefix.trans ?_ (reachN_prefix G most _ _ L)
           have e : L.take j ++ List.map Told.p [⟨p, va, vc⟩] = L.take (j + 1) := by rw [List.take_add_one, HP.out]; rfl
           rw [e]
           exact List.take_prefix _ _
   · obtain rfl : j = L.length := by
       have := hR.out.le
       omega
     have hL : Hid (L = reachL G most p0) := by
       unfold Hid
       rw [← hfin.out]
       cases hq : most + 2 - L.length with
       | zero => rfl
       | succ f => rw [reachN, List.getElem?_eq_none (Nat.le_refl _)]
     clear hlt
     gi_wp2
     go_end0
     exact ⟨⟨_, rfl⟩, .inl ⟨told, t, by rw [hR.out.tolds, List.take_length]; exact hL.out, hR.out.inv⟩⟩
end Go.Proofs.YtiaepldmgighbaaGreatDoor
namespace Go.Proofs.YtiaepldmgighbaaGreatDoor
open Go.RowKit
set_option linter.unusedSimpArgs false
theorem pairX_info : (Tryz.prog.info? PairT).map (fun i => (i.zero, i.size, i.bytes)) = some (some (.agg #[.int .i64 0, .int .i64 0]), 2, 16) := by kernel_rfl
def IntsV (w : World) (a : Option Addr) (zs : List Nat) : Prop := ∀ (j z : Nat), zs[j]? = some z → ∃ g off, a = some ⟨g, off, none⟩ ∧ g < w.heap.size ∧ w.cell? ⟨g, off + j, none⟩ = some (.int .i64 z)
def BoolsV (w : World) (a : Option Addr) (ms : List Bool) : Prop := ∀ (j : Nat) (m : Bool), ms[j]? = some m → ∃ g off, a = some ⟨g, off, none⟩ ∧ g < w.heap.size ∧ w.cell? ⟨g, off + j, none⟩ = some (.bool m)
theorem IntsV.up {w w' : World} {a : Option Addr} {zs : List Nat} (h : IntsV w a zs) (u : Up w w') : IntsV w' a zs := fun j z hz => let ⟨g, off, h1, h2, h3⟩ := h j z hz; ⟨g, off, h1, Nat.lt_of_lt_of_le h2 u.size, (u.cells _ _ h2).trans h3⟩
theorem BoolsV.up {w w' : World} {a : Option Addr} {ms : List Bool} (h : BoolsV w a ms) (u : Up w w') : BoolsV w' a ms := fun j z hz => let ⟨g, off, h1, h2, h3⟩ := h j z hz; ⟨g, off, h1, Nat.lt_of_lt_of_le h2 u.size, (u.cells _ _ h2).trans h3⟩
def AtK (A z : Nat) (w : World) (kz : Int) : Prop := ∀ W, Up w W → Calls Tryz.prog 130 #[.agg #[.pointer (some ⟨A, 0, none⟩)], .int .i64 z] W fun e w' => ∃ n nm pa pl pc na nl nc ma ml mc, e = .returned (.agg #[.int .i64 kz, .int .i64 n, .string nm, .slice pa pl pc, .slice na nl nc, .slice ma ml mc]) ∧ Up W w'
structure QBox (W0 : World) (al : Bool) (L : List Pr) (v : Value) (W : World) : Prop where
 box : W.heap[W0.heap.size]? = some (.cells #[.bool false, .bool false, .bool al, .bool false, v] QueT (0, 0))
 row : W.ownsRow 0 PairT 2 v L.length (flatP L)
 own : ∀ g, v.ownBlock = some g → W0.heap.size < g
 up : Up W0 W
theorem QBox.start (W0 : World) (al : Bool) : QBox W0 al [] (.slice none 0 0) (W0.alloc (.cells #[.bool false, .bool false, .bool al, .bool false, .slice none 0 0] QueT)) :=
 ⟨alloc_get _ _, ⟨rfl, .inl ⟨rfl, rfl⟩⟩, fun g hg => by simp [Value.ownBlock] at hg, Up.alloc (Up.refl _) _⟩
theorem QBox.later {W0 W W' : World} {al : Bool} {L : List Pr} {v : Value} (h : QBox W0 al L v W) (k : Up W W') : QBox W0 al L v W' := ⟨k.get h.box, ownsRow_up h.row k, h.own, h.up.trans k⟩
theorem QBox.far {W0 W : World} {al : Bool} {L : List Pr} {v : Value} (h : QBox W0 al L v W) : v.ownBlock ≠ some W0.heap.size := fun e => Nat.lt_irrefl _ (h.own _ e)
theorem QBox.push {W0 W w7 : World} {al : Bool} {L : List Pr} {p : Pr} {va sa : Option Addr} {n m vcap cap : Nat} {old : Value} {cs : List Value} (h : QBox W0 al L (.slice va n vcap) W) (hn : n = L.length) (hm : m = n + 1) (hcs : cs = [.int .i64 p.1, .int .i64 p.2]) (hrow : w7.ownsRow 0 PairT 2 (.slice sa m cap) m (flatP L ++ cs))
   (hblk : (Value.slice sa m cap).ownBlock = (Value.slice va n vcap).ownBlock ∨ ∃ g, (Value.slice sa m cap).ownBlock = some g ∧ W.heap.size + 1 ≤ g) (s0 : w7.heap[W0.heap.size]? = some (.cells #[.bool false, .bool false, .bool al, .bool false, old] QueT (0, 0))) (U7 : Up W0 w7) :
   QBox W0 al (L ++ [p]) (.slice sa m cap) (w7.setCell ⟨W0.heap.size, 4, none⟩ (.slice sa m cap)) := by
 subst hn hm hcs
 have hz : W0.heap.size < W.heap.size := lt_of_heap h.box
 have hown : ∀ g, (Value.slice sa (L.length + 1) cap).ownBlock = some g → W0.heap.size < g := fun g hg => by
   rcases hblk with q | ⟨g', q, q2⟩
   · exact h.own g (by rw [← q]; exact hg)
   · rw [q] at hg
     cases hg
     omega
 refine ⟨setCell_block s0 _, ?_, hown, U7.setCell (Nat.le_refl _) _⟩
 rw [List.length_append, flatP_snoc]
 exact ownsRow_keep hrow fun g hg => setCell_other (by have := hown g hg; omega) _
theorem QBox.pairs {W0 W : World} {al : Bool} {L : List Pr} {v : Value} (h : QBox W0 al L v W) (hl : L.length ≤ 1000000) {B : Nat → Prop} (hB : ∀ g, W0.heap.size ≤ g → B g) : PairsAt B W v L := by
 obtain ⟨sa, cap, rfl⟩ := ownsRow_form h.row
 refine ⟨hl, sa, cap, rfl, fun j p hp => ?_⟩
 obtain ⟨g, h1, h2, h3, h4, h5⟩ := rowP_at h.row hp
 exact ⟨g, 0, h1, hB g (Nat.le_of_lt (h.own g h3)), h2, by simpa using h4, by simpa using h5⟩
theorem funP_len (j : Nat) (xs ys : List Nat) : (funP j j xs ys).length = j := by unfold funP; rw [List.length_map, List.length_range, Nat.min_self]
theorem funP_next {j x y : Nat} {xs ys : List Nat} (hx : xs[j]? = some x) (hy : ys[j]? = some y) : funP (j + 1) (j + 1) xs ys = funP j j xs ys ++ [(y, x)] := by
 unfold funP
 rw [Nat.min_self, Nat.min_self, List.range_succ, List.map_append, List.map_singleton, List.getD_eq_getElem?_getD, List.getD_eq_getElem?_getD, hx, hy]
 rfl
theorem AsksAny.later {A : Nat} {G : Pr → Que} {V : Pr → Prop} {kept : Nat → Prop} {w w' : World} (h : AsksAny A G V kept w) (k : KeepOwn kept w w') : AsksAny A G V kept w' := ⟨h.1, fun p hp W hW => h.2 p hp W (k.trans hW)⟩
abbrev ToldOk (G : Pr → Que) (V : Pr → Prop) (x : Told) (t : Tags) (W : World) : Prop := PairsAt (fun g => ¬ t.own g ∧ t.kept g) W (x.v G) (G x.p).pairs ∧ V x.p
theorem reached_tells (fb mb kb A most : Nat) (p0 : Pr) (G : Pr → Que) (V : Pr → Prop) (t0 : Tags) (w : World)
   (hf : w.heap[fb]? = some (.cells #[.int .i64 p0.1, .int .i64 p0.2] PairT (0, 0))) (hm : w.heap[mb]? = some (.cells #[.int .i64 most] IntT (0, 0))) (hk : w.heap[kb]? = some (.cells #[.pointer (some ⟨A, 0, none⟩)] AskT (0, 0)))
   (hA : AsksAny A G V t0.kept w) (hV : V p0) (ho : ∀ b, t0.kept b → b < w.heap.size) (hn : ∀ b, ¬ t0.own b) (hfo : t0.kept fb ∧ t0.kept mb ∧ t0.kept kb) (hmo : most ≤ 1000000) :
   SeqTells Fence.wide 1 Tryz.prog reachedF #[.pointer (some ⟨fb, 0, none⟩), .pointer (some ⟨mb, 0, none⟩), .pointer (some ⟨kb, 0, none⟩)] (toldV G) (ToldOk G V) (fun ys => ys.map Told.p = reachL G most p0) (fun ys => ys.map Told.p <+: reachL G most p0) (most + 1) t0 w := by
 intro l J Jx W hu hJ hJx hY h0
 exact reached_iterG l fb mb kb A most p0 G V t0 J Jx W hJ hJx hY (hu.get hf) (hu.get hm) (hu.get hk) (hA.later (.up hu ho)) hV (fun b hb => Nat.lt_of_lt_of_le (ho b hb) hu.size) hn hfo h0 hmo
def look (Y : List (Pr × Nat)) (p : Pr) : Nat := ((Y.find? fun x => x.1 = p).map (·.2)).getD 0
theorem look_hit {Y : List (Pr × Nat)} {p : Pr} {j x : Nat} (h : Y[j]? = some (p, x)) (hn : (Y.map (·.1)).Nodup) : look Y p = x := by
 unfold look
 have hm := List.mem_of_getElem? h
 cases hf : Y.find? fun x => decide (x.1 = p) with
 | none => exact absurd (List.find?_eq_none.1 hf _ hm) (by simp)
 | some y =>
   have h1 := List.mem_of_find?_eq_some hf
   have h2 : y.1 = p := by simpa using List.find?_some hf
   obtain ⟨i, hi⟩ := List.getElem?_of_mem h1
   have hi2 : (Y.map (·.1))[i]? = some p := by rw [List.getElem?_map, hi]; simp [h2]
   have hj2 : (Y.map (·.1))[j]? = some p := by rw [List.getElem?_map, h]; rfl
   have hlt : i < (Y.map (·.1)).length := (List.getElem?_eq_some_iff.1 hi2).1
   have e : i = j := (List.getElem?_inj hlt hn).1 (hi2.trans hj2.symm)
   rw [e, h] at hi
   cases hi
   rfl
theorem look_miss {Y : List (Pr × Nat)} {p : Pr} (h : ∀ x ∈ Y, x.1 ≠ p) : look Y p = 0 := by
 unfold look
 rw [List.find?_eq_none.2 (fun x hx => by simpa using h x hx)]
 rfl
def YMap (w : World) (m : Nat) (Y : List (Pr × Nat)) : Prop := (Y.map (·.1)).Nodup ∧ ∃ (es : Array MapEntry) (clk : Nat), w.heap[m]? = some (.map es clk) ∧ Entries es pairK numV Y
theorem YMap.up {w w' : World} {m : Nat} {Y : List (Pr × Nat)} (h : YMap w m Y) (k : Up w w') : YMap w' m Y := ⟨h.1, let ⟨es, clk, q1, q2⟩ := h.2; ⟨es, clk, k.get q1, q2⟩⟩
theorem YMap.keep {w w' : World} {m : Nat} {Y : List (Pr × Nat)} (h : YMap w m Y) (k : w'.heap[m]? = w.heap[m]?) : YMap w' m Y := ⟨h.1, let ⟨es, clk, q1, q2⟩ := h.2; ⟨es, clk, k.trans q1, q2⟩⟩
theorem YMap.lt {w : World} {m : Nat} {Y : List (Pr × Nat)} (h : YMap w m Y) : m < w.heap.size := let ⟨_, _, q1, _⟩ := h.2; lt_of_heap q1
theorem YMap.look {w : World} {m : Nat} {Y : List (Pr × Nat)} (h : YMap w m Y) (p : Pr) : (Instr.lookup MpT (.map (some m)) (.agg #[.int .i64 p.1, .int .i64 p.2]) false).run Tryz.prog w = .ok (.int .i64 (look Y p)) w := by
 obtain ⟨es, clk, q1, q2⟩ := h.2
 rcases slot_cases Y p with hm | ⟨j, x, hj⟩
 · rw [look_miss hm]
   exact (pair_look_miss (f := numV) q1 q2 p hm).2
 · rw [look_hit hj h.1]
   exact (pair_look_hit (f := numV) q1 q2 p x j hj h.1).2
def holdsB (q : Que) (f : Pr → Bool) : Bool := if q.known = true then q.yes else if q.all = true then q.pairs.all f else q.pairs.any f
set_option maxRecDepth 100000 in
set_option maxHeartbeats 1600000 in
theorem holds_any (q : Que) (v : Value) (m : Nat) (Y : List (Pr × Nat)) (B : Nat → Prop) (w : World) (hY : YMap w m Y) (hp : PairsAt B w v q.pairs) :
   Calls Tryz.prog 47 #[QV q v, .map (some m)] w fun e w' => e = .returned (.bool (holdsB q fun p => decide (look Y p = 1))) ∧ Up w w' := by
 obtain ⟨res, hres⟩ : ∃ res, Hid (holdsB q (fun p => decide (look Y p = 1)) = res) := ⟨_, rfl⟩
 rw [hres.out]
 obtain ⟨va, vc, rfl⟩ := hp.form
 have HP := Lib.hid (And.intro hY hp)
 have hpl := hp.1
 unfold QV
 rcases hkn : q.known with _ | _
 · obtain ⟨al, hal⟩ : ∃ al, Hid (q.all = al) := ⟨_, rfl⟩
   rw [hal.out]
   have HK := Lib.hid hkn
   clear hY hp hkn
   go_enter Tryz.func47, Tryz.ntmps47
   go_wp2_with fail
   refine range_named fun A1 W1 hA1 hW1 => ?_
   have u1 : Up w W1 := by rw [hW1]; exact uq
   have hbx : Hid (W1.heap[w.heap.size]? = some (.cells #[.bool false, .bool q.yes, .bool al, .bool q.hard, .slice va q.pairs.length vc] QueT (0, 0))) := by
     unfold Hid
     rw [hW1]
     exact alloc_get _ _
   clear hW1
   subst hA1
   go_loopw [14] (fun kv wr => ∃ k : Nat, kv = .int .i64 k ∧ k ≤ q.pairs.length ∧ Up W1 wr ∧ Hid ((if al = true then (q.pairs.drop k).all (fun p => decide (look Y p = 1)) else (q.pairs.drop k).any (fun p => decide (look Y p = 1))) = res)) (fun kv _ => q.pairs.length - (intOf kv).toNat)
   case atStart => exact ⟨0, rfl, Nat.zero_le _, Up.refl _, by unfold Hid; rw [List.drop_zero, ← hres.out, ← hal.out]; simp [holdsB, HK.out]⟩
   case round =>
     obtain ⟨k, rfl, hk, hup, hq⟩ := hrel
     have s0 := hup.get hbx.out
     have b0 := cell_of s0 0; have g0 := ice_of s0 0; have b1 := cell_of s0 1; have g1 := ice_of s0 1; have b2 := cell_of s0 2; have g2 := ice_of s0 2; have b3 := cell_of s0 3; have g3 := ice_of s0 3; have b4 := cell_of s0 4; have g4 := ice_of s0 4; have b9 := lt_of_heap s0; (try simp only [World.size_alloc, List.getElem?_toArray, List.getElem?_cons_zero, List.getElem?_cons_succ] at b0 b1 b2 b3 b4 g0 g1 g2 g3 g4 b9); clear s0
     by_cases hkl : k < q.pairs.length
     · have hki : (k : Int) < q.pairs.length := by omega
       obtain ⟨z, hz⟩ : ∃ z, q.pairs[k]? = some z := ⟨_, List.getElem?_eq_getElem hkl⟩
       obtain ⟨_, a2, c2, he, hat⟩ := HP.out.2
       obtain ⟨g2, off2, ha, _, hgl2, y0, y1⟩ := hat k z hz
       injection he with he1 _ he3
       rw [ha] at he1
       subst he1
       have y0 := ((u1.trans hup).cells _ _ hgl2).trans y0
       have y1 := ((u1.trans hup).cells _ _ hgl2).trans y1
       have hgl2 := Nat.lt_of_lt_of_le hgl2 (u1.trans hup).size
       have hdrop : q.pairs.drop k = z :: q.pairs.drop (k + 1) := by rw [List.drop_eq_getElem_cons hkl, (List.getElem?_eq_some_iff.1 hz).2]
       have HU := Lib.hid (hup.trans (show Up wr (wr.alloc (.cells #[.int .i64 z.1, .int .i64 z.2] PairT)) from uq))
       have hlk := YMap.look (((HP.out.1.up u1).up HU.out).up (show Up (wr.alloc (.cells #[.int .i64 z.1, .int .i64 z.2] PairT)) (wr.alloc (.cells #[.int .i64 z.1, .int .i64 z.2] PairT)).drew from uq)) z
       have hq := hq.out
       rw [hdrop] at hq
       simp only [List.all_cons, List.any_cons] at hq
       obtain ⟨nz, hnz⟩ : ∃ nz, look Y z = nz := ⟨_, rfl⟩
       rw [hnz] at hlk hq
       have hdz : Hid (decide (nz = 1) = decide (nz = 1)) := rfl
       clear hat ha he3 hz hdrop hnz
       by_cases h1 : nz = 1
       · subst h1
         rcases al with _ | _
         · have hq2 : Hid (res = true) := by unfold Hid; rw [← hq]; simp
           clear hq hdz
           go_wp2_with fail
           go_region
           all_goals go_wp2_with fail
           all_goals go_ret
           all_goals exact ⟨by rw [hq2.out]; rfl, (u1.trans HU.out).drew⟩
         · have hq2 : Hid ((if true = true then (q.pairs.drop (k + 1)).all (fun p => decide (look Y p = 1)) else (q.pairs.drop (k + 1)).any (fun p => decide (look Y p = 1))) = res) := by unfold Hid; rw [← hq]; simp
           clear hq hdz
           go_wp2_with fail
           go_region
           all_goals go_wp2_with fail
           all_goals exact ⟨⟨k + 1, by simp, by omega, HU.out.drew, hq2⟩, by simp [intOf]; omega⟩
       · have e1 : ((nz : Int) == 1) = false := by simp; omega
         rcases al with _ | _
         · have hq2 : Hid ((if false = true then (q.pairs.drop (k + 1)).all (fun p => decide (look Y p = 1)) else (q.pairs.drop (k + 1)).any (fun p => decide (look Y p = 1))) = res) := by unfold Hid; rw [← hq]; simp [h1]
           clear hq hdz h1
           go_wp2_with fail
           go_region
           all_goals go_wp2_with fail
           all_goals exact ⟨⟨k + 1, by simp, by omega, HU.out.drew, hq2⟩, by simp [intOf]; omega⟩
         · have hq2 : Hid (res = false) := by unfold Hid; rw [← hq]; simp [h1]
           clear hq hdz h1
           go_wp2_with fail
           go_region
           all_goals go_wp2_with fail
           all_goals go_ret
           all_goals exact ⟨by rw [hq2.out]; rfl, (u1.trans HU.out).drew⟩
     · obtain rfl : k = q.pairs.length := by omega
       have hq2 : Hid (res = al) := by
         unfold Hid
         rw [← hq.out, List.drop_length]
         rcases al with _ | _ <;> rfl
       clear hq hkl
       go_wp2_with fail
       go_ret
       exact ⟨by rw [hq2.out]; rfl, u1.trans hup⟩
 · have e : q.yes = res := by rw [← hres.out]; simp [holdsB, hkn]
   rw [e]
   clear hY hp hkn e
   go_enter Tryz.func47, Tryz.ntmps47
   go_wp2_with fail
   go_ret
   exact ⟨rfl, uq⟩
end Go.Proofs.YtiaepldmgighbaaGreatDoor
