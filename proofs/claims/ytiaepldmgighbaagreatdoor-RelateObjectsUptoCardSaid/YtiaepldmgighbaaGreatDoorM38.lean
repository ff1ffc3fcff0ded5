import Derived.BigQuiet
import Derived.Test.YtiaepldmgighbaaGreatDoorM37
import Derived.Test.YtiaepldmgighbaaGreatDoorM17
namespace Go.Proofs.YtiaepldmgighbaaGreatDoor
open Go.RowKit
set_option linter.unusedSimpArgs false
set_option linter.unusedVariables false
abbrev DefT : TypeId := 101
set_option maxRecDepth 100000 in
set_option maxHeartbeats 3200000 in
theorem Pieces_ref (N : Nat → Prop) (A i n tcap gr b g : Nat) (es : Array MapEntry) (clk : Nat) (num : Int) (nm : ByteArray) (pv nv mv : Value) (sz : Nat) (said : ByteArray) (qs zs : List Nat) (xs : List (ByteArray × Nat)) (ns : List ByteArray) (ms : List Bool) (w : World)
   (h : AtH N A i n tcap gr b g es clk (.map none) 17 num nm pv nv mv sz said qs zs xs ns ms w) :
   Calls Tryz.prog 168 #[.pointer (some ⟨A, 0, none⟩), .int .i64 i] w fun e w' => e = .returned (.tuple #[.slice none 0 0, .int .i64 11]) ∧ Up w w' := by
 obtain ⟨pa, pcap, hpv, hpc, hpl, hpj⟩ := h.parts
 simp only [List.length_map] at hpv hpc hpl
 subst hpv
 clear hpj
 have H := Lib.hid h
 have a4 := lt_of_heap h.head
 have hji : (i : Int) < n := by have := h.less; omega
 clear h
 go_enter Tryz.func168, Tryz.ntmps168
 go_wp2_with (first | (go_at_call 60; refine (has_in (.map none) A n tcap _ _ i H.out.less _ (Up.get (show Up w _ from uq) H.out.head)).mono ?_; rintro e w2 ⟨rfl, hu2⟩; have u2 : Up w w2 := uq; have H2 := Lib.hid (H.out.up u2); have a0 := cell_of H2.out.head 0; have a4 := lt_of_heap H2.out.head; have g0 := H2.out.row.2; simp only [ptrV] at g0; have g4 := H2.out.row.1; have b0 := cell_of H2.out.blk 0; have b4 := lt_of_heap H2.out.blk; simp only [List.getElem?_toArray, List.getElem?_cons_zero, List.getElem?_cons_succ] at a0 b0))
 have u2' : Hid (Up w w2) := u2
 have HS : Hid (∀ X : World, Up w2 X → X.cell? ⟨A, 2, none⟩ = some (.map none) ∧ X.cell? ⟨b, 1, none⟩ = some (.int .i64 num)) := fun X hX => ⟨cell_of (hX.get H2.out.head) 2, cell_of (hX.get H2.out.blk) 1⟩
 have hlk : ∀ W : World, (Instr.lookup DefT (.map none) (.int .i64 num) true).run Tryz.prog W = .ok (.tuple #[.agg #[.slice none 0 0, .slice none 0 0], .bool false]) W := fun W => (run_lookup_none (kf := fun z : Int => Value.int .i64 z) (z := .agg #[.slice none 0 0, .slice none 0 0]) Tryz.underlying101 Tryz.underlying3 (intKeys .i64) (show (zeroValue 144).run Tryz.prog W = .ok (.agg #[.slice none 0 0, .slice none 0 0]) W by kernel_rfl) num).1
 clear g0 g4 a0 b0 u2 hu2
 go_region_held3 (fun X => X.cell? ⟨A, 2, none⟩ = some (.map none) ∧ X.cell? ⟨b, 1, none⟩ = some (.int .i64 num)) (exact HS.out _ (show Up w2 _ from uq)) (fail)
 all_goals go_wp2_with fail
 all_goals (clear hlk
            refine wp_region_rup (by kernel_rfl) (by kernel_rfl) ?_
            repeat (go_big_quiet_step (fail))
            refine wpQuiet_nil ?_
            intro W9 hw9
            obtain ⟨⟨W8, u8⟩, rfl⟩ := hw9
            have u9 := (u2'.out.trans (show Up w2 _ from uq)).trans u8
            go_wp2_with fail
            refine bodyPost_ret (v := .tuple #[.slice none 0 0, .int .i64 11]) (by simp [results, Tryz.results168, go_sem]) rfl ?_
            exact ⟨rfl, uq⟩)
theorem cell_farb {w : World} {b i p k : Nat} {v : Value} (h : p ≠ b) : (w.setCell ⟨p, k, none⟩ v).cell? ⟨b, i, none⟩ = w.cell? ⟨b, i, none⟩ := World.cell?_setCell_far _ _ _ _ h
def asksA (i j : Nat) (kx ky : Int) (xs ys : List Nat) (fq mq : Que) : Que :=
 if i = j ∨ ky = 1 ∨ ky = 2 then sayQ true
 else if kx = 1 then sayQ (ky != 3)
 else if kx = 3 then sayQ true
 else if kx = 2 then sayQ false
 else if kx = 16 then allQ (xs.map fun k => (k, j))
 else if ky = 16 then oneQ (ys.map fun k => (i, k))
 else if smallK kx ky = true ∨ (kx = 20 ∧ xs.getD 0 0 = j) then sayQ true
 else if kx = 13 ∧ ky = 13 then allQ [(xs.getD 0 0, ys.getD 0 0)]
 else if kx = 15 ∧ ky = 15 then fq
 else mq
structure TyR (R : Option Addr → Option Addr → World → Prop) (zs : List Nat) : Prop where
 up : ∀ (pa ma : Option Addr) (W W' : World), R pa ma W → Up W W' → R pa ma W'
 box : ∀ (pa ma : Option Addr) (W : World) (b : Nat) (cs : Array Value) (f : Nat × Nat) (x0 x1 x2 x3 x4 x5 : Value), R pa ma W → W.heap[b]? = some (Obj.cells cs AtyT f) → R pa ma (set6 W b x0 x1 x2 x3 x4 x5)
 ints : ∀ (pa ma : Option Addr) (W : World), R pa ma W → IntsV W pa zs
 far : ∀ (pa ma : Option Addr) (W : World), R pa ma W → zs ≠ [] → ∃ g off, pa = some ⟨g, off, none⟩ ∧ ∀ cs f, W.heap[g]? ≠ some (Obj.cells cs QueT f)
abbrev agT (k n : Int) (nm : ByteArray) (zl nl ml : Nat) (pa : Option Addr) (pc : Nat) (na : Option Addr) (nc : Nat) (ma : Option Addr) (mc : Nat) : Array Value := #[.int .i64 k, .int .i64 n, .string nm, .slice pa zl pc, .slice na nl nc, .slice ma ml mc]
def TyP (k n : Int) (nm : ByteArray) (zl nl ml : Nat) (R : Option Addr → Option Addr → World → Prop) (x : Array Value) (W : World) : Prop := ∃ pa pc na nc ma mc, x = agT k n nm zl nl ml pa pc na nc ma mc ∧ R pa ma W
def AnsQ (q : Que) (w : World) (e : Ending) (w' : World) : Prop := ∃ v, e = .returned (QV q v) ∧ PairsAt (fun g => w.heap.size ≤ g) w' v q.pairs ∧ Up w w'
theorem AnsQ.from {q : Que} {w W : World} {e : Ending} {w' : World} (h : AnsQ q W e w') (u : Up w W) : AnsQ q w e w' := let ⟨v, h1, h2, h3⟩ := h; ⟨v, h1, h2.loose fun g hg => Nat.le_trans u.size hg, u.trans h3⟩
section
variable (A i j : Nat) (kx nx ky ny : Int) (mx my : ByteArray) (zx lx dx zy ly dy : Nat) (Rx Ry : Option Addr → Option Addr → World → Prop) (w : World)
def AtR (i : Nat) (k n : Int) (nm : ByteArray) (zl nl ml : Nat) (R : Option Addr → Option Addr → World → Prop) (w : World) : Prop := ∀ W, Up w W → Calls Tryz.prog 130 #[.agg #[.pointer (some ⟨A, 0, none⟩)], .int .i64 i] W fun e w' => ∃ pa pc na nc ma mc, e = .returned (.agg (agT k n nm zl nl ml pa pc na nc ma mc)) ∧ R pa ma w' ∧ Up W w'
end
theorem TyP.up {k n : Int} {nm : ByteArray} {zl nl ml : Nat} {R : Option Addr → Option Addr → World → Prop} {zs : List Nat} (hR : TyR R zs) {x : Array Value} {W W' : World} (h : TyP k n nm zl nl ml R x W) (u : Up W W') : TyP k n nm zl nl ml R x W' := let ⟨pa, pc, na, nc, ma, mc, h1, h2⟩ := h; ⟨pa, pc, na, nc, ma, mc, h1, hR.up _ _ _ _ h2 u⟩
theorem TyP.box {k n : Int} {nm : ByteArray} {zl nl ml : Nat} {R : Option Addr → Option Addr → World → Prop} {zs : List Nat} (hR : TyR R zs) {x : Array Value} {W : World} {b : Nat} {cs : Array Value} {f : Nat × Nat} {x0 x1 x2 x3 x4 x5 : Value} (h : TyP k n nm zl nl ml R x W) (hb : W.heap[b]? = some (Obj.cells cs AtyT f)) : TyP k n nm zl nl ml R x (set6 W b x0 x1 x2 x3 x4 x5) := let ⟨pa, pc, na, nc, ma, mc, h1, h2⟩ := h; ⟨pa, pc, na, nc, ma, mc, h1, hR.box _ _ _ _ _ _ _ _ _ _ _ _ h2 hb⟩
set_option maxRecDepth 100000 in
set_option maxHeartbeats 25600000 in
theorem asks_walk (A i j : Nat) (kx nx ky ny : Int) (mx my : ByteArray) (xs ys : List Nat) (lx dx ly dy : Nat) (Rx Ry : Option Addr → Option Addr → World → Prop) (fq mq : Que) (w : World) (hRx : TyR Rx xs) (hRy : TyR Ry ys) (hax : AtR A i kx nx mx xs.length lx dx Rx w) (hay : AtR A j ky ny my ys.length ly dy Ry w)
   (hf : kx = 15 → ky = 15 → ∀ (W : World) (pa : Option Addr) (pc : Nat) (na : Option Addr) (nc : Nat) (ma : Option Addr) (mc : Nat) (qa : Option Addr) (qc : Nat) (oa : Option Addr) (oc : Nat) (la : Option Addr) (lc : Nat), Up w W → Rx pa ma W → Ry qa la W → Calls Tryz.prog 133 #[.agg #[.pointer (some ⟨A, 0, none⟩)], .agg (agT kx nx mx xs.length lx dx pa pc na nc ma mc), .agg (agT ky ny my ys.length ly dy qa qc oa oc la lc)] W (AnsQ fq W))
   (hm : ∀ W, Up w W → Calls Tryz.prog 134 #[.agg #[.pointer (some ⟨A, 0, none⟩)], .agg #[.int .i64 i, .int .i64 j]] W (AnsQ mq W)) (l1 : kx = 20 ∨ kx = 13 → 0 < xs.length) (l2 : ky = 13 → 0 < ys.length) (fx : xs.length ≤ 100000) (fy : ys.length ≤ 100000) :
   Calls Tryz.prog 87 #[.agg #[.pointer (some ⟨A, 0, none⟩)], .agg #[.int .i64 i, .int .i64 j]] w (AnsQ (asksA i j kx ky xs ys fq mq) w) := by
 have HX := Lib.hid (And.intro hRx hax)
 have HY := Lib.hid (And.intro hRy hay)
 have HF := Lib.hid (And.intro hf hm)
 have HL := Lib.hid (And.intro l1 (And.intro l2 (And.intro fx fy)))
 clear hRx hRy hax hay hf hm l1 l2 fx fy
 go_enter Tryz.func87, Tryz.ntmps87
 go_wp2_with fail
 have T0 := Lib.hid (three (Up.refl (((w.alloc (Obj.cells #[Value.pointer (some ⟨A, 0, none⟩)] 92)).alloc (Obj.cells #[Value.int IntKind.i64 i, Value.int IntKind.i64 j] 95)).alloc (Obj.cells #[Value.bool false, Value.bool false, Value.bool false, Value.bool false, Value.slice none 0 0] 97))))
 obtain ⟨w0, hw0⟩ : ∃ w0, Hid (w0 = (((w.alloc (Obj.cells #[Value.pointer (some ⟨A, 0, none⟩)] 92)).alloc (Obj.cells #[Value.int IntKind.i64 i, Value.int IntKind.i64 j] 95)).alloc (Obj.cells #[Value.bool false, Value.bool false, Value.bool false, Value.bool false, Value.slice none 0 0] 97))) := ⟨_, rfl⟩
 rw [← hw0.out]
 rw [← hw0.out] at T0
 have hu0 : Up w w0 := by rw [hw0.out]; exact uq
 refine wp_region_inv (AskI A i j w.heap.size (TyP kx nx mx xs.length lx dx Rx) (TyP ky ny my ys.length ly dy Ry) w0) (by kernel_rfl) (by kernel_rfl) ?_ ?_ ?_ ?_
 · exact ⟨uq, false, false, false, false, false, false, false, false, false, false, false, false, #[], #[], #[], #[], 0, 0, rfl, by simp only [askA, sl_false], by simp⟩
 · rintro l a w ⟨_, _, _, _, _, _, _, _, _, _, _, _, _, _, _, _, _, _, _, rfl, _⟩
   rfl
 · intro l a W hI hall
   obtain ⟨hu, l0, l1, l2, l3, l4, l5, l6, l7, l8, l9, l10, l11, x, y, c, d, b5, b6, rfl, rfl, hx3, hy7, h8, h9, h89, hA, hB⟩ := hI
   obtain rfl : l0 = true := hall 0 (by decide)
   obtain rfl : l1 = true := hall 1 (by decide)
   obtain rfl : l2 = true := hall 2 (by decide)
   obtain rfl : l3 = true := hall 3 (by decide)
   obtain rfl : l4 = true := hall 4 (by decide)
   obtain rfl : l5 = true := hall 5 (by decide)
   obtain rfl : l6 = true := hall 6 (by decide)
   obtain rfl : l7 = true := hall 7 (by decide)
   obtain rfl : l8 = true := hall 8 (by decide)
   obtain rfl : l9 = true := hall 9 (by decide)
   obtain rfl : l10 = true := hall 10 (by decide)
   obtain rfl : l11 = true := hall 11 (by decide)
   obtain ⟨_, pa, pc, na, nc, ma, mc, rfl, hRX⟩ := hx3 rfl
   obtain ⟨_, qa, qc, oa, oc, la, lc, rfl, hRY⟩ := hy7 rfl
   obtain ⟨m1, m2, _, m4⟩ := h8 rfl
   obtain ⟨n1, n2, _, n4⟩ := h9 rfl
   obtain ⟨_, rfl⟩ := m4 rfl
   obtain ⟨_, rfl⟩ := n4 rfl
   have HM := Lib.hid (And.intro m1 (And.intro m2 (And.intro n1 (And.intro n2 (h89 rfl rfl)))))
   have HT := Lib.hid (And.intro (hu.get T0.out.1) (And.intro (hu.get T0.out.2.1) (hu.get T0.out.2.2)))
   have HR := Lib.hid (And.intro hRX hRY)
   have uW : Hid (Up w W) := hu0.trans hu
   clear hx3 hy7 h8 h9 h89 hA hB m1 m2 n1 n2 m4 n4 hall hRX hRY hu hu0 hw0 T0
   have s0 := HM.out.2.1
   have x0 := cell_of s0 0; have xf0 := ice_of s0 0; have x1 := cell_of s0 1; have xf1 := ice_of s0 1; have x2 := cell_of s0 2; have xf2 := ice_of s0 2; have x3 := cell_of s0 3; have xf3 := ice_of s0 3; have x4 := cell_of s0 4; have xf4 := ice_of s0 4; have x5 := cell_of s0 5; have xf5 := ice_of s0 5; have xl := lt_of_heap s0; (try simp only [World.size_alloc, List.getElem?_toArray, List.getElem?_cons_zero, List.getElem?_cons_succ] at x0 xf0 x1 xf1 x2 xf2 x3 xf3 x4 xf4 x5 xf5 xl); clear s0
   have s0 := HM.out.2.2.2.1
   have y0 := cell_of s0 0; have yf0 := ice_of s0 0; have y1 := cell_of s0 1; have yf1 := ice_of s0 1; have y2 := cell_of s0 2; have yf2 := ice_of s0 2; have y3 := cell_of s0 3; have yf3 := ice_of s0 3; have y4 := cell_of s0 4; have yf4 := ice_of s0 4; have y5 := cell_of s0 5; have yf5 := ice_of s0 5; have yl := lt_of_heap s0; (try simp only [World.size_alloc, List.getElem?_toArray, List.getElem?_cons_zero, List.getElem?_cons_succ] at y0 yf0 y1 yf1 y2 yf2 y3 yf3 y4 yf4 y5 yf5 yl); clear s0
   have s0 := HT.out.2.1
   have z0 := cell_of s0 0; have zf0 := ice_of s0 0; have z1 := cell_of s0 1; have zf1 := ice_of s0 1; have zl := lt_of_heap s0; (try simp only [World.size_alloc, List.getElem?_toArray, List.getElem?_cons_zero, List.getElem?_cons_succ] at z0 zf0 z1 zf1 zl); clear s0
   have s0 := HT.out.1
   have v0 := cell_of s0 0; have vf0 := ice_of s0 0; have vl := lt_of_heap s0; (try simp only [World.size_alloc, List.getElem?_toArray, List.getElem?_cons_zero, List.getElem?_cons_succ] at v0 vf0 vl); clear s0
   have s0 := HT.out.2.2
   have d0 := cell_of s0 0; have df0 := ice_of s0 0; have d1 := cell_of s0 1; have df1 := ice_of s0 1; have d2 := cell_of s0 2; have df2 := ice_of s0 2; have d3 := cell_of s0 3; have df3 := ice_of s0 3; have d4 := cell_of s0 4; have df4 := ice_of s0 4; have dl := lt_of_heap s0; (try simp only [World.size_alloc, List.getElem?_toArray, List.getElem?_cons_zero, List.getElem?_cons_succ] at d0 df0 d1 df1 d2 df2 d3 df3 d4 df4 dl); clear s0
   clear xf0 xf1 xf2 xf3 xf4 xf5 yf0 yf1 yf2 yf3 yf4 yf5 zf0 zf1 vf0
   simp only [askA, sl_true]
   by_cases h1 : i = j ∨ ky = 1 ∨ ky = 2
   · have e0 : Hid (asksA i j kx ky xs ys fq mq = sayQ true) := by unfold Hid asksA; rw [if_pos h1]
     rcases h1 with rfl | rfl | rfl
     all_goals (go_wp2_with (first | (go_at_call 131; refine (says_any _ _).mono ?_; rintro e w5 ⟨rfl, hu5⟩; have u5 : Up W w5 := uq; have s0 := u5.get HT.out.2.2; have d0 := cell_of s0 0; have df0 := ice_of s0 0; have d1 := cell_of s0 1; have df1 := ice_of s0 1; have d2 := cell_of s0 2; have df2 := ice_of s0 2; have d3 := cell_of s0 3; have df3 := ice_of s0 3; have d4 := cell_of s0 4; have df4 := ice_of s0 4; have dl := lt_of_heap s0; (try simp only [World.size_alloc, List.getElem?_toArray, List.getElem?_cons_zero, List.getElem?_cons_succ] at d0 df0 d1 df1 d2 df2 d3 df3 d4 df4 dl); clear s0))
                all_goals (refine bodyPost_ret (v := QV (sayQ true) (.slice none 0 0)) (by simp [results, Tryz.results87, go_sem, d0, d1, d2, d3, d4, df0, df1, df2, df3, df4, dl]; rfl) rfl ?_
                           rw [e0.out]
                           have uw5 := uW.out.trans u5
                           exact ⟨_, rfl, PairsAt.nil _ _, uq⟩))
   have k1 : ((i : Int) == (j : Int)) = false := by simp; omega
   have k2 : (ky == 1) = false := by simp; omega
   have k3 : (ky == 2) = false := by simp; omega
   by_cases h2 : kx = 1
   · have e0 : Hid (asksA i j kx ky xs ys fq mq = sayQ (ky != 3)) := by unfold Hid asksA; rw [if_neg h1, if_pos h2]
     subst h2
     go_wp2_with (first | (go_at_call 131; refine (says_any _ _).mono ?_; rintro e w5 ⟨rfl, hu5⟩; have u5 : Up W w5 := uq; have s0 := u5.get HT.out.2.2; have d0 := cell_of s0 0; have df0 := ice_of s0 0; have d1 := cell_of s0 1; have df1 := ice_of s0 1; have d2 := cell_of s0 2; have df2 := ice_of s0 2; have d3 := cell_of s0 3; have df3 := ice_of s0 3; have d4 := cell_of s0 4; have df4 := ice_of s0 4; have dl := lt_of_heap s0; (try simp only [World.size_alloc, List.getElem?_toArray, List.getElem?_cons_zero, List.getElem?_cons_succ] at d0 df0 d1 df1 d2 df2 d3 df3 d4 df4 dl); clear s0))
     all_goals (refine bodyPost_ret (v := QV (sayQ (ky != 3)) (.slice none 0 0)) (by simp [results, Tryz.results87, go_sem, d0, d1, d2, d3, d4, df0, df1, df2, df3, df4, dl]; rfl) rfl ?_
                rw [e0.out]
                have uw5 := uW.out.trans u5
                exact ⟨_, rfl, PairsAt.nil _ _, uq⟩)
   have k4 : (kx == 1) = false := by simpa using h2
   by_cases h3 : kx = 3
   · have e0 : Hid (asksA i j kx ky xs ys fq mq = sayQ true) := by unfold Hid asksA; rw [if_neg h1, if_neg h2, if_pos h3]
     subst h3
     go_wp2_with (first | (go_at_call 131; refine (says_any _ _).mono ?_; rintro e w5 ⟨rfl, hu5⟩; have u5 : Up W w5 := uq; have s0 := u5.get HT.out.2.2; have d0 := cell_of s0 0; have df0 := ice_of s0 0; have d1 := cell_of s0 1; have df1 := ice_of s0 1; have d2 := cell_of s0 2; have df2 := ice_of s0 2; have d3 := cell_of s0 3; have df3 := ice_of s0 3; have d4 := cell_of s0 4; have df4 := ice_of s0 4; have dl := lt_of_heap s0; (try simp only [World.size_alloc, List.getElem?_toArray, List.getElem?_cons_zero, List.getElem?_cons_succ] at d0 df0 d1 df1 d2 df2 d3 df3 d4 df4 dl); clear s0))
     all_goals (refine bodyPost_ret (v := QV (sayQ true) (.slice none 0 0)) (by simp [results, Tryz.results87, go_sem, d0, d1, d2, d3, d4, df0, df1, df2, df3, df4, dl]; rfl) rfl ?_
                rw [e0.out]
                have uw5 := uW.out.trans u5
                exact ⟨_, rfl, PairsAt.nil _ _, uq⟩)
   have k5 : (kx == 3) = false := by simpa using h3
   by_cases h4 : kx = 2
   · have e0 : Hid (asksA i j kx ky xs ys fq mq = sayQ false) := by unfold Hid asksA; rw [if_neg h1, if_neg h2, if_neg h3, if_pos h4]
     subst h4
     go_wp2_with (first | (go_at_call 131; refine (says_any _ _).mono ?_; rintro e w5 ⟨rfl, hu5⟩; have u5 : Up W w5 := uq; have s0 := u5.get HT.out.2.2; have d0 := cell_of s0 0; have df0 := ice_of s0 0; have d1 := cell_of s0 1; have df1 := ice_of s0 1; have d2 := cell_of s0 2; have df2 := ice_of s0 2; have d3 := cell_of s0 3; have df3 := ice_of s0 3; have d4 := cell_of s0 4; have df4 := ice_of s0 4; have dl := lt_of_heap s0; (try simp only [World.size_alloc, List.getElem?_toArray, List.getElem?_cons_zero, List.getElem?_cons_succ] at d0 df0 d1 df1 d2 df2 d3 df3 d4 df4 dl); clear s0))
     all_goals (refine bodyPost_ret (v := QV (sayQ false) (.slice none 0 0)) (by simp [results, Tryz.results87, go_sem, d0, d1, d2, d3, d4, df0, df1, df2, df3, df4, dl]; rfl) rfl ?_
                rw [e0.out]
                have uw5 := uW.out.trans u5
                exact ⟨_, rfl, PairsAt.nil _ _, uq⟩)
   have k6 : (kx == 2) = false := by simpa using h4
   by_cases h5 : kx = 16
   · have e0 : Hid (asksA i j kx ky xs ys fq mq = allQ (xs.map fun k => (k, j))) := by unfold Hid asksA; rw [if_neg h1, if_neg h2, if_neg h3, if_neg h4, if_pos h5]
     subst h5
     go_wp2_with fail
     have hqb := QBox.start W true
     obtain ⟨WQ, hWQ⟩ : ∃ WQ, W.alloc (.cells #[.bool false, .bool false, .bool true, .bool false, .slice none 0 0] QueT) = WQ := ⟨_, rfl⟩
     rw [hWQ] at hqb ⊢
     clear hWQ d0 d1 d2 d3 d4 df0 df1 df2 df3 df4 dl v0 vl x0 x1 x2 x3 x4 x5 y0 y1 y2 y3 y4 y5 xl yl
     go_loopw [64] (fun iv wr => ∃ (k : Nat) (v : Value), k ≤ xs.length ∧ iv = .int .i64 k ∧ QBox W true ((xs.take k).map fun z => (z, j)) v wr) (fun iv _ => xs.length - (intOf iv).toNat)
     case atStart => exact ⟨0, .slice none 0 0, Nat.zero_le _, rfl, by rw [List.take_zero]; exact hqb⟩
     case round =>
       obtain ⟨k, v, hk, rfl, hQ⟩ := hrel
       have hln : ((xs.take k).map fun z => (z, j)).length = k := by rw [List.length_map, List.length_take]; omega
       obtain ⟨va, vcap, hva⟩ := ownsRow_form hQ.row
       rw [hln] at hva
       subst hva
       have HQ := Lib.hid hQ
       have HLN := Lib.hid hln
       have hup := Lib.hid hQ.up
       have hrz := lt_of_heap HT.out.2.2
       have HROW : Hid (wr.ownsRow 0 PairT 2 (.slice va k vcap) k (flatP ((xs.take k).map fun z => (z, j)))) := by have h := hQ.row; rw [hln] at h; exact h
       have s0 := hup.out.get HT.out.2.1
       clear z0 z1 zl
       have z0 := cell_of s0 0; have zf0 := ice_of s0 0; have z1 := cell_of s0 1; have zf1 := ice_of s0 1; have zl := lt_of_heap s0; (try simp only [World.size_alloc, List.getElem?_toArray, List.getElem?_cons_zero, List.getElem?_cons_succ] at z0 zf0 z1 zf1 zl); clear s0
       clear zf0 zf1 hQ hln
       have s1 := HQ.out.box
       have q0 := cell_of s1 0; have qf0 := ice_of s1 0; have q1 := cell_of s1 1; have qf1 := ice_of s1 1; have q2 := cell_of s1 2; have qf2 := ice_of s1 2; have q3 := cell_of s1 3; have qf3 := ice_of s1 3; have q4 := cell_of s1 4; have qf4 := ice_of s1 4; have ql := lt_of_heap s1; (try simp only [World.size_alloc, List.getElem?_toArray, List.getElem?_cons_zero, List.getElem?_cons_succ] at q0 qf0 q1 qf1 q2 qf2 q3 qf3 q4 qf4 ql); clear s1
       have hfz : xs.length ≤ 100000 := HL.out.2.2.1
       by_cases hlt : k < xs.length
       · have hki : (k : Int) < xs.length := by omega
         obtain ⟨z, hz⟩ : ∃ z, xs[k]? = some z := ⟨_, List.getElem?_eq_getElem hlt⟩
         obtain ⟨g, off, rfl, hgl, hgc⟩ := HX.out.1.ints pa ma W HR.out.1 k z hz
         have c0 := (hup.out.cells _ _ hgl).trans hgc
         have cl := Nat.lt_of_lt_of_le hgl hup.out.size
         obtain ⟨i0, hi, hz0, hz1, hz2⟩ := info_parts pairX_info
         have hnx : Hid (((xs.take (k + 1)).map fun z => (z, j)) = ((xs.take k).map fun z => (z, j)) ++ [(z, j)]) := by unfold Hid; rw [List.take_add_one, hz, List.map_append]; rfl
         clear hz hgc
         go_wp2_with (at_builtin; go_must (refine wpList_append_new rfl _ _ 86 rfl PairT i0 (.agg #[.int .i64 0, .int .i64 0]) 2 16 Tryz.underlying86 hi hz0 hz1 hz2 rfl (by decide) (.slice va k vcap) k (flatP ((xs.take k).map fun z => (z, j))) rfl (ownsRow_up HROW.out uq) _ 1 1 rfl (by first | rfl | (simp; done) | omega) rfl (by intro u hu; have hu2 : u = .int .i64 ((z, j) : Pr).1 ∨ u = .int .i64 ((z, j) : Pr).2 := (by simpa using hu); rcases hu2 with hu2 | hu2 <;> rw [hu2] <;> rfl) (by unfold maxLen; omega) (by omega) ?_; intro sa' cap' w7 hown' hgrow hblk; have U7 : Up W w7 := Up.grown (hup.out.trans (show Up wr _ from uq)) hgrow (fun r e => Nat.le_of_lt (HQ.out.own r e)); have s0 := grown_get hgrow (alloc_keep HQ.out.box) HQ.out.far; have HY7 := Lib.hid (And.intro hown' (And.intro hblk (And.intro s0 U7))); have q0 := cell_of s0 0; have qf0 := ice_of s0 0; have q1 := cell_of s0 1; have qf1 := ice_of s0 1; have q2 := cell_of s0 2; have qf2 := ice_of s0 2; have q3 := cell_of s0 3; have qf3 := ice_of s0 3; have q4 := cell_of s0 4; have qf4 := ice_of s0 4; have ql := lt_of_heap s0; (try simp only [World.size_alloc, List.getElem?_toArray, List.getElem?_cons_zero, List.getElem?_cons_succ] at q0 qf0 q1 qf1 q2 qf2 q3 qf3 q4 qf4 ql); clear s0; clear hown' hgrow hblk))
         all_goals exact ⟨⟨k + 1, _, by omega, by simp, by rw [hnx.out]; exact HQ.out.push (p := (z, j)) HLN.out.symm rfl rfl HY7.out.1 HY7.out.2.1 HY7.out.2.2.1 HY7.out.2.2.2⟩, by simp [intOf]; omega⟩
       · obtain rfl : k = xs.length := by omega
         have hall2 : Hid (((xs.take xs.length).map fun z => (z, j)) = xs.map fun z => (z, j)) := by unfold Hid; rw [List.take_length]
         have s0 := hup.out.get HT.out.2.2
         have d0 := cell_of s0 0; have df0 := ice_of s0 0; have d1 := cell_of s0 1; have df1 := ice_of s0 1; have d2 := cell_of s0 2; have df2 := ice_of s0 2; have d3 := cell_of s0 3; have df3 := ice_of s0 3; have d4 := cell_of s0 4; have df4 := ice_of s0 4; have dl := lt_of_heap s0; (try simp only [World.size_alloc, List.getElem?_toArray, List.getElem?_cons_zero, List.getElem?_cons_succ] at d0 df0 d1 df1 d2 df2 d3 df3 d4 df4 dl); clear s0
         clear hlt
         go_wp2_with fail
         refine bodyPost_ret (v := QV (allQ (xs.map fun z => (z, j))) (.slice va xs.length vcap)) (by simp [results, Tryz.results87, go_sem, d0, d1, d2, d3, d4, df0, df1, df2, df3, df4, dl, allQ]; rfl) rfl ?_
         rw [e0.out]
         have u6 := uW.out.trans hup.out
         have HQ2 : QBox W true (xs.map fun z => (z, j)) (.slice va xs.length vcap) wr := by rw [← hall2.out]; exact HQ.out
         exact ⟨_, by simp [QV, allQ], ((HQ2.pairs (B := fun g => W.heap.size ≤ g) (by rw [List.length_map]; omega) (fun g h => h)).five (fun g hg => by omega)).loose (fun g hg => by have := uW.out.size; omega), uq⟩
   have k7 : (kx == 16) = false := by simpa using h5
   by_cases h6 : ky = 16
   · have e0 : Hid (asksA i j kx ky xs ys fq mq = oneQ (ys.map fun k => (i, k))) := by unfold Hid asksA; rw [if_neg h1, if_neg h2, if_neg h3, if_neg h4, if_neg h5, if_pos h6]
     subst h6
     go_wp2_with fail
     have hqb := QBox.start W false
     obtain ⟨WQ, hWQ⟩ : ∃ WQ, W.alloc (.cells #[.bool false, .bool false, .bool false, .bool false, .slice none 0 0] QueT) = WQ := ⟨_, rfl⟩
     rw [hWQ] at hqb ⊢
     clear hWQ d0 d1 d2 d3 d4 df0 df1 df2 df3 df4 dl v0 vl x0 x1 x2 x3 x4 x5 y0 y1 y2 y3 y4 y5 xl yl
     go_loopw [87] (fun iv wr => ∃ (k : Nat) (v : Value), k ≤ ys.length ∧ iv = .int .i64 k ∧ QBox W false ((ys.take k).map fun z => (i, z)) v wr) (fun iv _ => ys.length - (intOf iv).toNat)
     case atStart => exact ⟨0, .slice none 0 0, Nat.zero_le _, rfl, by rw [List.take_zero]; exact hqb⟩
     case round =>
       obtain ⟨k, v, hk, rfl, hQ⟩ := hrel
       have hln : ((ys.take k).map fun z => (i, z)).length = k := by rw [List.length_map, List.length_take]; omega
       obtain ⟨va, vcap, hva⟩ := ownsRow_form hQ.row
       rw [hln] at hva
       subst hva
       have HQ := Lib.hid hQ
       have HLN := Lib.hid hln
       have hup := Lib.hid hQ.up
       have hrz := lt_of_heap HT.out.2.2
       have HROW : Hid (wr.ownsRow 0 PairT 2 (.slice va k vcap) k (flatP ((ys.take k).map fun z => (i, z)))) := by have h := hQ.row; rw [hln] at h; exact h
       have s0 := hup.out.get HT.out.2.1
       clear z0 z1 zl
       have z0 := cell_of s0 0; have zf0 := ice_of s0 0; have z1 := cell_of s0 1; have zf1 := ice_of s0 1; have zl := lt_of_heap s0; (try simp only [World.size_alloc, List.getElem?_toArray, List.getElem?_cons_zero, List.getElem?_cons_succ] at z0 zf0 z1 zf1 zl); clear s0
       clear zf0 zf1 hQ hln
       have s1 := HQ.out.box
       have q0 := cell_of s1 0; have qf0 := ice_of s1 0; have q1 := cell_of s1 1; have qf1 := ice_of s1 1; have q2 := cell_of s1 2; have qf2 := ice_of s1 2; have q3 := cell_of s1 3; have qf3 := ice_of s1 3; have q4 := cell_of s1 4; have qf4 := ice_of s1 4; have ql := lt_of_heap s1; (try simp only [World.size_alloc, List.getElem?_toArray, List.getElem?_cons_zero, List.getElem?_cons_succ] at q0 qf0 q1 qf1 q2 qf2 q3 qf3 q4 qf4 ql); clear s1
       have hfz : ys.length ≤ 100000 := HL.out.2.2.2
       by_cases hlt : k < ys.length
       · have hki : (k : Int) < ys.length := by omega
         obtain ⟨z, hz⟩ : ∃ z, ys[k]? = some z := ⟨_, List.getElem?_eq_getElem hlt⟩
         obtain ⟨g, off, rfl, hgl, hgc⟩ := HY.out.1.ints qa la W HR.out.2 k z hz
         have c0 := (hup.out.cells _ _ hgl).trans hgc
         have cl := Nat.lt_of_lt_of_le hgl hup.out.size
         obtain ⟨i0, hi, hz0, hz1, hz2⟩ := info_parts pairX_info
         have hnx : Hid (((ys.take (k + 1)).map fun z => (i, z)) = ((ys.take k).map fun z => (i, z)) ++ [(i, z)]) := by unfold Hid; rw [List.take_add_one, hz, List.map_append]; rfl
         clear hz hgc
         go_wp2_with (at_builtin; go_must (refine wpList_append_new rfl _ _ 86 rfl PairT i0 (.agg #[.int .i64 0, .int .i64 0]) 2 16 Tryz.underlying86 hi hz0 hz1 hz2 rfl (by decide) (.slice va k vcap) k (flatP ((ys.take k).map fun z => (i, z))) rfl (ownsRow_up HROW.out uq) _ 1 1 rfl (by first | rfl | (simp; done) | omega) rfl (by intro u hu; have hu2 : u = .int .i64 ((i, z) : Pr).1 ∨ u = .int .i64 ((i, z) : Pr).2 := (by simpa using hu); rcases hu2 with hu2 | hu2 <;> rw [hu2] <;> rfl) (by unfold maxLen; omega) (by omega) ?_; intro sa' cap' w7 hown' hgrow hblk; have U7 : Up W w7 := Up.grown (hup.out.trans (show Up wr _ from uq)) hgrow (fun r e => Nat.le_of_lt (HQ.out.own r e)); have s0 := grown_get hgrow (alloc_keep HQ.out.box) HQ.out.far; have HY7 := Lib.hid (And.intro hown' (And.intro hblk (And.intro s0 U7))); have q0 := cell_of s0 0; have qf0 := ice_of s0 0; have q1 := cell_of s0 1; have qf1 := ice_of s0 1; have q2 := cell_of s0 2; have qf2 := ice_of s0 2; have q3 := cell_of s0 3; have qf3 := ice_of s0 3; have q4 := cell_of s0 4; have qf4 := ice_of s0 4; have ql := lt_of_heap s0; (try simp only [World.size_alloc, List.getElem?_toArray, List.getElem?_cons_zero, List.getElem?_cons_succ] at q0 qf0 q1 qf1 q2 qf2 q3 qf3 q4 qf4 ql); clear s0; clear hown' hgrow hblk))
         all_goals exact ⟨⟨k + 1, _, by omega, by simp, by rw [hnx.out]; exact HQ.out.push (p := (i, z)) HLN.out.symm rfl rfl HY7.out.1 HY7.out.2.1 HY7.out.2.2.1 HY7.out.2.2.2⟩, by simp [intOf]; omega⟩
       · obtain rfl : k = ys.length := by omega
         have hall2 : Hid (((ys.take ys.length).map fun z => (i, z)) = ys.map fun z => (i, z)) := by unfold Hid; rw [List.take_length]
         have s0 := hup.out.get HT.out.2.2
         have d0 := cell_of s0 0; have df0 := ice_of s0 0; have d1 := cell_of s0 1; have df1 := ice_of s0 1; have d2 := cell_of s0 2; have df2 := ice_of s0 2; have d3 := cell_of s0 3; have df3 := ice_of s0 3; have d4 := cell_of s0 4; have df4 := ice_of s0 4; have dl := lt_of_heap s0; (try simp only [World.size_alloc, List.getElem?_toArray, List.getElem?_cons_zero, List.getElem?_cons_succ] at d0 df0 d1 df1 d2 df2 d3 df3 d4 df4 dl); clear s0
         clear hlt
         go_wp2_with fail
         refine bodyPost_ret (v := QV (oneQ (ys.map fun z => (i, z))) (.slice va ys.length vcap)) (by simp [results, Tryz.results87, go_sem, d0, d1, d2, d3, d4, df0, df1, df2, df3, df4, dl, oneQ]; rfl) rfl ?_
         rw [e0.out]
         have u6 := uW.out.trans hup.out
         have HQ2 : QBox W false (ys.map fun z => (i, z)) (.slice va ys.length vcap) wr := by rw [← hall2.out]; exact HQ.out
         exact ⟨_, by simp [QV, oneQ], ((HQ2.pairs (B := fun g => W.heap.size ≤ g) (by rw [List.length_map]; omega) (fun g h => h)).five (fun g hg => by omega)).loose (fun g hg => by have := uW.out.size; omega), uq⟩
   have k8 : (ky == 16) = false := by simpa using h6
   go_wp2_with fail
   obtain ⟨sm, hsm⟩ : ∃ sm, Hid (smallK kx ky = sm) := ⟨_, rfl⟩
   have rx0 : ∀ q : RUp W, q.W.cell? ⟨b5, 0, none⟩ = some (.int .i64 kx) := fun q => (q.up.cells _ _ xl).trans x0
   have rx1 : ∀ q : RUp W, q.W.cell? ⟨b5, 1, none⟩ = some (.int .i64 nx) := fun q => (q.up.cells _ _ xl).trans x1
   have rx2 : ∀ q : RUp W, q.W.cell? ⟨b5, 2, none⟩ = some (.string mx) := fun q => (q.up.cells _ _ xl).trans x2
   have rx3 : ∀ q : RUp W, q.W.cell? ⟨b5, 3, none⟩ = some (.slice pa xs.length pc) := fun q => (q.up.cells _ _ xl).trans x3
   have rx4 : ∀ q : RUp W, q.W.cell? ⟨b5, 4, none⟩ = some (.slice na lx nc) := fun q => (q.up.cells _ _ xl).trans x4
   have rx5 : ∀ q : RUp W, q.W.cell? ⟨b5, 5, none⟩ = some (.slice ma dx mc) := fun q => (q.up.cells _ _ xl).trans x5
   have ry0 : ∀ q : RUp W, q.W.cell? ⟨b6, 0, none⟩ = some (.int .i64 ky) := fun q => (q.up.cells _ _ yl).trans y0
   have ry1 : ∀ q : RUp W, q.W.cell? ⟨b6, 1, none⟩ = some (.int .i64 ny) := fun q => (q.up.cells _ _ yl).trans y1
   have ry2 : ∀ q : RUp W, q.W.cell? ⟨b6, 2, none⟩ = some (.string my) := fun q => (q.up.cells _ _ yl).trans y2
   have ry3 : ∀ q : RUp W, q.W.cell? ⟨b6, 3, none⟩ = some (.slice qa ys.length qc) := fun q => (q.up.cells _ _ yl).trans y3
   have ry4 : ∀ q : RUp W, q.W.cell? ⟨b6, 4, none⟩ = some (.slice oa ly oc) := fun q => (q.up.cells _ _ yl).trans y4
   have ry5 : ∀ q : RUp W, q.W.cell? ⟨b6, 5, none⟩ = some (.slice la dy lc) := fun q => (q.up.cells _ _ yl).trans y5
   have rz1 : ∀ q : RUp W, q.W.cell? ⟨w.heap.size + 1, 1, none⟩ = some (.int .i64 j) := fun q => (q.up.cells _ _ zl).trans z1
   have HCC : Hid (∀ q : RUp W, Calls Tryz.prog 132 #[.agg (agT kx nx mx xs.length lx dx pa pc na nc ma mc), .agg (agT ky ny my ys.length ly dy qa qc oa oc la lc)] q.W fun e w' => e = .returned (.bool sm) ∧ Up q.W w') := fun q => by
     rw [← hsm.out]
     exact small_any kx nx ky ny mx my _ _ _ _ _ _ q.W
   clear d0 d1 d2 d3 d4 df0 df1 df2 df3 df4 dl
   clear x0 x1 x2 x3 x4 x5 y0 y1 y2 y3 y4 y5 z0 z1 v0 xl yl zl vl
   have e6 : asksA i j kx ky xs ys fq mq = if smallK kx ky = true ∨ (kx = 20 ∧ xs.getD 0 0 = j) then sayQ true else if kx = 13 ∧ ky = 13 then allQ [(xs.getD 0 0, ys.getD 0 0)] else if kx = 15 ∧ ky = 15 then fq else mq := by unfold asksA; rw [if_neg h1, if_neg h2, if_neg h3, if_neg h4, if_neg h5, if_neg h6]
   have E6 := Lib.hid e6
   clear e6
   cases sm
   rotate_left 1
   · have E7 : Hid (asksA i j kx ky xs ys fq mq = sayQ true) := by unfold Hid; rw [E6.out, if_pos (.inl hsm.out)]
     refine wp_region_rup (by kernel_rfl) (by kernel_rfl) ?_
     repeat (go_big_quiet_step ((go_at_call 132; rename_i q; exact Calls.rup_of q (HCC.out q))))
     refine wpQuiet_nil ?_
     intro W9 hw9
     have u9 : Up W W9 := by
       obtain ⟨q, rfl⟩ := hw9
       exact q.up
     have uW9 : Hid (Up w W9) := uW.out.trans u9
     clear hw9 rx0 rx1 rx2 rx3 rx4 rx5 ry0 ry1 ry2 ry3 ry4 ry5 rz1
     go_wp2_with (first | (go_at_call 131; refine (says_any _ _).mono ?_; rintro e w5 ⟨rfl, hu5⟩; have u5 : Up W9 w5 := uq; have s0 := u5.get (u9.get HT.out.2.2); have d0 := cell_of s0 0; have df0 := ice_of s0 0; have d1 := cell_of s0 1; have df1 := ice_of s0 1; have d2 := cell_of s0 2; have df2 := ice_of s0 2; have d3 := cell_of s0 3; have df3 := ice_of s0 3; have d4 := cell_of s0 4; have df4 := ice_of s0 4; have dl := lt_of_heap s0; (try simp only [World.size_alloc, List.getElem?_toArray, List.getElem?_cons_zero, List.getElem?_cons_succ] at d0 df0 d1 df1 d2 df2 d3 df3 d4 df4 dl); clear s0))
     refine bodyPost_ret (v := QV (sayQ true) (.slice none 0 0)) (by simp [results, Tryz.results87, go_sem, d0, d1, d2, d3, d4, df0, df1, df2, df3, df4, dl]; rfl) rfl ?_
     rw [E7.out]
     have uw5 := uW9.out.trans u5
     exact ⟨_, rfl, PairsAt.nil _ _, uq⟩
   have hnk : ¬ smallK kx ky = true := by rw [hsm.out]; decide
   by_cases h7 : kx = 20
   · subst h7
     have hxl := HL.out.1 (.inl rfl)
     obtain ⟨z, hzd⟩ : ∃ z, Hid (xs.getD 0 0 = z) := ⟨_, rfl⟩
     have hz : xs[0]? = some z := by rw [← hzd.out, List.getD_eq_getElem?_getD, List.getElem?_eq_getElem hxl]; rfl
     obtain ⟨g, off, rfl, hgl, hgc⟩ := HX.out.1.ints pa ma W HR.out.1 0 z hz
     have rp : ∀ q : RUp W, q.W.cell? ⟨g, off, none⟩ = some (.int .i64 z) := fun q => (q.up.cells _ _ hgl).trans hgc
     have hxi : (0 : Int) < xs.length := by omega
     clear hz hgc
     by_cases h8 : z = j
     · have E7 : Hid (asksA i j 20 ky xs ys fq mq = sayQ true) := by unfold Hid; rw [E6.out, if_pos (.inr ⟨rfl, by rw [hzd.out]; exact h8⟩)]
       have hzj : ((z : Int) == (j : Int)) = true := by simp; omega
       refine wp_region_rup (by kernel_rfl) (by kernel_rfl) ?_
       repeat (go_big_quiet_step ((go_at_call 132; rename_i q; exact Calls.rup_of q (HCC.out q))))
       refine wpQuiet_nil ?_
       intro W9 hw9
       have u9 : Up W W9 := by
         obtain ⟨q, rfl⟩ := hw9
         exact q.up
       have uW9 : Hid (Up w W9) := uW.out.trans u9
       clear hw9 rx0 rx1 rx2 rx3 rx4 rx5 ry0 ry1 ry2 ry3 ry4 ry5 rz1 rp
       go_wp2_with (first | (go_at_call 131; refine (says_any _ _).mono ?_; rintro e w5 ⟨rfl, hu5⟩; have u5 : Up W9 w5 := uq; have s0 := u5.get (u9.get HT.out.2.2); have d0 := cell_of s0 0; have df0 := ice_of s0 0; have d1 := cell_of s0 1; have df1 := ice_of s0 1; have d2 := cell_of s0 2; have df2 := ice_of s0 2; have d3 := cell_of s0 3; have df3 := ice_of s0 3; have d4 := cell_of s0 4; have df4 := ice_of s0 4; have dl := lt_of_heap s0; (try simp only [World.size_alloc, List.getElem?_toArray, List.getElem?_cons_zero, List.getElem?_cons_succ] at d0 df0 d1 df1 d2 df2 d3 df3 d4 df4 dl); clear s0))
       refine bodyPost_ret (v := QV (sayQ true) (.slice none 0 0)) (by simp [results, Tryz.results87, go_sem, d0, d1, d2, d3, d4, df0, df1, df2, df3, df4, dl]; rfl) rfl ?_
       rw [E7.out]
       have uw5 := uW9.out.trans u5
       exact ⟨_, rfl, PairsAt.nil _ _, uq⟩
     · have E7 : Hid (asksA i j 20 ky xs ys fq mq = mq) := by unfold Hid; rw [E6.out, if_neg (by rintro (h | h); exact hnk h; exact h8 (by rw [← hzd.out]; exact h.2)), if_neg (by omega), if_neg (by omega)]
       have hzj : ((z : Int) == (j : Int)) = false := by simp; omega
       refine wp_region_rup (by kernel_rfl) (by kernel_rfl) ?_
       repeat (go_big_quiet_step ((go_at_call 132; rename_i q; exact Calls.rup_of q (HCC.out q))))
       refine wpQuiet_nil ?_
       intro W9 hw9
       have u9 : Up W W9 := by
         obtain ⟨q, rfl⟩ := hw9
         exact q.up
       have uW9 : Hid (Up w W9) := uW.out.trans u9
       clear hw9 rx0 rx1 rx2 rx3 rx4 rx5 ry0 ry1 ry2 ry3 ry4 ry5 rz1 rp
       have s0 := u9.get HM.out.2.1
       have x0 := cell_of s0 0; have xf0 := ice_of s0 0; have x1 := cell_of s0 1; have xf1 := ice_of s0 1; have x2 := cell_of s0 2; have xf2 := ice_of s0 2; have x3 := cell_of s0 3; have xf3 := ice_of s0 3; have x4 := cell_of s0 4; have xf4 := ice_of s0 4; have x5 := cell_of s0 5; have xf5 := ice_of s0 5; have xl := lt_of_heap s0; (try simp only [World.size_alloc, List.getElem?_toArray, List.getElem?_cons_zero, List.getElem?_cons_succ] at x0 xf0 x1 xf1 x2 xf2 x3 xf3 x4 xf4 x5 xf5 xl); clear s0
       have s0 := u9.get HM.out.2.2.2.1
       have y0 := cell_of s0 0; have yf0 := ice_of s0 0; have y1 := cell_of s0 1; have yf1 := ice_of s0 1; have y2 := cell_of s0 2; have yf2 := ice_of s0 2; have y3 := cell_of s0 3; have yf3 := ice_of s0 3; have y4 := cell_of s0 4; have yf4 := ice_of s0 4; have y5 := cell_of s0 5; have yf5 := ice_of s0 5; have yl := lt_of_heap s0; (try simp only [World.size_alloc, List.getElem?_toArray, List.getElem?_cons_zero, List.getElem?_cons_succ] at y0 yf0 y1 yf1 y2 yf2 y3 yf3 y4 yf4 y5 yf5 yl); clear s0
       have s0 := u9.get HT.out.2.1
       have z0 := cell_of s0 0; have zf0 := ice_of s0 0; have z1 := cell_of s0 1; have zf1 := ice_of s0 1; have zl := lt_of_heap s0; (try simp only [World.size_alloc, List.getElem?_toArray, List.getElem?_cons_zero, List.getElem?_cons_succ] at z0 zf0 z1 zf1 zl); clear s0
       have s0 := u9.get HT.out.1
       have v0 := cell_of s0 0; have vf0 := ice_of s0 0; have vl := lt_of_heap s0; (try simp only [World.size_alloc, List.getElem?_toArray, List.getElem?_cons_zero, List.getElem?_cons_succ] at v0 vf0 vl); clear s0
       have hrz : w.heap.size + 1 + 1 < W9.heap.size := lt_of_heap (u9.get HT.out.2.2)
       clear xf0 xf1 xf2 xf3 xf4 xf5 yf0 yf1 yf2 yf3 yf4 yf5 zf0 zf1 vf0
       go_wp2_with (first | (go_at_call 134; refine (HF.out.2 W9 uW9.out).mono ?_; rintro e w5 ⟨v5, rfl, hp5, hu5⟩; have u5 : Up W9 w5 := uq; obtain ⟨a5, c5, hv5⟩ := hp5.form; subst hv5; simp only [QV]; have HP5 := Lib.hid hp5; have s0 := u5.get (u9.get HT.out.2.2); have d0 := cell_of s0 0; have df0 := ice_of s0 0; have d1 := cell_of s0 1; have df1 := ice_of s0 1; have d2 := cell_of s0 2; have df2 := ice_of s0 2; have d3 := cell_of s0 3; have df3 := ice_of s0 3; have d4 := cell_of s0 4; have df4 := ice_of s0 4; have dl := lt_of_heap s0; (try simp only [World.size_alloc, List.getElem?_toArray, List.getElem?_cons_zero, List.getElem?_cons_succ] at d0 df0 d1 df1 d2 df2 d3 df3 d4 df4 dl); clear s0; clear hp5))
       refine bodyPost_ret (v := QV mq (.slice a5 mq.pairs.length c5)) (by simp [results, Tryz.results87, go_sem, QV, d0, d1, d2, d3, d4, df0, df1, df2, df3, df4, dl]) rfl ?_
       rw [E7.out]
       have uw5 := uW9.out.trans u5
       exact ⟨_, rfl, (HP5.out.five (fun g hg => by omega)).loose (fun g hg => Nat.le_trans uW9.out.size hg), uq⟩
   have k9 : (kx == 20) = false := by simpa using h7
   have e7 : Hid (asksA i j kx ky xs ys fq mq = if kx = 13 ∧ ky = 13 then allQ [(xs.getD 0 0, ys.getD 0 0)] else if kx = 15 ∧ ky = 15 then fq else mq) := by unfold Hid; rw [E6.out, if_neg (by rintro (h | h); exact hnk h; exact h7 h.1)]
   refine wp_region_rup (by kernel_rfl) (by kernel_rfl) ?_
   repeat (go_big_quiet_step ((go_at_call 132; rename_i q; exact Calls.rup_of q (HCC.out q))))
   refine wpQuiet_nil ?_
   intro W9 hw9
   have u9 : Up W W9 := by
     obtain ⟨q, rfl⟩ := hw9
     exact q.up
   have uW9 : Hid (Up w W9) := uW.out.trans u9
   clear hw9 rx0 rx1 rx2 rx3 rx4 rx5 ry0 ry1 ry2 ry3 ry4 ry5 rz1
   have s0 := u9.get HM.out.2.1
   have x0 := cell_of s0 0; have xf0 := ice_of s0 0; have x1 := cell_of s0 1; have xf1 := ice_of s0 1; have x2 := cell_of s0 2; have xf2 := ice_of s0 2; have x3 := cell_of s0 3; have xf3 := ice_of s0 3; have x4 := cell_of s0 4; have xf4 := ice_of s0 4; have x5 := cell_of s0 5; have xf5 := ice_of s0 5; have xl := lt_of_heap s0; (try simp only [World.size_alloc, List.getElem?_toArray, List.getElem?_cons_zero, List.getElem?_cons_succ] at x0 xf0 x1 xf1 x2 xf2 x3 xf3 x4 xf4 x5 xf5 xl); clear s0
   have s0 := u9.get HM.out.2.2.2.1
   have y0 := cell_of s0 0; have yf0 := ice_of s0 0; have y1 := cell_of s0 1; have yf1 := ice_of s0 1; have y2 := cell_of s0 2; have yf2 := ice_of s0 2; have y3 := cell_of s0 3; have yf3 := ice_of s0 3; have y4 := cell_of s0 4; have yf4 := ice_of s0 4; have y5 := cell_of s0 5; have yf5 := ice_of s0 5; have yl := lt_of_heap s0; (try simp only [World.size_alloc, List.getElem?_toArray, List.getElem?_cons_zero, List.getElem?_cons_succ] at y0 yf0 y1 yf1 y2 yf2 y3 yf3 y4 yf4 y5 yf5 yl); clear s0
   have s0 := u9.get HT.out.2.1
   have z0 := cell_of s0 0; have zf0 := ice_of s0 0; have z1 := cell_of s0 1; have zf1 := ice_of s0 1; have zl := lt_of_heap s0; (try simp only [World.size_alloc, List.getElem?_toArray, List.getElem?_cons_zero, List.getElem?_cons_succ] at z0 zf0 z1 zf1 zl); clear s0
   have s0 := u9.get HT.out.1
   have v0 := cell_of s0 0; have vf0 := ice_of s0 0; have vl := lt_of_heap s0; (try simp only [World.size_alloc, List.getElem?_toArray, List.getElem?_cons_zero, List.getElem?_cons_succ] at v0 vf0 vl); clear s0
   have hrz : w.heap.size + 1 + 1 < W9.heap.size := lt_of_heap (u9.get HT.out.2.2)
   clear xf0 xf1 xf2 xf3 xf4 xf5 yf0 yf1 yf2 yf3 yf4 yf5 zf0 zf1 vf0
   by_cases h8 : kx = 13 ∧ ky = 13
   · obtain ⟨rfl, rfl⟩ := h8
     have E7 : Hid (asksA i j 13 13 xs ys fq mq = allQ [(xs.getD 0 0, ys.getD 0 0)]) := by unfold Hid; rw [e7.out, if_pos ⟨rfl, rfl⟩]
     have hxl := HL.out.1 (.inr rfl)
     have hyl := HL.out.2.1 rfl
     obtain ⟨zx, hzx⟩ : ∃ z, Hid (xs.getD 0 0 = z) := ⟨_, rfl⟩
     obtain ⟨zy, hzy⟩ : ∃ z, Hid (ys.getD 0 0 = z) := ⟨_, rfl⟩
     have hx0 : xs[0]? = some zx := by rw [← hzx.out, List.getD_eq_getElem?_getD, List.getElem?_eq_getElem hxl]; rfl
     have hy0 : ys[0]? = some zy := by rw [← hzy.out, List.getD_eq_getElem?_getD, List.getElem?_eq_getElem hyl]; rfl
     have RX := HX.out.1.up _ _ _ _ HR.out.1 u9
     have RY := HY.out.1.up _ _ _ _ HR.out.2 u9
     obtain ⟨g1, off1, hg1, hgl1, hgc1⟩ := HX.out.1.ints pa ma W9 RX 0 zx hx0
     obtain ⟨g2, off2, hg2, hgl2, hgc2⟩ := HY.out.1.ints qa la W9 RY 0 zy hy0
     obtain ⟨g1', off1', hg1', hf1⟩ := HX.out.1.far pa ma W9 RX (fun e => by rw [e] at hxl; exact Nat.lt_irrefl _ hxl)
     obtain ⟨g2', off2', hg2', hf2⟩ := HY.out.1.far qa la W9 RY (fun e => by rw [e] at hyl; exact Nat.lt_irrefl _ hyl)
     subst hg1 hg2
     injection hg1' with hg1'
     injection hg1' with hg1' ho1 hp1
     clear ho1 hp1
     injection hg2' with hg2'
     injection hg2' with hg2' ho2 hp2
     clear ho2 hp2
     subst hg1' hg2'
     have n1 : g1 ≠ w.heap.size + 1 + 1 := fun e => hf1 _ _ (by rw [e]; exact u9.get HT.out.2.2)
     have n2 : g2 ≠ w.heap.size + 1 + 1 := fun e => hf2 _ _ (by rw [e]; exact u9.get HT.out.2.2)
     have n3 : b5 ≠ w.heap.size + 1 + 1 := fun e => by have q1 := u9.get HM.out.2.1; have q2 := u9.get HT.out.2.2; rw [e] at q1; exact cells_ne q1 q2 (by decide) rfl
     have n4 : b6 ≠ w.heap.size + 1 + 1 := fun e => by have q1 := u9.get HM.out.2.2.2.1; have q2 := u9.get HT.out.2.2; rw [e] at q1; exact cells_ne q1 q2 (by decide) rfl
     have hxi : (0 : Int) < xs.length := by omega
     have hyi : (0 : Int) < ys.length := by omega
     have s0 := u9.get HT.out.2.2
     have d0 := cell_of s0 0; have df0 := ice_of s0 0; have d1 := cell_of s0 1; have df1 := ice_of s0 1; have d2 := cell_of s0 2; have df2 := ice_of s0 2; have d3 := cell_of s0 3; have df3 := ice_of s0 3; have d4 := cell_of s0 4; have df4 := ice_of s0 4; have dl := lt_of_heap s0; (try simp only [World.size_alloc, List.getElem?_toArray, List.getElem?_cons_zero, List.getElem?_cons_succ] at d0 df0 d1 df1 d2 df2 d3 df3 d4 df4 dl); clear s0
     have HC : Hid ((W9.cell? ⟨b5, 3, none⟩ = some (.slice (some ⟨g1, off1, none⟩) xs.length pc)) ∧ W9.cell? ⟨b6, 3, none⟩ = some (.slice (some ⟨g2, off2, none⟩) ys.length qc) ∧ W9.cell? ⟨g1, off1, none⟩ = some (.int .i64 zx) ∧ W9.cell? ⟨g2, off2, none⟩ = some (.int .i64 zy)) := ⟨x3, y3, hgc1, hgc2⟩
     have HS : Hid (∀ X : World, (∀ (b i : Nat), b < W9.heap.size → b ≠ w.heap.size + 1 + 1 → X.cell? ⟨b, i, none⟩ = W9.cell? ⟨b, i, none⟩) → X.cell? ⟨b5, 3, none⟩ = some (.slice (some ⟨g1, off1, none⟩) xs.length pc) ∧ X.cell? ⟨b6, 3, none⟩ = some (.slice (some ⟨g2, off2, none⟩) ys.length qc) ∧ X.cell? ⟨g1, off1, none⟩ = some (.int .i64 zx) ∧ X.cell? ⟨g2, off2, none⟩ = some (.int .i64 zy)) := fun X hX => ⟨(hX _ _ xl n3).trans HC.out.1, (hX _ _ yl n4).trans HC.out.2.1, (hX _ _ hgl1 n1).trans HC.out.2.2.1, (hX _ _ hgl2 n2).trans HC.out.2.2.2⟩
     clear RX RY hx0 hy0 hf1 hf2
     go_wp2_with fail
     clear x0 x1 x2 x3 x4 x5 y0 y1 y2 y3 y4 y5 z0 z1 zl v0 vl hgc1 hgc2
     go_region_held3 (fun X => X.cell? ⟨b5, 3, none⟩ = some (.slice (some ⟨g1, off1, none⟩) xs.length pc) ∧ X.cell? ⟨b6, 3, none⟩ = some (.slice (some ⟨g2, off2, none⟩) ys.length qc) ∧ X.cell? ⟨g1, off1, none⟩ = some (.int .i64 zx) ∧ X.cell? ⟨g2, off2, none⟩ = some (.int .i64 zy)) (exact HS.out _ (by intro b i h1 h2; first | (refine (Up.cells (Up.drew (Up.alloc (Up.refl _) _)) b i (by (try simp only [setCell_size]); exact h1)).trans ?_; (repeat rw [cell_farb (Ne.symm h2)]); first | done | exact Up.cells (Up.drew (Up.refl _)) _ _ h1 | rfl) | ((repeat rw [cell_farb (Ne.symm h2)]); done) | exact (show Up W9 _ from uq).cells _ _ h1)) (fail)
     rename_i hHeld
     clear hHeld
     have hnb := alloc_get W9.drew (.cells #[.int .i64 zx, .int .i64 zy] PairT)
     go_wp2_with fail
     refine bodyPost_ret (v := QV (allQ [(zx, zy)]) (.slice (some ⟨W9.heap.size, 0, none⟩) 1 1)) (by simp [results, Tryz.results87, go_sem, QV, allQ, d0, d1, d2, d3, d4, df0, df1, df2, df3, df4, dl]) rfl ?_
     rw [E7.out, hzx.out, hzy.out]
     have hcell : ∀ (Y : World) (o : Obj), W9.heap.size = Y.heap.size → (Y.alloc o).drew.heap[W9.heap.size]? = some o := fun Y o h => alloc_at Y o _ h
     have uw9 := uW9.out
     refine ⟨_, rfl, ⟨by simp [allQ], _, _, rfl, fun k p hp => ?_⟩, uq⟩
     cases k with
     | zero =>
       cases hp
       exact ⟨W9.heap.size, 0, rfl, uW9.out.size, lt_of_heap (hcell _ _ (by simp only [setCell_size])), cell_of (hcell _ _ (by simp only [setCell_size])) 0, cell_of (hcell _ _ (by simp only [setCell_size])) 1⟩
     | succ k => simp [allQ] at hp
   by_cases h9 : kx = 15 ∧ ky = 15
   · obtain ⟨rfl, rfl⟩ := h9
     have E7 : Hid (asksA i j 15 15 xs ys fq mq = fq) := by unfold Hid; rw [e7.out, if_neg h8, if_pos ⟨rfl, rfl⟩]
     go_wp2_with (first | (go_at_call 133; refine (HF.out.1 rfl rfl W9 pa pc na nc ma mc qa qc oa oc la lc uW9.out (HX.out.1.up _ _ _ _ HR.out.1 u9) (HY.out.1.up _ _ _ _ HR.out.2 u9)).mono ?_; rintro e w5 ⟨v5, rfl, hp5, hu5⟩; have u5 : Up W9 w5 := uq; obtain ⟨a5, c5, hv5⟩ := hp5.form; subst hv5; simp only [QV]; have HP5 := Lib.hid hp5; have s0 := u5.get (u9.get HT.out.2.2); have d0 := cell_of s0 0; have df0 := ice_of s0 0; have d1 := cell_of s0 1; have df1 := ice_of s0 1; have d2 := cell_of s0 2; have df2 := ice_of s0 2; have d3 := cell_of s0 3; have df3 := ice_of s0 3; have d4 := cell_of s0 4; have df4 := ice_of s0 4; have dl := lt_of_heap s0; (try simp only [World.size_alloc, List.getElem?_toArray, List.getElem?_cons_zero, List.getElem?_cons_succ] at d0 df0 d1 df1 d2 df2 d3 df3 d4 df4 dl); clear s0; clear hp5))
     refine bodyPost_ret (v := QV fq (.slice a5 fq.pairs.length c5)) (by simp [results, Tryz.results87, go_sem, QV, d0, d1, d2, d3, d4, df0, df1, df2, df3, df4, dl]) rfl ?_
     rw [E7.out]
     have uw5 := uW9.out.trans u5
     exact ⟨_, rfl, (HP5.out.five (fun g hg => by omega)).loose (fun g hg => Nat.le_trans uW9.out.size hg), uq⟩
   have E7 : Hid (asksA i j kx ky xs ys fq mq = mq) := by unfold Hid; rw [e7.out, if_neg h8, if_neg h9]
   have hcs : (kx = 13 ∧ ky ≠ 13) ∨ (kx = 15 ∧ ky ≠ 15) ∨ (kx ≠ 13 ∧ kx ≠ 15) := by omega
   rcases hcs with ⟨rfl, q1⟩ | ⟨rfl, q1⟩ | ⟨q1, q2⟩
   · have k10 : (ky == 13) = false := by simpa using q1
     go_wp2_with (first | (go_at_call 134; refine (HF.out.2 W9 uW9.out).mono ?_; rintro e w5 ⟨v5, rfl, hp5, hu5⟩; have u5 : Up W9 w5 := uq; obtain ⟨a5, c5, hv5⟩ := hp5.form; subst hv5; simp only [QV]; have HP5 := Lib.hid hp5; have s0 := u5.get (u9.get HT.out.2.2); have d0 := cell_of s0 0; have df0 := ice_of s0 0; have d1 := cell_of s0 1; have df1 := ice_of s0 1; have d2 := cell_of s0 2; have df2 := ice_of s0 2; have d3 := cell_of s0 3; have df3 := ice_of s0 3; have d4 := cell_of s0 4; have df4 := ice_of s0 4; have dl := lt_of_heap s0; (try simp only [World.size_alloc, List.getElem?_toArray, List.getElem?_cons_zero, List.getElem?_cons_succ] at d0 df0 d1 df1 d2 df2 d3 df3 d4 df4 dl); clear s0; clear hp5))
     refine bodyPost_ret (v := QV mq (.slice a5 mq.pairs.length c5)) (by simp [results, Tryz.results87, go_sem, QV, d0, d1, d2, d3, d4, df0, df1, df2, df3, df4, dl]) rfl ?_
     rw [E7.out]
     have uw5 := uW9.out.trans u5
     exact ⟨_, rfl, (HP5.out.five (fun g hg => by omega)).loose (fun g hg => Nat.le_trans uW9.out.size hg), uq⟩
   · have k10 : (ky == 15) = false := by simpa using q1
     go_wp2_with (first | (go_at_call 134; refine (HF.out.2 W9 uW9.out).mono ?_; rintro e w5 ⟨v5, rfl, hp5, hu5⟩; have u5 : Up W9 w5 := uq; obtain ⟨a5, c5, hv5⟩ := hp5.form; subst hv5; simp only [QV]; have HP5 := Lib.hid hp5; have s0 := u5.get (u9.get HT.out.2.2); have d0 := cell_of s0 0; have df0 := ice_of s0 0; have d1 := cell_of s0 1; have df1 := ice_of s0 1; have d2 := cell_of s0 2; have df2 := ice_of s0 2; have d3 := cell_of s0 3; have df3 := ice_of s0 3; have d4 := cell_of s0 4; have df4 := ice_of s0 4; have dl := lt_of_heap s0; (try simp only [World.size_alloc, List.getElem?_toArray, List.getElem?_cons_zero, List.getElem?_cons_succ] at d0 df0 d1 df1 d2 df2 d3 df3 d4 df4 dl); clear s0; clear hp5))
     refine bodyPost_ret (v := QV mq (.slice a5 mq.pairs.length c5)) (by simp [results, Tryz.results87, go_sem, QV, d0, d1, d2, d3, d4, df0, df1, df2, df3, df4, dl]) rfl ?_
     rw [E7.out]
     have uw5 := uW9.out.trans u5
     exact ⟨_, rfl, (HP5.out.five (fun g hg => by omega)).loose (fun g hg => Nat.le_trans uW9.out.size hg), uq⟩
   · have k10 : (kx == 13) = false := by simpa using q1
     have k11 : (kx == 15) = false := by simpa using q2
     go_wp2_with (first | (go_at_call 134; refine (HF.out.2 W9 uW9.out).mono ?_; rintro e w5 ⟨v5, rfl, hp5, hu5⟩; have u5 : Up W9 w5 := uq; obtain ⟨a5, c5, hv5⟩ := hp5.form; subst hv5; simp only [QV]; have HP5 := Lib.hid hp5; have s0 := u5.get (u9.get HT.out.2.2); have d0 := cell_of s0 0; have df0 := ice_of s0 0; have d1 := cell_of s0 1; have df1 := ice_of s0 1; have d2 := cell_of s0 2; have df2 := ice_of s0 2; have d3 := cell_of s0 3; have df3 := ice_of s0 3; have d4 := cell_of s0 4; have df4 := ice_of s0 4; have dl := lt_of_heap s0; (try simp only [World.size_alloc, List.getElem?_toArray, List.getElem?_cons_zero, List.getElem?_cons_succ] at d0 df0 d1 df1 d2 df2 d3 df3 d4 df4 dl); clear s0; clear hp5))
     refine bodyPost_ret (v := QV mq (.slice a5 mq.pairs.length c5)) (by simp [results, Tryz.results87, go_sem, QV, d0, d1, d2, d3, d4, df0, df1, df2, df3, df4, dl]) rfl ?_
     rw [E7.out]
     have uw5 := uW9.out.trans u5
     exact ⟨_, rfl, (HP5.out.five (fun g hg => by omega)).loose (fun g hg => Nat.le_trans uW9.out.size hg), uq⟩
 · intro l a W hI n o hn ho hl hdep
   obtain ⟨hu, l0, l1, l2, l3, l4, l5, l6, l7, l8, l9, l10, l11, x, y, c, d, b5, b6, rfl, rfl, hx3, hy7, h8, h9, h89, hA, hB⟩ := hI
   have z0 := cell_of (hu.get T0.out.1) 0
   have z1 := cell_of (hu.get T0.out.2.1) 0
   have z2 := cell_of (hu.get T0.out.2.1) 1
   have zl := lt_of_heap (hu.get T0.out.2.1)
   simp only [List.getElem?_toArray, List.getElem?_cons_zero, List.getElem?_cons_succ] at z0 z1 z2
   have hn12 : n < 12 := hn
   clear hn
   have hcs : n = 0 ∨ n = 1 ∨ n = 2 ∨ n = 3 ∨ n = 4 ∨ n = 5 ∨ n = 6 ∨ n = 7 ∨ n = 8 ∨ n = 9 ∨ n = 10 ∨ n = 11 := by omega
   have upx : ∀ (W2 : World), Up W W2 → l3 = true → x.size = 6 ∧ TyP kx nx mx xs.length lx dx Rx x W2 := fun _ k h => ⟨(hx3 h).1, (hx3 h).2.up HX.out.1 k⟩
   have upy : ∀ (W2 : World), Up W W2 → l7 = true → y.size = 6 ∧ TyP ky ny my ys.length ly dy Ry y W2 := fun _ k h => ⟨(hy7 h).1, (hy7 h).2.up HY.out.1 k⟩
   have up2 : ∀ {W2 : World}, Up W W2 → (l8 = true → w0.heap.size ≤ b5 ∧ W2.heap[b5]? = some (.cells c AtyT (0, 0)) ∧ c.size = 6 ∧ (l10 = true → l3 = true ∧ c = x)) ∧ (l9 = true → w0.heap.size ≤ b6 ∧ W2.heap[b6]? = some (.cells d AtyT (0, 0)) ∧ d.size = 6 ∧ (l11 = true → l7 = true ∧ d = y)) := fun k => ⟨fun h => ⟨(h8 h).1, k.get (h8 h).2.1, (h8 h).2.2⟩, fun h => ⟨(h9 h).1, k.get (h9 h).2.1, (h9 h).2.2⟩⟩
   rcases hcs with rfl | rfl | rfl | rfl | rfl | rfl | rfl | rfl | rfl | rfl | rfl | rfl
   all_goals simp only [List.getElem?_cons_zero, List.getElem?_cons_succ, Option.some.injEq] at ho
   all_goals subst ho
   all_goals simp [Region.binds] at hl hdep
   all_goals (try subst hl)
   all_goals unfold wpOp
   · simp only [askA, sl_true]
     go_simp
     exact .inl ⟨hu, _, _, _, _, _, _, _, _, _, _, _, _, x, y, c, d, b5, b6, rfl, rfl, hx3, hy7, h8, h9, h89, hA, hB⟩
   · simp only [askA, sl_true]
     go_simp
     exact .inl ⟨hu, _, _, _, _, _, _, _, _, _, _, _, _, x, y, c, d, b5, b6, rfl, rfl, hx3, hy7, h8, h9, h89, hA, hB⟩
   · subst hdep
     simp only [askA, sl_true]
     go_simp
     exact .inl ⟨hu, _, _, _, _, _, _, _, _, _, _, _, _, x, y, c, d, b5, b6, rfl, rfl, hx3, hy7, h8, h9, h89, hA, hB⟩
   · obtain ⟨rfl, rfl⟩ := hdep
     simp only [askA, sl_true]
     go_simp
     refine .inl ((HX.out.2 _ (hu0.trans hu)).mono ?_)
     rintro e w2 ⟨pa, pc, na, nc, ma, mc, rfl, hr2, hu2⟩
     exact ⟨hu.trans hu2, _, _, _, _, _, _, _, _, _, _, _, _, agT kx nx mx xs.length lx dx pa pc na nc ma mc, y, c, d, b5, b6, rfl, rfl, fun _ => ⟨rfl, pa, pc, na, nc, ma, mc, rfl, hr2⟩, upy _ hu2, fun h => ⟨((up2 hu2).1 h).1, ((up2 hu2).1 h).2.1, ((up2 hu2).1 h).2.2.1, fun h10 => (by have q := ((h8 h).2.2.2 h10).1; cases q)⟩, (up2 hu2).2, h89, hA, hB⟩
   · simp only [askA, sl_true]
     go_simp
     exact .inl ⟨hu, _, _, _, _, _, _, _, _, _, _, _, _, x, y, c, d, b5, b6, rfl, rfl, hx3, hy7, h8, h9, h89, hA, hB⟩
   · simp only [askA, sl_true]
     go_simp
     exact .inl ⟨hu, _, _, _, _, _, _, _, _, _, _, _, _, x, y, c, d, b5, b6, rfl, rfl, hx3, hy7, h8, h9, h89, hA, hB⟩
   · subst hdep
     simp only [askA, sl_true]
     go_simp
     exact .inl ⟨hu, _, _, _, _, _, _, _, _, _, _, _, _, x, y, c, d, b5, b6, rfl, rfl, hx3, hy7, h8, h9, h89, hA, hB⟩
   · obtain ⟨rfl, rfl, rfl⟩ := hdep
     have HX3 := Lib.hid upx
     clear hx3
     simp only [askA, sl_true]
     go_simp
     refine .inl ((HY.out.2 _ (hu0.trans hu)).mono ?_)
     rintro e w2 ⟨qa, qc, oa, oc, la, lc, rfl, hr2, hu2⟩
     exact ⟨hu.trans hu2, _, _, _, _, _, _, _, _, _, _, _, _, x, agT ky ny my ys.length ly dy qa qc oa oc la lc, c, d, b5, b6, rfl, rfl, HX3.out _ hu2, fun _ => ⟨rfl, qa, qc, oa, oc, la, lc, rfl, hr2⟩, (up2 hu2).1, fun h => ⟨((up2 hu2).2 h).1, ((up2 hu2).2 h).2.1, ((up2 hu2).2 h).2.2.1, fun h10 => (by have q := ((h9 h).2.2.2 h10).1; cases q)⟩, h89, hA, hB⟩
   · simp only [askA, sl_true]
     go_simp
     refine .inl ⟨hu.alloc _, _, _, _, _, _, _, _, _, _, _, _, _, x, y, #[.int .i64 0, .int .i64 0, .string ⟨#[]⟩, .slice none 0 0, .slice none 0 0, .slice none 0 0], d, W.heap.size, b6, rfl, rfl, upx _ (Up.alloc (Up.refl W) _), upy _ (Up.alloc (Up.refl W) _), fun _ => ⟨hu.size, alloc_get _ _, rfl, fun h10 => (by have q := hA h10; cases q)⟩, (up2 (Up.alloc (Up.refl W) _)).2, fun _ h9' => ?_, fun _ => rfl, hB⟩
     · have := lt_of_heap (h9 h9').2.1
       omega
   · simp only [askA, sl_true]
     go_simp
     refine .inl ⟨hu.alloc _, _, _, _, _, _, _, _, _, _, _, _, _, x, y, c, #[.int .i64 0, .int .i64 0, .string ⟨#[]⟩, .slice none 0 0, .slice none 0 0, .slice none 0 0], b5, W.heap.size, rfl, rfl, upx _ (Up.alloc (Up.refl W) _), upy _ (Up.alloc (Up.refl W) _), (up2 (Up.alloc (Up.refl W) _)).1, fun _ => ⟨hu.size, alloc_get _ _, rfl, fun h10 => (by have q := hB h10; cases q)⟩, fun h8' _ => ?_, hA, fun _ => rfl⟩
     · have := lt_of_heap (h8 h8').2.1
       omega
   · have e3 : l3 = true := by simp_all
     have e7 : l7 = true := by simp_all
     have e8 : l8 = true := by simp_all
     have e9 : l9 = true := by simp_all
     subst e3 e7 e8 e9
     obtain ⟨n1, s0, n3, n4⟩ := h8 rfl
     obtain ⟨_, pa, pc, na, nc, ma, mc, rfl, hRX⟩ := hx3 rfl
     obtain ⟨_, qa, qc, oa, oc, la, lc, rfl, hRY⟩ := hy7 rfl
     obtain ⟨c0, c1, c2, c3, c4, c5, hc⟩ := six n3
     subst hc
     have HS0 := Lib.hid s0
     have hX6 := Lib.hid (fun (x0 x1 x2 x3 x4 x5 : Value) => HX.out.1.box pa ma W _ _ _ x0 x1 x2 x3 x4 x5 hRX HS0.out)
     have hY6 := Lib.hid (fun (x0 x1 x2 x3 x4 x5 : Value) => HY.out.1.box qa la W _ _ _ x0 x1 x2 x3 x4 x5 hRY HS0.out)
     clear hx3 hy7 upx upy
     have q0 := cell_of s0 0; have p0 := ice_of s0 0; have q1 := cell_of s0 1; have p1 := ice_of s0 1; have q2 := cell_of s0 2; have p2 := ice_of s0 2; have q3 := cell_of s0 3; have p3 := ice_of s0 3; have q4 := cell_of s0 4; have p4 := ice_of s0 4; have q5 := cell_of s0 5; have p5 := ice_of s0 5; have q9 := lt_of_heap s0; (try simp only [World.size_alloc, List.getElem?_toArray, List.getElem?_cons_zero, List.getElem?_cons_succ] at q0 q1 q2 q3 q4 q5 p0 p1 p2 p3 p4 p5 q9); clear s0
     simp only [askA, sl_true]
     go_simp
     refine .inl ⟨set6_up hu n1, _, _, _, _, _, _, _, _, _, _, _, _, _, _, _, d, b5, b6, rfl, rfl, fun _ => ⟨rfl, pa, pc, na, nc, ma, mc, rfl, hX6.out _ _ _ _ _ _⟩, fun _ => ⟨rfl, qa, qc, oa, oc, la, lc, rfl, hY6.out _ _ _ _ _ _⟩, fun _ => ⟨n1, set6_at HS0.out, rfl, fun _ => ⟨rfl, rfl⟩⟩, fun h => ⟨(h9 rfl).1, (set6_other (Ne.symm (h89 rfl rfl))).trans (h9 rfl).2.1, (h9 rfl).2.2⟩, h89, fun _ => rfl, hB⟩
   · have e3 : l3 = true := by simp_all
     have e7 : l7 = true := by simp_all
     have e8 : l8 = true := by simp_all
     have e9 : l9 = true := by simp_all
     have e10 : l10 = true := by simp_all
     subst e3 e7 e8 e9 e10
     obtain ⟨n1, s0, n3, n4⟩ := h9 rfl
     obtain ⟨_, pa, pc, na, nc, ma, mc, rfl, hRX⟩ := hx3 rfl
     obtain ⟨_, qa, qc, oa, oc, la, lc, rfl, hRY⟩ := hy7 rfl
     obtain ⟨c0, c1, c2, c3, c4, c5, hc⟩ := six n3
     subst hc
     have HS0 := Lib.hid s0
     have hX6 := Lib.hid (fun (x0 x1 x2 x3 x4 x5 : Value) => HX.out.1.box pa ma W _ _ _ x0 x1 x2 x3 x4 x5 hRX HS0.out)
     have hY6 := Lib.hid (fun (x0 x1 x2 x3 x4 x5 : Value) => HY.out.1.box qa la W _ _ _ x0 x1 x2 x3 x4 x5 hRY HS0.out)
     clear hx3 hy7 upx upy
     have q0 := cell_of s0 0; have p0 := ice_of s0 0; have q1 := cell_of s0 1; have p1 := ice_of s0 1; have q2 := cell_of s0 2; have p2 := ice_of s0 2; have q3 := cell_of s0 3; have p3 := ice_of s0 3; have q4 := cell_of s0 4; have p4 := ice_of s0 4; have q5 := cell_of s0 5; have p5 := ice_of s0 5; have q9 := lt_of_heap s0; (try simp only [World.size_alloc, List.getElem?_toArray, List.getElem?_cons_zero, List.getElem?_cons_succ] at q0 q1 q2 q3 q4 q5 p0 p1 p2 p3 p4 p5 q9); clear s0
     simp only [askA, sl_true]
     go_simp
     refine .inl ⟨set6_up hu n1, _, _, _, _, _, _, _, _, _, _, _, _, _, _, c, _, b5, b6, rfl, rfl, fun _ => ⟨rfl, pa, pc, na, nc, ma, mc, rfl, hX6.out _ _ _ _ _ _⟩, fun _ => ⟨rfl, qa, qc, oa, oc, la, lc, rfl, hY6.out _ _ _ _ _ _⟩, fun h => ⟨(h8 h).1, (set6_other (h89 rfl rfl)).trans (h8 h).2.1, (h8 h).2.2⟩, fun _ => ⟨n1, set6_at HS0.out, rfl, fun _ => ⟨rfl, rfl⟩⟩, h89, hA, fun _ => rfl⟩
end Go.Proofs.YtiaepldmgighbaaGreatDoor
