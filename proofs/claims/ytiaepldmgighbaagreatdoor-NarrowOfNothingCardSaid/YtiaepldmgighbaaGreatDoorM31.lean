import Derived.Test.YtiaepldmgighbaaGreatDoorM30
import Derived.Test.YtiaepldmgighbaaGreatDoorM15
namespace Go.Proofs.YtiaepldmgighbaaGreatDoor
open Go.RowKit
set_option linter.unusedSimpArgs false
theorem CMap.memo {B : Nat} {w w' : World} {m : Nat} {f : Int → Nat} (h : CMap w m f) (k : Memo none1 B w w') : CMap w' m f := let ⟨es, clk, cs, h1, h2⟩ := h; ⟨es, clk, cs, k.obj _ _ h1 (fun _ _ e => by cases e) (fun e => e), h2⟩
theorem SMap.memo {B : Nat} {w w' : World} {m : Nat} {f : ByteArray → Nat} (h : SMap w m f) (k : Memo none1 B w w') : SMap w' m f := let ⟨es, clk, cs, h1, h2⟩ := h; ⟨es, clk, cs, k.obj _ _ h1 (fun _ _ e => by cases e) (fun e => e), h2⟩
theorem View.size {N : Nat → Prop} {B : Nat} {w : World} {b : Nat} {t : Ty} (h : TyAt N B w b t) : w.cell? ⟨b, 0, none⟩ = some (.int .i64 t.kind) ∧ b < w.heap.size := by
 cases t with
 | mk k n nm ps ns ms =>
   obtain ⟨pv, nv, mv, qs, V⟩ := h.view
   exact ⟨V.c0, V.lt⟩
def goesM (f : Int → Nat) (h : ByteArray → Nat) (t : Ty) : Bool := if t.kind = 3 then true else if t.kind = 11 then decide (0 < f 7) else if t.kind = 12 then decide (0 < f 8) else if t.kind = 20 then (match t.parts with | [] => false | e :: _ => decide (0 < h e.text)) else false
set_option maxRecDepth 100000 in
set_option maxHeartbeats 3200000 in
theorem goes_m (t : Ty) (f : Int → Nat) (h : ByteArray → Nat) (N : Nat → Prop) (B x m3 n3 m4 n4 : Nat) (W : World) (hx : TyAt N B W x t) (hG : Glob W) (b3 : W.heap[n3]? = some (.cells #[.map (some m3)] MiT (0, 0))) (c3 : CMap W m3 f)
   (b4 : W.heap[n4]? = some (.cells #[.map (some m4)] MsT (0, 0))) (c4 : SMap W m4 h) (hk : t.kind = 20 → ∃ e r, t.parts = e :: r ∧ TextAny e) :
   Calls Tryz.prog 92 #[.pointer (some ⟨x, 0, none⟩), .pointer (some ⟨n3, 0, none⟩), .pointer (some ⟨n4, 0, none⟩)] W fun e W' => e = .returned (.bool (goesM f h t)) ∧ Memo none1 B W W' := by
 cases t with
 | mk k n nm ps ns ms =>
   obtain ⟨pv, nv, mv, qs, V⟩ := hx.view
   have y0 := V.c0
   have yl := V.lt
   have n0 := cell_of b3 0
   have nl := lt_of_heap b3
   have e0 := cell_of b4 0
   have el := lt_of_heap b4
   simp only [List.getElem?_toArray, List.getElem?_cons_zero] at n0 e0
   have h7 := c3.look 7
   have h8 := c3.look 8
   have HC := Lib.hid (And.intro b3 (And.intro c3 (And.intro b4 (And.intro c4 (And.intro hG hk)))))
   have HV := Lib.hid V
   clear hx hG b3 c3 b4 c4 hk V
   by_cases e3 : k = 3
   · subst e3
     go_enter Tryz.func92, Tryz.ntmps92
     go_wp2_with fail
     go_ret
     exact ⟨rfl, Memo.of_up _ _ uq⟩
   by_cases e11 : k = 11
   · subst e11
     by_cases h0 : 0 < f 7
     · have h0' : (0 : Int) < (f 7 : Int) := by omega
       go_enter Tryz.func92, Tryz.ntmps92
       go_wp2_with fail
       go_ret
       exact ⟨by simp [goesM, Ty.kind, h0], Memo.of_up _ _ uq⟩
     · have h0' : f 7 = 0 := by omega
       rw [h0'] at h7
       go_enter Tryz.func92, Tryz.ntmps92
       go_wp2_with fail
       go_ret
       exact ⟨by simp [goesM, Ty.kind, h0'], Memo.of_up _ _ uq⟩
   by_cases e12 : k = 12
   · subst e12
     by_cases h0 : 0 < f 8
     · have h0' : (0 : Int) < (f 8 : Int) := by omega
       go_enter Tryz.func92, Tryz.ntmps92
       go_wp2_with fail
       go_ret
       exact ⟨by simp [goesM, Ty.kind, h0], Memo.of_up _ _ uq⟩
     · have h0' : f 8 = 0 := by omega
       rw [h0'] at h8
       go_enter Tryz.func92, Tryz.ntmps92
       go_wp2_with fail
       go_ret
       exact ⟨by simp [goesM, Ty.kind, h0'], Memo.of_up _ _ uq⟩
   by_cases e20 : k = 20
   · subst e20
     obtain ⟨p, r, hpr, hT⟩ := HC.out.2.2.2.2.2 rfl
     have hpr : ps = p :: r := hpr
     obtain ⟨q, g, off, cap, rfl, hcap, hgl, hcell, hpt, hkeep⟩ := HV.out.part (j := 0) (p := p) (by rw [hpr]; rfl)
     obtain ⟨tx, htx⟩ : ∃ tx, Hid (p.text = tx) := ⟨_, rfl⟩
     have hgo : goesM f h (.mk 20 n nm ps ns ms) = decide (0 < h tx) := by
       subst hpr
       simp only [goesM, Ty.kind, Ty.parts, htx.out]
       rfl
     rw [hgo]
     have hl1 : (0 : Int) < ps.length := by rw [hpr]; simp only [List.length_cons]; omega
     have r3 : ∀ i : MemoOf B W, i.W.cell? ⟨x, 3, none⟩ = some (.slice (some ⟨g, off, none⟩) ps.length cap) := fun i => (HV.out.memo i.memo).c3
     have r4 : ∀ i : MemoOf B W, i.W.cell? ⟨g, off, none⟩ = some (.pointer (some ⟨q, 0, none⟩)) := fun i => by simpa using hkeep i.W i.memo
     have r5 : ∀ i : MemoOf B W, i.W.cell? ⟨n4, 0, none⟩ = some (.map (some m4)) := fun i => cell_of (i.memo.cells HC.out.2.2.1 (by decide) (fun e => e)) 0
     have r6 : ∀ i : MemoOf B W, (Instr.lookup MsT (.map (some m4)) (.string tx) false).run Tryz.prog i.W = .ok (.int .i64 (h tx)) i.W := fun i => (HC.out.2.2.2.1.memo i.memo).look tx
     have C1 : Hid (∀ i : MemoOf B W, Calls Tryz.prog 61 #[.pointer (some ⟨q, 0, none⟩)] i.W fun e w' => e = .returned (.string tx) ∧ Memo none1 B i.W w') := fun i => by
       rw [← htx.out]
       exact hT N B q i.W (hpt.memo i.memo) (HC.out.2.2.2.2.1.memo i.memo)
     clear hpt hkeep hcell hpr hT hgo
     by_cases h0 : 0 < h tx
     · have h0' : (0 : Int) < (h tx : Int) := by omega
       have h0 : Hid (decide (0 < h tx) = true) := by unfold Hid; simpa using h0
       go_enter Tryz.func92, Tryz.ntmps92
       go_wp2_with fail
       refine wp_region_memo B (by kernel_rfl) (by kernel_rfl) ?_
       repeat (go_big_quiet_step ((go_at_call 61; rename_i i; exact Calls.memo_of i (C1.out i))))
       refine wpQuiet_nil ?_
       intro _ hw'
       obtain ⟨⟨w2, hm2⟩, hw''⟩ := hw'
       subst hw''
       have M2 := Lib.hid hm2
       clear r3 r4 r5 r6 hm2
       go_wp2_with fail
       refine bodyPost_ret (v := .bool true) (by simp [results, Tryz.results92, go_sem]) rfl ?_
       exact ⟨by rw [h0.out], M2.out⟩
     · have h0' : h tx = 0 := by omega
       have h0 : Hid (decide (0 < h tx) = false) := by unfold Hid; simpa using h0
       have r6 : ∀ i : MemoOf B W, (Instr.lookup MsT (.map (some m4)) (.string tx) false).run Tryz.prog i.W = .ok (.int .i64 0) i.W := fun i => by have := r6 i; rw [h0'] at this; exact this
       clear h0'
       go_enter Tryz.func92, Tryz.ntmps92
       go_wp2_with fail
       refine wp_region_memo B (by kernel_rfl) (by kernel_rfl) ?_
       repeat (go_big_quiet_step ((go_at_call 61; rename_i i; exact Calls.memo_of i (C1.out i))))
       refine wpQuiet_nil ?_
       intro _ hw'
       obtain ⟨⟨w2, hm2⟩, hw''⟩ := hw'
       subst hw''
       have M2 := Lib.hid hm2
       clear r3 r4 r5 r6 hm2
       go_wp2_with fail
       refine bodyPost_ret (v := .bool false) (by simp [results, Tryz.results92, go_sem]) rfl ?_
       exact ⟨by rw [h0.out], M2.out⟩
   have g3 : (k == 3) = false := by simpa using e3
   have g11 : (k == 11) = false := by simpa using e11
   have g12 : (k == 12) = false := by simpa using e12
   have g20 : (k == 20) = false := by simpa using e20
   have hg : goesM f h (.mk k n nm ps ns ms) = false := by simp [goesM, Ty.kind, e3, e11, e12, e20]
   rw [hg]
   clear e3 e11 e12 e20 hg
   go_enter Tryz.func92, Tryz.ntmps92
   go_wp2_with fail
   go_ret
   exact ⟨rfl, Memo.of_up _ _ uq⟩
theorem by_tree (t : Ty) (N : Nat → Prop) (B x : Nat) (w : World) (hx : TyAt N B w x t) (hG : Glob w) (hT : TextAny t) (hs : t.text.size ≤ 100000000000000) :
   Calls Tryz.prog 95 #[.pointer (some ⟨x, 0, none⟩)] w fun e w' => e = .returned (.string t.partT) ∧ Memo none1 B w w' := by
 have HX := Lib.hid (And.intro hx (And.intro hG hT))
 obtain ⟨pt, hpt⟩ : ∃ pt, Hid (t.partT = pt) := ⟨_, rfl⟩
 have hpt2 : Hid (roundS [15] t.kind t.text = pt) := hpt
 rw [hpt.out]
 clear hx hG hT
 go_enter Tryz.func95, Tryz.ntmps95
 go_wp2_with (first | (go_at_call 96; refine (round_any [15] w.heap.size 1 x t N B _ (HX.out.1.up uq) (HX.out.2.1.up uq) HX.out.2.2 hs (by intro j z hz; cases j with | zero => simp at hz; subst hz; simp | succ j => simp at hz) (by simp) (by simp)).mono ?_; rintro e w2 ⟨rfl, hm2⟩; rw [hpt2.out]; have M2 := Lib.hid hm2; clear hm2))
 go_ret
 exact ⟨rfl, (Memo.of_up none1 B (show Up w _ from uq)).trans M2.out⟩
def SortI (B g : Nat) (w1 W : World) : Prop := Memo (fun b => b = g) B w1 W ∧ Glob W ∧ ∃ cs, W.heap[g]? = some (.cells cs TpT (0, 0))
theorem SortI.keys (tr : Nat → Ty) (N : Nat → Prop) (B g b : Nat) (S : Nat → Prop) (w1 : World) (hgB : B ≤ g) (hb : b ≠ g) (hbox : w1.heap[b]? = some (.cells #[.func (.func byF) #[] #[]] FnT (0, 0))) (hN : ∀ x, N x → x ≠ g) (ht : ∀ x, S x → TyAt N B w1 x (tr x) ∧ TextAny (tr x) ∧ (tr x).text.size ≤ 100000000000000) :
   Keys (SortI B g w1) g b S (fun x => (tr x).partT) where
 set W i v := fun ⟨h1, h2, cs, h3⟩ => ⟨h1.trans (Memo.row (S := fun b => b = g) h3 rfl hgB v), h2.row h3 v, _, setCell_block h3 v⟩
 drew W := fun ⟨h1, h2, cs, h3⟩ => ⟨h1.up (Up.refl W).drew, h2.up (Up.refl W).drew, cs, h3⟩
 up W W' := fun ⟨h1, h2, cs, h3⟩ k => ⟨h1.up k, h2.up k, cs, k.get h3⟩
 box W := fun ⟨h1, _⟩ => cell_of (h1.cells hbox (by decide) hb) 0
 lt W := fun ⟨_, _, cs, h3⟩ => lt_of_heap h3
 by_ W x := fun ⟨h1, h2, cs, h3⟩ hx => by
   obtain ⟨q1, q2, q3⟩ := ht x hx
   refine (by_tree (tr x) N B x W (h1.ty N x _ hN q1) h2 q2 q3).mono ?_
   rintro e W' ⟨rfl, hm⟩
   have h4 := hm.cells h3 (by decide) (fun e => e)
   exact ⟨rfl, ⟨h1.trans (hm.mono fun _ e => e.elim), h2.memo hm, cs, h4⟩, h4.trans h3.symm⟩
theorem sorted_tree (tr : Nat → Ty) (N : Nat → Prop) (B g off cap : Nat) (xs : List Nat) (w : World) (hrow : RowAt w g off xs) (hlen : xs.length ≤ 1000000) (hne : xs ≠ []) (hcap : xs.length ≤ cap) (hgB : B ≤ g) (hN : ∀ x, N x → x ≠ g) (ht : ∀ x ∈ xs, TyAt N B w x (tr x) ∧ TextAny (tr x) ∧ (tr x).text.size ≤ 100000000000000) (hG : Glob w) :
   Calls Tryz.prog 93 #[.slice (some ⟨g, off, none⟩) xs.length cap, .func (.func byF) #[] #[]] w fun e w' => ∃ zs : List Nat, e = .returned (.slice (some ⟨g, off, none⟩) zs.length cap) ∧ RowAt w' g off zs ∧ Memo (fun b => b = g) B w w' ∧ Glob w' ∧
     zs.length ≤ xs.length ∧ zs.Pairwise (fun x y => ltS (tr x).partT (tr y).partT = true) ∧ (∀ z ∈ zs, z ∈ xs) ∧ ∀ x ∈ xs, ∃ z ∈ zs, (tr z).partT = (tr x).partT := by
 have hup : Up w (w.alloc (.cells #[.func (.func byF) #[] #[]] FnT)) := (Up.refl w).alloc _
 have hbg : w.heap.size ≠ g := fun e => by have := hrow.lt; omega
 obtain ⟨cs, hcs, hcx⟩ := hrow
 have hk := SortI.keys tr N B g w.heap.size (fun x => x ∈ xs) _ hgB hbg (alloc_get w (.cells #[.func (.func byF) #[] #[]] FnT)) hN (fun x hx => ⟨(ht x hx).1.up hup, (ht x hx).2⟩)
 refine (sorted_any (n := xs.length) (off := off) (cap := cap) w hk (fun W hW => hW.2.2) hlen hcap xs (fun z hz => hz) ⟨cs, hcs, hcx⟩ rfl (List.length_pos_iff.2 hne) ⟨Memo.refl _ _ _, hG.up hup, cs, hup.get hcs⟩).mono ?_
 rintro e w' ⟨zs, h1, h2, ⟨h3, h3', _⟩, h4, h5, h6, h7⟩
 exact ⟨zs, h1, h2, (Memo.of_up _ _ hup).trans h3, h3', h4, h5, h6, h7⟩
theorem Memo.cell1 {S : Nat → Prop} {B : Nat} {w : World} {g i : Nat} {cs : Array Value} {T : TypeId} {f : Nat × Nat} (h : w.heap[g]? = some (.cells cs T f)) (hT : T ≠ TyT) (hs : S g) (hB : B ≤ g) (v : Value) : Memo S B w (w.setCell ⟨g, i, none⟩ v) where
 os := rfl
 tape := rfl
 output := rfl
 size := by rw [setCell_size]; exact Nat.le_refl _
 obj b o h1 _ h3 := by rw [setCell_other (fun e => h3 (by rw [e]; exact hs))]; exact h1
 low b h1 _ := setCell_other (by omega) _
 ty N b t hN ht := ht.keep (fun g' cs' T f' _ hn q => by
     rw [setCell_other (fun e => hN g' hn (by rw [e]; exact hs))]
     exact q) (fun b' t' k n nm pv nv mv sz said _ q => ⟨said, by rw [setCell_other (cells_ne q h (fun e => hT e.symm))]; exact q, .inl rfl⟩)
 fld x cs' f' q := ⟨cs', by rw [setCell_other (cells_ne q h (fun e => hT e.symm))]; exact q, fun _ _ => rfl⟩
theorem Memo.grownObj {S : Nat → Prop} {B : Nat} {w w' : World} {row : Option Nat} (hg : w.grownBy w' row) (hr : ∀ r, row = some r → S r ∧ B ≤ r ∧ ∃ o : Obj, w.heap[r]? = some o ∧ o.isCells = false) : Memo S B w w' where
 os := hg.os
 tape := hg.tape
 output := hg.output
 size := hg.size
 obj b o h1 _ h3 := grown_get hg h1 (fun e => h3 (hr b e).1)
 low b h1 h2 := hg.block b h2 (fun e => by have := (hr b e.symm).2.1; omega)
 ty N b t hN ht := ht.keep (fun g' cs' T f' _ hn q => grown_get hg q (fun e => hN g' hn (hr g' e).1)) (fun b' t' k n nm pv nv mv sz said _ q => ⟨said, grown_get hg q (fun e => by
   obtain ⟨_, _, o, h1, h2⟩ := hr b' e
   rw [q] at h1; cases h1; cases h2), .inl rfl⟩)
 fld x cs' f' q := ⟨cs', grown_get hg q (fun e => by
   obtain ⟨_, _, o, h1, h2⟩ := hr x e
   rw [q] at h1; cases h1; cases h2), fun _ _ => rfl⟩
def kdC (tr : Nat → Ty) (xs : List Nat) : Int → Nat := fun k => (xs.map fun x => (tr x).kind).count k
def enC (tr : Nat → Ty) (xs : List Nat) : ByteArray → Nat := fun s => ((xs.filter fun x => decide ((tr x).kind = 19)).map fun x => tb (tr x).text).count (tb s)
structure UJ (tr : Nat → Ty) (B : Nat) (w : World) (no : Nat → Prop) (m3 n3 m4 n4 n5 : Nat) (kc ec xs : List Nat) (W : World) : Prop where
 memo : Memo none1 B w W
 b3 : W.heap[n3]? = some (.cells #[.map (some m3)] MiT (0, 0))
 c3 : CMap W m3 (kdC tr kc)
 b4 : W.heap[n4]? = some (.cells #[.map (some m4)] MsT (0, 0))
 c4 : SMap W m4 (enC tr ec)
 row : ∃ v, W.heap[n5]? = some (.cells #[v] SlT (0, 0)) ∧ W.ownsRow 0 TpT 1 v xs.length (xs.map ptrV) ∧ ∀ g, v.ownBlock = some g → w.heap.size ≤ g ∧ ¬ no g
structure UL (w : World) (m3 n3 m4 n4 n5 : Nat) : Prop where
 l3 : w.heap.size ≤ m3
 l4 : w.heap.size ≤ m4
 l5 : w.heap.size ≤ n5
 d34 : m3 ≠ m4
structure UF (S : Nat → Prop) (W W' : World) : Prop where
 size : W.heap.size ≤ W'.heap.size
 obj : ∀ (b : Nat) (o : Obj), W.heap[b]? = some o → (∀ (cs : Array Value) (f : Nat × Nat), o ≠ .cells cs TyT f) → ¬ S b → W'.heap[b]? = some o
theorem UF.trans {S : Nat → Prop} {a b c : World} (h : UF S a b) (k : UF S b c) : UF S a c := ⟨Nat.le_trans h.size k.size, fun x o h1 h2 h3 => k.obj x o (h.obj x o h1 h2 h3) h2 h3⟩
theorem UF.refl (S : Nat → Prop) (a : World) : UF S a a := ⟨Nat.le_refl _, fun _ _ h _ _ => h⟩
theorem Memo.uf {S : Nat → Prop} {B : Nat} {a b : World} (h : Memo S B a b) : UF S a b := ⟨h.size, h.obj⟩
theorem UF.mono {S T : Nat → Prop} {a b : World} (h : UF S a b) (hs : ∀ x, S x → T x) : UF T a b := ⟨h.size, fun x o h1 h2 h3 => h.obj x o h1 h2 fun q => h3 (hs _ q)⟩
section
variable {tr : Nat → Ty} {B : Nat} {w : World} {no : Nat → Prop} {m3 n3 m4 n4 n5 : Nat} {kc ec xs : List Nat} {W : World}
theorem UJ.on (h : UJ tr B w no m3 n3 m4 n4 n5 kc ec xs W) {W' : World} (k : Memo none1 B W W') : UJ tr B w no m3 n3 m4 n4 n5 kc ec xs W' where
 memo := h.memo.trans k
 b3 := k.cells h.b3 (by decide) (fun e => e)
 c3 := h.c3.memo k
 b4 := k.cells h.b4 (by decide) (fun e => e)
 c4 := h.c4.memo k
 row := h.row.imp fun _ ⟨q1, q2, q3⟩ => ⟨k.cells q1 (by decide) (fun e => e), ownsRow_memo q2 (by decide) k, q3⟩
theorem UJ.weaken (h : UJ tr B w no m3 n3 m4 n4 n5 kc ec xs W) {no' : Nat → Prop} (k : ∀ g, w.heap.size ≤ g → g < W.heap.size → no' g → no g) : UJ tr B w no' m3 n3 m4 n4 n5 kc ec xs W :=
 { h with row := h.row.imp fun _ ⟨q1, q2, q3⟩ => ⟨q1, q2, fun g hg => ⟨(q3 g hg).1, fun e => (q3 g hg).2 (k g (q3 g hg).1 (q2.lt g hg).2 e)⟩⟩ }
theorem UJ.grownObj (h : UJ tr B w no m3 n3 m4 n4 n5 kc ec xs W) (hB : B ≤ w.heap.size) {B' : Nat} (hB' : w.heap.size ≤ B') (h3 : m3 < B') (h4 : m4 < B') {W' : World} {row : Option Nat} (hg : W.grownBy W' row) (hr : ∀ r, row = some r → B' ≤ r ∧ ∃ o : Obj, W.heap[r]? = some o ∧ o.isCells = false) : UJ tr B w no m3 n3 m4 n4 n5 kc ec xs W' where
 memo := ((h.memo.mono fun _ e => e.elim).trans (Memo.grownObj (S := fun x => w.heap.size ≤ x) hg fun r e => ⟨Nat.le_trans hB' (hr r e).1, Nat.le_trans hB (Nat.le_trans hB' (hr r e).1), (hr r e).2⟩)).fresh fun _ e => e
 b3 := keep_own h.b3 hg hr
 c3 := h.c3.keep (hg.block m3 h.c3.lt fun e => by have := (hr m3 e.symm).1; omega)
 b4 := keep_own h.b4 hg hr
 c4 := h.c4.keep (hg.block m4 h.c4.lt fun e => by have := (hr m4 e.symm).1; omega)
 row := by
   obtain ⟨v, q1, q2, q3⟩ := h.row
   refine ⟨v, keep_own q1 hg hr, ownsRow_keep q2 fun g hg' => ?_, q3⟩
   refine hg.block g (q2.lt g hg').2 fun e => ?_
   obtain ⟨_, o, ho, hoc⟩ := hr g e.symm
   rcases q2.2 with ⟨hv, _⟩ | ⟨g', cap, cur, hv, _, hc, _⟩
   · rw [hv] at hg'; cases hg'
   · rw [hv] at hg'; cases hg'; rw [hc] at ho; cases ho; cases hoc
theorem row_block {v : Value} (h : W.ownsRow 0 TpT 1 v xs.length (xs.map ptrV)) : ∀ g, v.ownBlock = some g → ∃ cur, W.heap[g]? = some (.cells cur TpT (0, 0)) := fun g hg => by
 rcases h.2 with ⟨hv, _⟩ | ⟨g', cap, cur, hv, _, hc, _⟩
 · rw [hv] at hg; cases hg
 · rw [hv] at hg; cases hg; exact ⟨cur, hc⟩
theorem CMap.obj {f : Int → Nat} (h : CMap W m3 f) : ∃ es clk, W.heap[m3]? = some (.map es clk) := let ⟨es, clk, _, h1, _⟩ := h; ⟨es, clk, h1⟩
theorem SMap.obj {f : ByteArray → Nat} (h : SMap W m4 f) : ∃ es clk, W.heap[m4]? = some (.map es clk) := let ⟨es, clk, _, h1, _⟩ := h; ⟨es, clk, h1⟩
theorem kdC_snoc (tr : Nat → Ty) (kc : List Nat) (y : Nat) : kdC tr (kc ++ [y]) = fun k => if k = (tr y).kind then kdC tr kc (tr y).kind + 1 else kdC tr kc k := by
 funext k
 unfold kdC
 rw [List.map_append, List.count_append]
 simp only [List.map_cons, List.map_nil, List.count_cons, List.count_nil]
 by_cases e : k = (tr y).kind
 · subst e; simp
 · rw [if_neg e, if_neg (by simpa using fun x => e x.symm)]; simp
theorem enC_snoc (tr : Nat → Ty) (ec : List Nat) (y : Nat) (hk : (tr y).kind = 19) : enC tr (ec ++ [y]) = fun s => if s = (tr y).text then enC tr ec (tr y).text + 1 else enC tr ec s := by
 funext s
 unfold enC
 rw [List.filter_append, List.map_append, List.count_append]
 have e1 : ([y] : List Nat).filter (fun x => decide ((tr x).kind = 19)) = [y] := by simp [hk]
 rw [e1]
 simp only [List.map_cons, List.map_nil, List.count_cons, List.count_nil]
 by_cases e : s = (tr y).text
 · subst e; simp
 · rw [if_neg e, if_neg (by simpa using fun x : tb (tr y).text = tb s => e (tb_inj x).symm)]; simp
theorem enC_same (tr : Nat → Ty) (ec : List Nat) (y : Nat) (hk : (tr y).kind ≠ 19) : enC tr (ec ++ [y]) = enC tr ec := by
 funext s
 unfold enC
 rw [List.filter_append]
 have e1 : ([y] : List Nat).filter (fun x => decide ((tr x).kind = 19)) = [] := by simp [hk]
 rw [e1, List.append_nil]
theorem UJ.kind (h : UJ tr B w no m3 n3 m4 n4 n5 kc ec xs W) (hB : B ≤ w.heap.size) (hL : UL w m3 n3 m4 n4 n5) (y : Nat) {es' : Array MapEntry} {clk' : Nat} (hc : ∀ X : World, X.heap[m3]? = some (.map es' clk') → CMap X m3 (fun k' => if k' = (tr y).kind then kdC tr kc (tr y).kind + 1 else kdC tr kc k')) :
   UJ tr B w no m3 n3 m4 n4 n5 (kc ++ [y]) ec xs (putB W m3 (.map es' clk')) ∧ Memo (fun x => x = m3) B W (putB W m3 (.map es' clk')) := by
 obtain ⟨es, clk, hm⟩ := h.c3.obj
 have hlt := lt_of_heap hm
 have hM : Memo (fun x => x = m3) B W (putB W m3 (.map es' clk')) := Memo.putB hm rfl (Nat.le_trans hB hL.l3)
 obtain ⟨es4, clk4, hm4⟩ := h.c4.obj
 refine ⟨⟨((h.memo.mono fun _ e => e.elim).trans (hM.mono (T := fun x => w.heap.size ≤ x) fun x e => by rw [e]; exact hL.l3)).fresh fun _ e => e, hM.cells h.b3 (by decide) (fun e => ?_), ?_, hM.cells h.b4 (by decide) (fun e => ?_), h.c4.keep (putB_other _ _ _ _ (fun e => hL.d34 e.symm)), ?_⟩, hM⟩
 · have q := h.b3
   rw [e, hm] at q; cases q
 · rw [kdC_snoc]
   exact hc _ (putB_same _ _ _ hlt)
 · have q := h.b4
   rw [e, hm] at q; cases q
 · obtain ⟨v, q1, q2, q3⟩ := h.row
   refine ⟨v, hM.cells q1 (by decide) (fun e => ?_), ownsRow_keep q2 fun g hg => putB_other _ _ _ _ (fun e => ?_), q3⟩
   · rw [e, hm] at q1; cases q1
   · obtain ⟨cur, hc⟩ := row_block q2 g hg
     rw [e, hm] at hc; cases hc
theorem UJ.enum (h : UJ tr B w no m3 n3 m4 n4 n5 kc ec xs W) (hB : B ≤ w.heap.size) (hL : UL w m3 n3 m4 n4 n5) (y : Nat) (hk : (tr y).kind = 19) {es' : Array MapEntry} {clk' : Nat} (hc : ∀ X : World, X.heap[m4]? = some (.map es' clk') → SMap X m4 (fun s => if s = (tr y).text then enC tr ec (tr y).text + 1 else enC tr ec s)) :
   UJ tr B w no m3 n3 m4 n4 n5 kc (ec ++ [y]) xs (putB W m4 (.map es' clk')) ∧ Memo (fun x => x = m4) B W (putB W m4 (.map es' clk')) := by
 obtain ⟨es, clk, hm⟩ := h.c4.obj
 have hlt := lt_of_heap hm
 have hM : Memo (fun x => x = m4) B W (putB W m4 (.map es' clk')) := Memo.putB hm rfl (Nat.le_trans hB hL.l4)
 refine ⟨⟨((h.memo.mono fun _ e => e.elim).trans (hM.mono (T := fun x => w.heap.size ≤ x) fun x e => by rw [e]; exact hL.l4)).fresh fun _ e => e, hM.cells h.b3 (by decide) (fun e => ?_), h.c3.keep (putB_other _ _ _ _ hL.d34), hM.cells h.b4 (by decide) (fun e => ?_), ?_, ?_⟩, hM⟩
 · have q := h.b3
   rw [e, hm] at q; cases q
 · have q := h.b4
   rw [e, hm] at q; cases q
 · rw [enC_snoc tr ec y hk]
   exact hc _ (putB_same _ _ _ hlt)
 · obtain ⟨v, q1, q2, q3⟩ := h.row
   refine ⟨v, hM.cells q1 (by decide) (fun e => ?_), ownsRow_keep q2 fun g hg => putB_other _ _ _ _ (fun e => ?_), q3⟩
   · rw [e, hm] at q1; cases q1
   · obtain ⟨cur, hc⟩ := row_block q2 g hg
     rw [e, hm] at hc; cases hc
theorem UJ.push (h : UJ tr B w no m3 n3 m4 n4 n5 kc ec xs W) (hB : B ≤ w.heap.size) (hL : UL w m3 n3 m4 n4 n5) (hno : ∀ g, W.heap.size ≤ g → ¬ no g) {y n vcap cap' : Nat} {va sa' : Option Addr} {w7 : World} (hv : W.heap[n5]? = some (.cells #[.slice va n vcap] SlT (0, 0))) (hn : n = xs.length)
   (hown' : w7.ownsRow 0 TpT 1 (.slice sa' (n + 1) cap') (n + 1) (xs.map ptrV ++ [.pointer (some ⟨y, 0, none⟩)])) (hgrow : (W.alloc (.cells #[.pointer (some ⟨y, 0, none⟩)] TpT)).grownBy w7 (Value.slice va n vcap).ownBlock)
   (hblk : (Value.slice sa' (n + 1) cap').ownBlock = (Value.slice va n vcap).ownBlock ∨ ∃ g, (Value.slice sa' (n + 1) cap').ownBlock = some g ∧ W.heap.size + 1 ≤ g) :
   UJ tr B w no m3 n3 m4 n4 n5 kc ec (xs ++ [y]) (w7.setCell ⟨n5, 0, none⟩ (.slice sa' (n + 1) cap')) ∧ Memo (fun x => x = n5 ∨ (w.heap.size ≤ x ∧ ¬ no x ∧ ∃ cs f, W.heap[x]? = some (.cells cs TpT f))) B W (w7.setCell ⟨n5, 0, none⟩ (.slice sa' (n + 1) cap')) := by
 obtain ⟨v, q1, q2, q3⟩ := h.row
 rw [hv] at q1
 injection q1 with q1
 injection q1 with q1 _ _
 have q1 := congrArg Array.toList q1
 simp only [List.cons.injEq, and_true] at q1
 subst q1
 have hwW := h.memo.size
 have hrb := row_block q2
 have hup : Up W (W.alloc (.cells #[.pointer (some ⟨y, 0, none⟩)] TpT)) := (Up.refl W).alloc _
 have hM1 : Memo (fun x => x = n5 ∨ (w.heap.size ≤ x ∧ ¬ no x ∧ ∃ cs f, W.heap[x]? = some (.cells cs TpT f))) B W w7 := (Memo.of_up _ B hup).trans (Memo.grown hgrow fun r e => by
   obtain ⟨cur, hc⟩ := hrb r e
   exact ⟨.inr ⟨(q3 r e).1, (q3 r e).2, _, _, hc⟩, Nat.le_trans hB (q3 r e).1, _, _, _, hup.get hc, by decide⟩)
 have hr5 : (Value.slice va n vcap).ownBlock ≠ some n5 := fun e => by
   obtain ⟨cur, hc⟩ := hrb n5 e
   rw [hv] at hc
   injection hc with hc
   injection hc with _ hc _
   exact absurd hc (by decide)
 have h57 : w7.heap[n5]? = some (.cells #[.slice va n vcap] SlT (0, 0)) := grown_get hgrow (hup.get hv) hr5
 have hM2 : Memo (fun x => x = n5 ∨ (w.heap.size ≤ x ∧ ¬ no x ∧ ∃ cs f, W.heap[x]? = some (.cells cs TpT f))) B W (w7.setCell ⟨n5, 0, none⟩ (.slice sa' (n + 1) cap')) := hM1.trans (Memo.cell1 h57 (by decide) (.inl rfl) (Nat.le_trans hB hL.l5) _)
 obtain ⟨es3, clk3, hm3⟩ := h.c3.obj
 obtain ⟨es4, clk4, hm4⟩ := h.c4.obj
 have hout : ∀ (x : Nat) (o : Obj), W.heap[x]? = some o → (∀ cs f, o ≠ .cells cs TyT f) → (∀ cs f, o ≠ .cells cs SlT f) → (∀ cs f, o ≠ .cells cs TpT f) → (w7.setCell ⟨n5, 0, none⟩ (.slice sa' (n + 1) cap')).heap[x]? = some o := fun x o hx ho h1 h2 =>
   hM2.obj x o hx ho fun e => by
     rcases e with e | ⟨_, _, cs, f, e⟩
     · rw [e, hv] at hx
       cases hx
       exact h1 _ _ rfl
     · rw [hx] at e
       cases e
       exact h2 _ _ rfl
 refine ⟨⟨((h.memo.mono fun _ e => e.elim).trans (hM2.mono (T := fun x => w.heap.size ≤ x) fun x e => by rcases e with e | e; rw [e]; exact hL.l5; exact e.1)).fresh fun _ e => e, hout _ _ h.b3 (fun _ _ e => by injection e with _ e _; exact absurd e (by decide)) (fun _ _ e => by injection e with _ e _; exact absurd e (by decide)) (fun _ _ e => by injection e with _ e _; exact absurd e (by decide)),
   h.c3.keep ((hout _ _ hm3 (fun _ _ e => by cases e) (fun _ _ e => by cases e) (fun _ _ e => by cases e)).trans hm3.symm), hout _ _ h.b4 (fun _ _ e => by injection e with _ e _; exact absurd e (by decide)) (fun _ _ e => by injection e with _ e _; exact absurd e (by decide)) (fun _ _ e => by injection e with _ e _; exact absurd e (by decide)),
   h.c4.keep ((hout _ _ hm4 (fun _ _ e => by cases e) (fun _ _ e => by cases e) (fun _ _ e => by cases e)).trans hm4.symm), .slice sa' (n + 1) cap', setCell_block (i := 0) h57 _, ?_, fun g hg => ?_⟩, hM2⟩
 · rw [List.length_append, List.map_append, ← hn]
   refine ownsRow_keep hown' fun g hg => setCell_other (fun e => ?_) _
   subst e
   rcases hblk with q | ⟨g', q, q2'⟩
   · rw [q] at hg; exact hr5 hg
   · rw [q] at hg; cases hg; have := lt_of_heap hv; omega
 · rcases hblk with q | ⟨g', q, q2'⟩
   · rw [q] at hg; exact q3 g hg
   · rw [q] at hg; cases hg; exact ⟨by omega, hno g (by omega)⟩
end
theorem kdC_pos (tr : Nat → Ty) (xs : List Nat) (k : Int) : 0 < kdC tr xs k ↔ ∃ x ∈ xs, (tr x).kind = k := by
 unfold kdC
 rw [List.count_pos_iff, List.mem_map]
theorem enC_pos (tr : Nat → Ty) (xs : List Nat) (s : ByteArray) : 0 < enC tr xs s ↔ ∃ x ∈ xs, (tr x).kind = 19 ∧ (tr x).text = s := by
 unfold enC
 rw [List.count_pos_iff, List.mem_map]
 constructor
 · rintro ⟨x, hx, e⟩
   obtain ⟨h1, h2⟩ := List.mem_filter.1 hx
   exact ⟨x, h1, by simpa using h2, tb_inj e⟩
 · rintro ⟨x, hx, h1, h2⟩
   exact ⟨x, List.mem_filter.2 ⟨hx, by simpa using h1⟩, by rw [h2]⟩
theorem goesM_eq (tr : Nat → Ty) (xs : List Nat) (x : Nat) (hv : (tr x).Valid) : goesM (kdC tr xs) (enC tr xs) (tr x) = goesB (xs.map fun y => (tr y).canon) (tr x).canon := by
 have hG : goesB (xs.map fun y => (tr y).canon) (tr x).canon = true ↔ Goes (xs.map fun y => (tr y).canon) (tr x).canon := goesB_iff _ _
 have key : goesM (kdC tr xs) (enC tr xs) (tr x) = true ↔ Goes (xs.map fun y => (tr y).canon) (tr x).canon := by
   unfold goesM Goes
   rw [Ty.canon_kind, Ty.canon_parts]
   have hmem : ∀ P : Ty → Prop, (∃ q ∈ xs.map (fun y => (tr y).canon), P q) ↔ ∃ y ∈ xs, P (tr y).canon := fun P => by
     constructor
     · rintro ⟨q, hq, hP⟩
       obtain ⟨y, hy, rfl⟩ := List.mem_map.1 hq
       exact ⟨y, hy, hP⟩
     · rintro ⟨y, hy, hP⟩
       exact ⟨_, List.mem_map_of_mem (f := fun y => (tr y).canon) hy, hP⟩
   have hk : ∀ k : Int, (∃ q ∈ xs.map (fun y => (tr y).canon), q.kind = k) ↔ 0 < kdC tr xs k := fun k => by
     rw [kdC_pos, hmem]
     simp only [Ty.canon_kind]
   rw [hk 7, hk 8, hmem]
   simp only [Ty.canon_kind, Ty.text_canon]
   by_cases h3 : (tr x).kind = 3
   · simp [h3]
   rw [if_neg h3]
   by_cases h11 : (tr x).kind = 11
   · rw [if_pos h11]; simp [h11]
   rw [if_neg h11]
   by_cases h12 : (tr x).kind = 12
   · rw [if_pos h12]; simp [h12]
   rw [if_neg h12]
   by_cases h20 : (tr x).kind = 20
   · rw [if_pos h20]
     obtain ⟨n, nm, ns, ms, m, nm', hx⟩ : ∃ n nm ns ms m nm', tr x = .mk 20 n nm [.mk 19 m nm' [] [] []] ns ms := by
       revert h20 hv
       generalize tr x = t
       intro hv
       cases hv with
       | case => intro _; exact ⟨_, _, _, _, _, _, rfl⟩
       | basic => intro h; exact absurd h (by simp only [Ty.kind]; omega)
       | num => intro h; exact absurd h (by simp only [Ty.kind]; omega)
       | str => intro h; exact absurd h (by simp only [Ty.kind]; omega)
       | arr => intro h; exact absurd h (by simp only [Ty.kind]; omega)
       | obj => intro h; exact absurd h (by simp only [Ty.kind]; omega)
       | fn => intro h; exact absurd h (by simp only [Ty.kind]; omega)
       | un => intro h; exact absurd h (by simp only [Ty.kind]; omega)
       | ref => intro h; exact absurd h (by simp only [Ty.kind]; omega)
       | named hk => intro h; exact absurd h (by simp only [Ty.kind]; omega)
     rw [hx]
     simp only [Ty.parts, Ty.kind, decide_eq_true_eq, enC_pos, List.map_cons, List.map_nil, List.mem_singleton]
     constructor
     · rintro ⟨y, hy, h1, h2⟩
       exact .inr (.inr (.inr ⟨trivial, y, hy, h1, _, rfl, by rw [Ty.text_canon, h2]⟩))
     · rintro (h | ⟨h, _⟩ | ⟨h, _⟩ | ⟨_, y, hy, h1, e, he, h2⟩)
       · omega
       · omega
       · omega
       · subst he
         exact ⟨y, hy, h1, by rw [h2, Ty.text_canon]⟩
   · rw [if_neg h20]; simp [h3, h11, h12, h20]
 cases h1 : goesM (kdC tr xs) (enC tr xs) (tr x) <;> cases h2 : goesB (xs.map fun y => (tr y).canon) (tr x).canon
 · rfl
 · exact absurd (key.2 (hG.1 h2)) (by rw [h1]; decide)
 · exact absurd (hG.2 (key.1 h1)) (by rw [h2]; decide)
 · rfl
theorem union_rest (tr : Nat → Ty) (xs zs : List Nat) (hv : ∀ x ∈ xs, (tr x).Valid ∧ (tr x).kind ≠ 16) (hz1 : zs.Pairwise fun x y => ltS (tr x).partT (tr y).partT = true) (hz2 : ∀ z ∈ zs, z ∈ xs.filter fun x => !goesM (kdC tr xs) (enC tr xs) (tr x)) (hz3 : ∀ x ∈ xs.filter (fun x => !goesM (kdC tr xs) (enC tr xs) (tr x)), ∃ z ∈ zs, (tr z).partT = (tr x).partT) :
   sortU (restU (xs.map fun x => (tr x).canon)) = zs.map fun z => (tr z).canon := by
 have hF : Fl (xs.map fun x => (tr x).canon) := fun t ht => by
   obtain ⟨x, hx, rfl⟩ := List.mem_map.1 ht
   exact ⟨CV.of (hv x hx).1, by rw [Ty.canon_kind]; exact (hv x hx).2⟩
 refine sorted_ext (sortU_sorted _) ?_ fun t => ?_
 · rw [List.pairwise_map]
   refine hz1.imp fun {a b} h => ?_
   unfold LtP
   rw [Ty.partT_canon, Ty.partT_canon]
   exact h
 · rw [sortU_mem _ (fun a ha b hb => hF.key a (restU_mem.1 ha).1 b (restU_mem.1 hb).1), restU_mem, List.mem_map, List.mem_map]
   have hgo : ∀ x ∈ xs, (goesM (kdC tr xs) (enC tr xs) (tr x) = true ↔ Goes (xs.map fun y => (tr y).canon) (tr x).canon) := fun x hx => by
     rw [goesM_eq tr xs x (hv x hx).1]
     exact goesB_iff _ _
   constructor
   · rintro ⟨⟨x, hx, rfl⟩, hn⟩
     have hxf : x ∈ xs.filter fun x => !goesM (kdC tr xs) (enC tr xs) (tr x) := List.mem_filter.2 ⟨hx, by
       cases hq : goesM (kdC tr xs) (enC tr xs) (tr x) with
       | false => rfl
       | true => exact (hn ((hgo x hx).1 hq)).elim⟩
     obtain ⟨z, hz, e⟩ := hz3 x hxf
     have hzx := (List.mem_filter.1 (hz2 z hz)).1
     exact ⟨z, hz, part_inj (hv z hzx).1 (hv x hx).1 (hv z hzx).2 (hv x hx).2 e⟩
   · rintro ⟨z, hz, rfl⟩
     obtain ⟨h1, h2⟩ := List.mem_filter.1 (hz2 z hz)
     refine ⟨⟨z, h1, rfl⟩, fun hg => ?_⟩
     rw [(hgo z h1).2 hg] at h2
     cases h2
noncomputable def trOf (N : Nat → Prop) (B : Nat) (w : World) (b : Nat) : Ty := by
 classical exact if h : ∃ t, TyAt N B w b t then h.choose else basicT 3
theorem trOf_eq {N : Nat → Prop} {B : Nat} {w : World} {b : Nat} {t : Ty} (h : TyAt N B w b t) : trOf N B w b = t := by
 have hx : ∃ t, TyAt N B w b t := ⟨t, h⟩
 unfold trOf
 rw [dif_pos hx]
 exact hx.choose_spec.unique h
structure FlatIn (N : Nat → Prop) (B : Nat) (tr : Nat → Ty) (w : World) (x : Nat × List Nat) : Prop where
 ty : TyAt N B w x.1 (tr x.1)
 un : (tr x.1).kind = 16 → ∃ (g off cap : Nat) (cs : Array Value) (fz : Nat × Nat), w.cell? ⟨x.1, 3, none⟩ = some (.slice (some ⟨g, off, none⟩) x.2.length cap) ∧ N g ∧ w.heap[g]? = some (.cells cs TpT fz) ∧ ∀ (j q : Nat), x.2[j]? = some q → cs[off + j]? = some (ptrV q)
 one : (tr x.1).kind ≠ 16 → x.2 = [x.1]
 flat : x.2.map tr = (tr x.1).flat
 tys : ∀ q ∈ x.2, TyAt N B w q (tr q)
theorem TyAt.blk {N : Nat → Prop} {B : Nat} {w : World} {b : Nat} {t : Ty} (h : TyAt N B w b t) : ∃ (cs : Array Value), w.heap[b]? = some (.cells cs TyT (0, 0)) := by
 cases h with
 | mk said pv nv mv qs hB hh => exact ⟨_, hh⟩
theorem FlatIn.memo {N : Nat → Prop} {B : Nat} {tr : Nat → Ty} {w w' : World} {x : Nat × List Nat} (h : FlatIn N B tr w x) (k : Memo none1 B w w') : FlatIn N B tr w' x where
 ty := h.ty.memo k
 un hk := by
   obtain ⟨g, off, cap, cs, fz, h1, h2, h3, h4⟩ := h.un hk
   obtain ⟨cb, hb⟩ := h.ty.blk
   exact ⟨g, off, cap, cs, fz, (k.cell hb (by decide)).trans h1, h2, k.cells h3 (by decide) (fun e => e), h4⟩
 one := h.one
 flat := h.flat
 tys q hq := (h.tys q hq).memo k
theorem FlatIn.of {N : Nat → Prop} {B : Nat} {tr : Nat → Ty} {w : World} (htr : ∀ b t, TyAt N B w b t → tr b = t) {b : Nat} {t : Ty} (h : TyAt N B w b t) (hp : t.kind = 16 → t.parts ≠ []) : ∃ qs, FlatIn N B tr w (b, qs) := by
 have ht := htr b t h
 by_cases hk : t.kind = 16
 · cases t with
   | mk k n nm ps ns ms =>
     have hk : k = 16 := hk
     subst hk
     obtain ⟨pv, nv, mv, qs, V⟩ := h.view
     obtain ⟨p0, hp0⟩ : ∃ p, ps[0]? = some p := by
       cases ps with
       | nil => exact absurd rfl (hp rfl)
       | cons p r => exact ⟨p, rfl⟩
     obtain ⟨q0, hq0⟩ : ∃ q0, qs[0]? = some q0 := ⟨_, List.getElem?_eq_getElem (by have h1 := V.hl; have h2 := (List.getElem?_eq_some_iff.1 hp0).1; omega)⟩
     have hqt : ∀ (j q : Nat) (p : Ty), qs[j]? = some q → ps[j]? = some p → tr q = p := fun j q p h1 h2 => htr q p (V.hq j q p h1 h2)
     refine ⟨qs, by rw [ht]; exact h, fun _ => ?_, fun e => absurd (by rw [ht]; rfl) e, ?_, fun q hq => ?_⟩
     · obtain ⟨a, cap, he, hcap, hlen, hrow⟩ := V.hp
       obtain ⟨g, off, cs, fz, e1, hN, hc, _⟩ := hrow 0 (ptrV q0) (by rw [List.getElem?_map, hq0]; rfl)
       subst e1
       refine ⟨g, off, cap, cs, fz, by rw [V.c3, he, List.length_map], hN, hc, fun j q hj => ?_⟩
       obtain ⟨g2, off2, cs2, fz2, f1, _, f3, f4⟩ := hrow j (ptrV q) (by rw [List.getElem?_map, hj]; rfl)
       injection f1 with f1
       injection f1 with f1 f2 _
       subst f1 f2
       rw [hc] at f3
       injection f3 with f3
       injection f3 with f3 _ _
       subst f3
       exact f4
     · rw [ht]
       show qs.map tr = ps
       apply List.ext_getElem?
       intro j
       rw [List.getElem?_map]
       rcases Nat.lt_or_ge j qs.length with hj | hj
       · obtain ⟨q, hq⟩ : ∃ q, qs[j]? = some q := ⟨_, List.getElem?_eq_getElem hj⟩
         obtain ⟨p, hp⟩ : ∃ p, ps[j]? = some p := ⟨_, List.getElem?_eq_getElem (by have := V.hl; omega)⟩
         rw [hq, hp]
         exact congrArg some (hqt j q p hq hp)
       · rw [List.getElem?_eq_none hj, List.getElem?_eq_none (by have := V.hl; omega)]
         rfl
     · obtain ⟨j, hj⟩ := List.getElem?_of_mem hq
       obtain ⟨p, hp⟩ : ∃ p, ps[j]? = some p := ⟨_, List.getElem?_eq_getElem (by have := V.hl; have h9 : j < qs.length := (List.getElem?_eq_some_iff.1 hj).1; omega)⟩
       have h1 := V.hq j q p hj hp
       rw [hqt j q p hj hp]
       exact h1
 · refine ⟨[b], by rw [ht]; exact h, fun e => absurd (by rw [← ht]; exact e) hk, fun _ => rfl, ?_, fun q hq => ?_⟩
   · show [tr b] = _
     rw [ht]
     unfold Ty.flat
     rw [if_neg hk]
   · cases List.mem_singleton.1 hq
     rw [ht]
     exact h
theorem each_in (N : Nat → Prop) (B : Nat) (tr : Nat → Ty) (x : Nat × List Nat) (w : World) (h : FlatIn N B tr w x) :
   Calls Tryz.prog 91 #[.pointer (some ⟨x.1, 0, none⟩)] w fun e w' => ∃ tb g, e = .returned (.func (.func valuesF) #[] #[.pointer (some ⟨tb, 0, none⟩)]) ∧ SeqAt w' tb g x.2 ∧ w.heap.size ≤ tb ∧ (N g ∨ w.heap.size ≤ g) ∧ Up w w' := by
 obtain ⟨b, qs⟩ := x
 have HF := Lib.hid h
 have h0 := View.size h.ty
 have a0 := h0.1
 have al := h0.2
 obtain ⟨k, hkk⟩ : ∃ k, Hid ((tr b).kind = k) := ⟨_, rfl⟩
 simp only [hkk.out] at a0
 by_cases hk : k = 16
 · subst hk
   obtain ⟨g, off, cap, cs, fz, a3, hN, hc, hcs⟩ := h.un hkk.out
   simp only at a3
   have HC := Lib.hid (And.intro hN (And.intro hc hcs))
   clear h h0 hN hc hcs
   go_enter Tryz.func91, Tryz.ntmps91
   go_wp2_with (first | (go_at_call 140; refine (Values_any _ _ _ _).mono ?_; rintro e w2 ⟨rfl, rfl⟩))
   go_ret
   exact ⟨w.heap.size, g, rfl, ⟨off, cap, cs, fz, alloc_at _ _ _ (by simp), Up.get (w := w) uq HC.out.2.1, HC.out.2.2⟩, Nat.le_refl _, .inl HC.out.1, uq⟩
 · have hk2 : (k == 16) = false := by simpa using hk
   have hq : qs = [b] := h.one (by rw [hkk.out]; exact hk)
   subst hq
   clear h h0 hk
   go_enter Tryz.func91, Tryz.ntmps91
   go_wp2_with (first | (go_at_call 140; refine (Values_any _ _ _ _).mono ?_; rintro e w2 ⟨rfl, rfl⟩))
   go_ret
   refine ⟨_, w.heap.size, rfl, ⟨0, _, #[ptrV b], (0, 0), alloc_at _ _ _ (by simp), (alloc_old _ _ _ (by simp)).trans (alloc_get _ _), ?_⟩, by simp, .inr (Nat.le_refl _), uq⟩
   intro j x hx
   cases j with
   | zero => simp at hx; subst hx; rfl
   | succ j => simp at hx
theorem IndexFunc_none (va : Option Addr) (cap : Nat) (f : Value) (w : World) :
   Calls Tryz.prog 145 #[.slice va 0 cap, f] w fun e w' => e = .returned (.int .i64 (-1)) ∧ Up w w' := by
 go_enter Tryz.func145, Tryz.ntmps145
 go_wp2_with fail
 refine wp_loop_rounds 1 ?_
 rw [rounds_succ]
 go_wp2_with fail
 refine bodyPost_ret (v := .int .i64 (-1)) (by simp [results, Tryz.results145, go_sem]) rfl ?_
 exact ⟨rfl, uq⟩
theorem DeleteFunc_none (va : Option Addr) (cap : Nat) (f : Value) (w : World) :
   Calls Tryz.prog 94 #[.slice va 0 cap, f] w fun e w' => e = .returned (.slice va 0 cap) ∧ Up w w' := by
 go_enter Tryz.func94, Tryz.ntmps94
 go_wp2_with (first | (go_at_call 145; refine (IndexFunc_none va cap f _).mono ?_; rintro e w2 ⟨rfl, hu2⟩))
 refine bodyPost_ret (v := .slice va 0 cap) (by simp [results, Tryz.results94, go_sem]) rfl ?_
 exact ⟨rfl, uq⟩
theorem stable_none (va : Option Addr) (cap : Nat) (f : Value) (w : World) :
   Calls Tryz.prog 173 #[.slice va 0 cap, .int .i64 0, f] w fun e w' => e = .returned (.tuple #[]) ∧ Up w w' := by
 go_enter Tryz.func173, Tryz.ntmps173
 go_wp2_with fail
 refine wp_loop_rounds 1 ?_
 rw [rounds_succ]
 go_wp2_with (first | (go_at_call 195; refine (insertion_none _ f 0 0 _ (by decide) (by decide) (by decide)).mono ?_; rintro e w2 ⟨rfl, rfl⟩))
 refine wp_loop_rounds 1 ?_
 rw [rounds_succ]
 go_wp2_with fail
 go_end0
 exact ⟨rfl, uq⟩
theorem SortStable_none (va : Option Addr) (cap : Nat) (f : Value) (w : World) :
   Calls Tryz.prog 141 #[.slice va 0 cap, f] w fun e w' => e = .returned (.tuple #[]) ∧ Up w w' := by
 go_enter Tryz.func141, Tryz.ntmps141
 go_wp2_with (first | (go_at_call 173; refine (stable_none va cap f _).mono ?_; rintro e w2 ⟨rfl, hu2⟩))
 go_end0
 exact ⟨rfl, uq⟩
theorem Compact_none (va : Option Addr) (cap : Nat) (f : Value) (w : World) :
   Calls Tryz.prog 143 #[.slice va 0 cap, f] w fun e w' => e = .returned (.slice va 0 cap) ∧ Up w w' := by
 go_enter Tryz.func143, Tryz.ntmps143
 go_wp2_with fail
 refine bodyPost_ret (v := .slice va 0 cap) (by simp [results, Tryz.results143, go_sem]) rfl ?_
 exact ⟨rfl, uq⟩
theorem sorted_none (va : Option Addr) (cap : Nat) (w : World) :
   Calls Tryz.prog 93 #[.slice va 0 cap, .func (.func byF) #[] #[]] w fun e w' => e = .returned (.slice va 0 cap) ∧ Up w w' := by
 go_enter Tryz.func93, Tryz.ntmps93
 go_wp2_with (first | (go_at_call 141; refine (SortStable_none va cap _ _).mono ?_; rintro e w2 ⟨rfl, hu2⟩) | (go_at_call 143; refine (Compact_none va cap _ _).mono ?_; rintro e w3 ⟨rfl, hu3⟩))
 refine bodyPost_ret (v := .slice va 0 cap) (by simp [results, Tryz.results93, go_sem]) rfl ?_
 exact ⟨rfl, uq⟩
theorem Memo.taken {B : Nat} {w X W' : World} (h : Memo none1 B w X) (k : Taken w.heap.size X W') : Memo none1 B w W' where
 os := k.low.os.trans h.os
 tape := k.low.tape.trans h.tape
 output := k.low.output.trans h.output
 size := Nat.le_trans h.size k.low.size
 obj b o h1 h2 h3 := by
   rw [k.low.block b (lt_of_heap h1)]
   exact h.obj b o h1 h2 h3
 low b h1 h2 := (k.low.block b h2).trans (h.low b h1 h2)
 ty N b t h1 h2 := (h.ty N b t h1 h2).keep (fun _ _ _ _ _ _ q => k.cells _ _ _ _ q) (fun _ _ _ _ _ _ _ _ _ said _ q => ⟨said, k.cells _ _ _ _ q, .inl rfl⟩)
 fld b cs f q := by
   obtain ⟨cs', h1, h2⟩ := h.fld b cs f q
   exact ⟨cs', k.cells _ _ _ _ h1, h2⟩
theorem TyAt.taken {N : Nat → Prop} {B B' : Nat} {X W' : World} {b : Nat} {t : Ty} (h : TyAt N B X b t) (k : Taken B' X W') : TyAt N B W' b t := h.keep (fun _ _ _ _ _ _ q => k.cells _ _ _ _ q) (fun _ _ _ _ _ _ _ _ _ said _ q => ⟨said, k.cells _ _ _ _ q, .inl rfl⟩)
theorem leaf_ty {N : Nat → Prop} {B : Nat} {w : World} {b : Nat} {k : Int} (h : Leaf w b k ⟨#[]⟩) (hB : B ≤ b) : TyAt N B w b (basicT k) :=
 TyAt.mk ⟨#[]⟩ (.slice none 0 0) (.slice none 0 0) (.slice none 0 0) [] hB h (.inl rfl) (RowOf.nil _ _ _) (RowOf.nil _ _ _) (RowOf.nil _ _ _) rfl (fun j q p h1 _ => by simp at h1)
theorem Glob.memoS {S : Nat → Prop} {B : Nat} {w w' : World} (h : Glob w) (k : Memo S B w w') (hS : ∀ x, S x → x < w.heap.size → ∃ cs f, w.heap[x]? = some (.cells cs TpT f)) : Glob w' := h.step fun b o q p => k.obj b o q (fun cs f e => (p cs f).1 e) (fun e => by
 obtain ⟨cs, f, q2⟩ := hS b e (lt_of_heap q)
 rw [q] at q2
 cases q2
 exact (p cs f).2 rfl)
theorem Ty.size_le : ∀ t : Ty, t.size ≤ 1099511627776
 | .mk k n nm ps ns ms => by
   rw [Ty.size]
   have : ∀ (l : List Nat) (a : Nat), a ≤ 1099511627776 → l.foldl (fun a x => min (a + x) 1099511627776) a ≤ 1099511627776 := by
     intro l
     induction l with
     | nil => intro a h; exact h
     | cons x r ih => intro a _; exact ih _ (Nat.min_le_right _ _)
   exact this _ _ (by decide)
theorem View.cell6 {N : Nat → Prop} {B : Nat} {w : World} {b : Nat} {t : Ty} (h : TyAt N B w b t) : w.cell? ⟨b, 6, none⟩ = some (.int .i64 (t.size : Nat)) := by
 cases h with
 | mk said pv nv mv qs hB hh => exact cell_of hh 6
set_option maxHeartbeats 1600000 in
theorem made_tree (N : Nat → Prop) (B : Nat) (k n : Int) (nm : ByteArray) (qs : List Nat) (ps : List Ty) (ns : List ByteArray) (ms : List Bool) (pv nv mv : Value) (w : World) (hB : B ≤ w.heap.size) (hp : RowOf TpT N w pv (qs.map ptrV)) (hn : RowOf StrT N w nv (ns.map .string)) (hm : RowOf BooT N w mv (ms.map .bool)) (hl : qs.length = ps.length)
   (hq : ∀ (j q : Nat) (p : Ty), qs[j]? = some q → ps[j]? = some p → TyAt N B w q p) :
   Calls Tryz.prog 57 #[.agg #[.int .i64 k, .int .i64 n, .string nm, pv, nv, mv, .int .i64 0, .string ⟨#[]⟩]] w fun e w' => ∃ b, e = .returned (.pointer (some ⟨b, 0, none⟩)) ∧ TyAt N B w' b (.mk k n nm ps ns ms) ∧ w.heap.size ≤ b ∧ Up w w' := by
 have hzl : ((qs.zip ps).map fun x => (x.1, x.2.size)).length = qs.length := by simp [hl]
 have hP : Parts w pv ((qs.zip ps).map fun x => (x.1, x.2.size)) := by
   obtain ⟨a, cap, e, h1, h2, h3⟩ := hp
   rw [List.length_map] at e h1 h2
   refine ⟨⟨a, cap, by rw [hzl]; exact e⟩, fun j x hx => ?_, by rw [hzl]; exact h2⟩
   rw [List.getElem?_map] at hx
   cases hz : (qs.zip ps)[j]? with
   | none => rw [hz] at hx; cases hx
   | some y =>
     rw [hz] at hx
     cases hx
     obtain ⟨hq1, hp1⟩ := List.getElem?_zip_eq_some.1 hz
     obtain ⟨g, off, cs, fz, f1, _, f3, f4⟩ := h3 j (ptrV y.1) (by rw [List.getElem?_map, hq1]; rfl)
     have ht := hq j y.1 y.2 hq1 hp1
     exact ⟨g, off, cap, by rw [hzl, e, f1], lt_of_heap f3, (cell_of f3 _).trans f4, ht.lt, View.cell6 ht, Ty.size_le _⟩
 have hs : sizeL 1 ((qs.zip ps).map fun x => (x.1, x.2.size)) = (Ty.mk k n nm ps ns ms).size := by
   rw [Ty.size, Ty.sizes_eq]
   unfold sizeL
   have key : ∀ (qs : List Nat) (ps : List Ty) (a : Nat), qs.length = ps.length → ((qs.zip ps).map fun x => (x.1, x.2.size)).foldl (fun a x => min (a + x.2) 1099511627776) a = (ps.map Ty.size).foldl (fun a x => min (a + x) 1099511627776) a := by
     intro qs
     induction qs with
     | nil => intro ps a h; cases ps with
       | nil => rfl
       | cons p r => simp at h
     | cons q r ih => intro ps a h; cases ps with
       | nil => simp at h
       | cons p s => simp only [List.zip_cons_cons, List.map_cons, List.foldl_cons]; exact ih s _ (by simpa using h)
   exact key qs ps 1 hl
 have hnv : ∃ a l c, nv = .slice a l c := by obtain ⟨a, cap, e, _⟩ := hn; exact ⟨_, _, _, e⟩
 have hmv : ∃ a l c, mv = .slice a l c := by obtain ⟨a, cap, e, _⟩ := hm; exact ⟨_, _, _, e⟩
 refine (made_any k n nm pv nv mv _ w hP hnv hmv).mono ?_
 rintro e w' ⟨b, rfl, hb, hbl, hu⟩
 rw [hs] at hb
 refine ⟨b, rfl, TyAt.mk ⟨#[]⟩ pv nv mv qs (Nat.le_trans hB hbl) hb (.inl rfl) (hp.keep fun g cs fz h1 h2 => ⟨h1, hu.get h2⟩) (hn.keep fun g cs fz h1 h2 => ⟨h1, hu.get h2⟩) (hm.keep fun g cs fz h1 h2 => ⟨h1, hu.get h2⟩) hl (fun j q p h1 h2 => (hq j q p h1 h2).up hu), hbl, hu⟩
theorem Ty.valid_of_canon {ps : List Ty} (h : (Ty.mk 16 0 ⟨#[]⟩ ps [] []).canon.Valid) (hp : ∀ p ∈ ps, p.Valid) : (Ty.mk 16 0 ⟨#[]⟩ ps [] []).Valid := by
 rw [Ty.canon_mk, if_neg (by decide)] at h
 generalize hq : ps.map Ty.canon = l at h
 cases h with
 | un _ hl hk hs hg hpv =>
   subst hq
   refine .un ps (by simpa using hl) (fun p hp' => ?_) ?_ (fun p hp' => ?_) hp
   · have := hk p.canon (List.mem_map_of_mem (f := Ty.canon) hp')
     rwa [Ty.canon_kind] at this
   · rw [List.pairwise_map] at hs
     refine hs.imp fun {a b} h => ?_
     rwa [Ty.partT_canon, Ty.partT_canon] at h
   · obtain ⟨g1, g2, g3⟩ := hg p.canon (List.mem_map_of_mem (f := Ty.canon) hp')
     rw [Ty.canon_kind] at g1 g2 g3
     refine ⟨fun hk1 q hq => ?_, fun hk1 q hq => ?_, fun hk1 q hq hq9 e he => ?_⟩
     · have := g1 hk1 q.canon (List.mem_map_of_mem (f := Ty.canon) hq)
       rwa [Ty.canon_kind] at this
     · have := g2 hk1 q.canon (List.mem_map_of_mem (f := Ty.canon) hq)
       rwa [Ty.canon_kind] at this
     · have := g3 hk1 q.canon (List.mem_map_of_mem (f := Ty.canon) hq) (by rw [Ty.canon_kind]; exact hq9) e.canon (by rw [Ty.canon_parts]; exact List.mem_map_of_mem (f := Ty.canon) he)
       rwa [Ty.text_canon, Ty.text_canon] at this
 | basic h1 h2 => omega
 | named hk => omega
mutual
noncomputable def normC : Ty → Ty
 | .mk k n nm ps ns ms => if k = 16 then unionC (normCs ps) else .mk k (if k = 20 then 0 else n) nm (normCs ps) ns ms
noncomputable def normCs : List Ty → List Ty
 | [] => []
 | p :: r => normC p :: normCs r
end
theorem normCs_eq : ∀ ps : List Ty, normCs ps = ps.map normC
 | [] => by rw [normCs]; rfl
 | p :: r => by rw [normCs, normCs_eq r]; rfl
theorem normC_mk (k n : Int) (nm : ByteArray) (ps : List Ty) (ns : List ByteArray) (ms : List Bool) : normC (.mk k n nm ps ns ms) = if k = 16 then unionC (ps.map normC) else .mk k (if k = 20 then 0 else n) nm (ps.map normC) ns ms := by rw [normC, normCs_eq]
end Go.Proofs.YtiaepldmgighbaaGreatDoor
