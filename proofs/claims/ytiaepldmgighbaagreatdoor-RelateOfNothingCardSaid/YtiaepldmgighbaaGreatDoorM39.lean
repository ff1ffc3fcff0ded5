import Derived.OrdersIn
import Derived.Test.YtiaepldmgighbaaGreatDoorM16
import Derived.Test.YtiaepldmgighbaaGreatDoorM05
namespace Go.Proofs.YtiaepldmgighbaaGreatDoor
open Go.RowKit
set_option linter.unusedSimpArgs false
theorem region_via {P : Program} {id : Nat} {Q : Exit → Act → World → Prop} {a : Act} {w : World} {ls : List Oper} {β : Type} (Fct : Array Bool → β → World → Prop) (upd : Array Bool → β → Array Value → Array Value) (hm : P.follows .mixedOrders = true) (hb : waitsBack ls.toArray = true)
   (h0 : ∃ x, Fct (Array.replicate ls.length false) x w.drew ∧ a = { tmps := upd (Array.replicate ls.length false) x a.tmps, defers := a.defers }) (hz : ∀ l x w, Fct l x w → l.size = ls.length)
   (hd : ∀ l x w, Fct l x w → (∀ i, i < ls.length → l.getD i true = true) → Q .normal { tmps := upd l x a.tmps, defers := a.defers } w)
   (hs : ∀ l x w, Fct l x w → ∀ i o, i < ls.length → ls[i]? = some o → l.getD i true = false → (∀ e ∈ o.after, Region.binds .any e = true → l.getD e.on false = true) →
     wpOp P ls.toArray Q i (fun a' w' => ∃ x', Fct (l.setIfInBounds i true) x' w' ∧ a' = { tmps := upd (l.setIfInBounds i true) x' a.tmps, defers := a.defers }) { tmps := upd l x a.tmps, defers := a.defers } w) :
   (Code.region id ls.toArray true).wp P Q a w :=
 wp_region_inv (fun l a' w' => ∃ x, Fct l x w' ∧ a' = { tmps := upd l x a.tmps, defers := a.defers }) hm hb h0 (fun _ _ _ ⟨x, h, _⟩ => hz _ x _ h) (fun _ _ _ ⟨x, h, e⟩ hall => by rw [e]; exact hd _ x _ h hall)
   (fun _ _ _ ⟨x, h, e⟩ i o hi ho hl hdep => by rw [e]; exact hs _ x _ h i o hi ho hl hdep)
theorem wpAnyIn_inv {F : Fence} {n : Nat} {P : Program} {md : Region.Mode} {ops : Array Oper} {Q : Exit → Act → World → Prop} (InvA : Array Bool → Act → World → Prop) (hb : waitsBack ops = true) (hz : ∀ l a w, InvA l a w → l.size = ops.size)
   (hd : ∀ l a w, InvA l a w → (∀ i, i < ops.size → l.getD i true = true) → Q .normal a w)
   (hs : ∀ l a w, InvA l a w → ∀ i o, i < ops.size → ops[i]? = some o → l.getD i true = false → (∀ e ∈ o.after, Region.binds md e = true → l.getD e.on false = true) → wpOpIn F n P ops Q i (InvA (l.setIfInBounds i true)) a w) :
   ∀ (fuel : Nat) (l : Array Bool) (a : Act) (w : World), InvA l a w → l.toList.count false ≤ fuel → wpAnyIn F n P md ops Q fuel l a w := by
 have hall : ∀ (l : Array Bool), l.size = ops.size → Region.ready md ops l = [] → ∀ i, i < ops.size → l.getD i true = true := by
   intro l hl hr i
   induction i using Nat.strongRecOn with
   | ind i ih =>
     intro hi
     cases hv : l.getD i true with
     | true => rfl
     | false =>
       exfalso
       have hm : i ∈ Region.ready md ops l := mem_ready.2 ⟨hv, _, Array.getElem?_eq_getElem hi, fun e he _ => by
         have hlt := waitsBack_spec hb (Array.getElem?_eq_getElem hi) e he
         have q := ih e.on hlt (by omega)
         have hs2 : e.on < l.size := by omega
         rw [Array.getD_eq_getD_getElem?, Array.getElem?_eq_getElem hs2] at q ⊢
         exact q⟩
       rw [hr] at hm
       cases hm
 intro fuel
 induction fuel with
 | zero =>
   intro l a w hI hc
   have hr : Region.ready md ops l = [] := by
     cases hq : Region.ready md ops l with
     | nil => rfl
     | cons i r =>
       exfalso
       have hm : i ∈ Region.ready md ops l := by rw [hq]; simp
       obtain ⟨h1, _⟩ := mem_ready.1 hm
       have hn : l.toList.count false = 0 := by omega
       rw [List.count_eq_zero] at hn
       rcases Nat.lt_or_ge i l.size with h' | h'
       · rw [Array.getD_eq_getD_getElem?, Array.getElem?_eq_getElem h'] at h1
         simp only [Option.getD_some] at h1
         exact hn (by rw [← h1]; simp)
       · rw [Array.getD_eq_getD_getElem?, Array.getElem?_eq_none h'] at h1
         cases h1
   exact ⟨hr, hd _ _ _ hI (hall l (hz _ _ _ hI) hr)⟩
 | succ fuel ih =>
   intro l a w hI hc
   refine ⟨fun hr => hd _ _ _ hI (hall l (hz _ _ _ hI) hr), fun i hi => ?_⟩
   obtain ⟨h1, o, ho, h2⟩ := mem_ready.1 hi
   have hil : i < ops.size := (Array.getElem?_eq_some_iff.1 ho).1
   refine wpOpIn_mono (fun a' w' h => ih _ _ _ h ?_) (hs l a w hI i o hil ho h1 h2)
   have hsz := hz _ _ _ hI
   have hil2 : i < l.size := by omega
   have e1 : l.toList[i]? = some false := by
     rw [Array.getD_eq_getD_getElem?, Array.getElem?_eq_getElem hil2] at h1
     rw [Array.getElem?_toList, Array.getElem?_eq_getElem hil2]
     simpa using h1
   have e2 : (l.setIfInBounds i true).toList = l.toList.set i true := by simp
   rw [e2]
   have hlen : i < l.toList.length := by simpa using hil2
   have e3 := List.count_set (a := true) (b := false) (l := l.toList) (i := i) hlen
   have e4 : l.toList[i] = false := by
     have := List.getElem?_eq_some_iff.1 e1
     exact this.2
   rw [e4] at e3
   rw [e3]
   have e5 : (true == false) = false := rfl
   simp only [e5, beq_self_eq_true, if_true, Bool.false_eq_true, if_false]
   omega
theorem wpIn_region_inv {F : Fence} {n : Nat} {P : Program} {id : Nat} {Q : Exit → Act → World → Prop} {a : Act} {w : World} {ls : List Oper} (InvA : Array Bool → Act → World → Prop) (hm : P.follows .mixedOrders = true) (hb : waitsBack ls.toArray = true)
   (h0 : InvA (Array.replicate ls.length false) a w.drew) (hz : ∀ l a w, InvA l a w → l.size = ls.length)
   (hd : ∀ l a w, InvA l a w → (∀ i, i < ls.length → l.getD i true = true) → Q .normal a w)
   (hs : ∀ l a w, InvA l a w → ∀ i o, i < ls.length → ls[i]? = some o → l.getD i true = false → (∀ e ∈ o.after, Region.binds .any e = true → l.getD e.on false = true) → wpOpIn F n P ls.toArray Q i (InvA (l.setIfInBounds i true)) a w) :
   (Code.region id ls.toArray true).wpIn F n P Q a w :=
 wpIn_region_any hm (wpAnyIn_inv InvA hb (fun l a w h => by rw [hz l a w h]; simp) (fun l a w h k => hd l a w h (fun i hi => k i (by simpa using hi))) (fun l a w h i o hi ho => hs l a w h i o (by simpa using hi) (by simpa using ho)) _ _ _ _ (by simpa using h0) (by
   have : (Array.replicate ls.toArray.size false).toList.count false ≤ (Array.replicate ls.toArray.size false).toList.length := List.count_le_length
   exact Nat.le_trans this (by simp)))
theorem regionIn_via {F : Fence} {n : Nat} {P : Program} {id : Nat} {Q : Exit → Act → World → Prop} {a : Act} {w : World} {ls : List Oper} {β : Type} (Fct : Array Bool → β → World → Prop) (upd : Array Bool → β → Array Value → Array Value) (hm : P.follows .mixedOrders = true) (hb : waitsBack ls.toArray = true)
   (h0 : ∃ x, Fct (Array.replicate ls.length false) x w.drew ∧ a = { tmps := upd (Array.replicate ls.length false) x a.tmps, defers := a.defers }) (hz : ∀ l x w, Fct l x w → l.size = ls.length)
   (hd : ∀ l x w, Fct l x w → (∀ i, i < ls.length → l.getD i true = true) → Q .normal { tmps := upd l x a.tmps, defers := a.defers } w)
   (hs : ∀ l x w, Fct l x w → ∀ i o, i < ls.length → ls[i]? = some o → l.getD i true = false → (∀ e ∈ o.after, Region.binds .any e = true → l.getD e.on false = true) →
     wpOpIn F n P ls.toArray Q i (fun a' w' => ∃ x', Fct (l.setIfInBounds i true) x' w' ∧ a' = { tmps := upd (l.setIfInBounds i true) x' a.tmps, defers := a.defers }) { tmps := upd l x a.tmps, defers := a.defers } w) :
   (Code.region id ls.toArray true).wpIn F n P Q a w :=
 wpIn_region_inv (fun l a' w' => ∃ x, Fct l x w' ∧ a' = { tmps := upd l x a.tmps, defers := a.defers }) hm hb h0 (fun _ _ _ ⟨x, h, _⟩ => hz _ x _ h) (fun _ _ _ ⟨x, h, e⟩ hall => by rw [e]; exact hd _ x _ h hall)
   (fun _ _ _ ⟨x, h, e⟩ i o hi ho hl hdep => by rw [e]; exact hs _ x _ h i o hi ho hl hdep)
def flatQ (G : Pr → Que) (ys : List Told) : List Value := ys.flatMap fun x => (QC (G x.p) (x.v G)).toList
theorem flatQ_snoc (G : Pr → Que) (ys : List Told) (x : Told) : flatQ G (ys ++ [x]) = flatQ G ys ++ (QC (G x.p) (x.v G)).toList := by simp [flatQ, List.flatMap_append]
theorem flatQ_at (G : Pr → Que) : ∀ (ys : List Told) (i : Nat) (x : Told), ys[i]? = some x → (flatQ G ys)[i * 5]? = some (.bool (G x.p).known) ∧ (flatQ G ys)[i * 5 + 1]? = some (.bool (G x.p).yes) ∧ (flatQ G ys)[i * 5 + 2]? = some (.bool (G x.p).all) ∧ (flatQ G ys)[i * 5 + 3]? = some (.bool (G x.p).hard) ∧ (flatQ G ys)[i * 5 + 4]? = some (x.v G)
 | [], i, p, h => by simp at h
 | q :: r, 0, p, h => by simp at h; subst h; simp [flatQ, QC]
 | q :: r, i + 1, p, h => by
   have ih := flatQ_at G r i p (by simpa using h)
   have e : flatQ G (q :: r) = .bool (G q.p).known :: .bool (G q.p).yes :: .bool (G q.p).all :: .bool (G q.p).hard :: q.v G :: flatQ G r := by simp [flatQ, QC]
   rw [e, show (i + 1) * 5 = i * 5 + 1 + 1 + 1 + 1 + 1 by omega]
   simpa using ih
theorem rowQ_at {w : World} {sa : Option Addr} {n cap : Nat} {G : Pr → Que} {ys : List Told} (h : w.ownsRow 0 QueT 5 (.slice sa n cap) ys.length (flatQ G ys)) {i : Nat} {x : Told} (hi : ys[i]? = some x) :
   ∃ g, sa = some ⟨g, 0, none⟩ ∧ g < w.heap.size ∧ (Value.slice sa n cap).ownBlock = some g ∧ w.cell? ⟨g, i * 5, none⟩ = some (.bool (G x.p).known) ∧ w.cell? ⟨g, i * 5 + 1, none⟩ = some (.bool (G x.p).yes) ∧ w.cell? ⟨g, i * 5 + 2, none⟩ = some (.bool (G x.p).all) ∧ w.cell? ⟨g, i * 5 + 3, none⟩ = some (.bool (G x.p).hard) ∧ w.cell? ⟨g, i * 5 + 4, none⟩ = some (x.v G) := by
 have hlt := (List.getElem?_eq_some_iff.1 hi).1
 obtain ⟨f0, f1, f2, f3, f4⟩ := flatQ_at G ys i x hi
 rcases h.2 with ⟨_, h0⟩ | ⟨g, c, cur, hv, _, hc, _⟩
 · omega
 · cases hv
   have q0 := h.cells (g := g) rfl _ _ f0
   have q1 := h.cells (g := g) rfl _ _ f1
   have q2 := h.cells (g := g) rfl _ _ f2
   have q3 := h.cells (g := g) rfl _ _ f3
   have q4 := h.cells (g := g) rfl _ _ f4
   rw [Addr.add_lit] at q0 q1 q2 q3 q4
   simp only [Nat.zero_add] at q0 q1 q2 q3 q4
   exact ⟨g, rfl, lt_of_heap hc, rfl, q0, q1, q2, q3, q4⟩
theorem que_info : (Tryz.prog.info? QueT).map (fun i => (i.zero, i.size, i.bytes)) = some (some (.agg #[.bool false, .bool false, .bool false, .bool false, .slice none 0 0]), 5, 32) := by kernel_rfl
def ySet (Y : List (Pr × Nat)) (p : Pr) (v : Nat) : List (Pr × Nat) := match Y.findIdx? (fun x => decide (x.1 = p)) with
 | some j => Y.set j (p, v)
 | none => Y ++ [(p, v)]
theorem ySet_cases (Y : List (Pr × Nat)) (p : Pr) (v : Nat) : ((∀ x ∈ Y, x.1 ≠ p) ∧ ySet Y p v = Y ++ [(p, v)]) ∨ ∃ j u, Y[j]? = some (p, u) ∧ ySet Y p v = Y.set j (p, v) := by
 unfold ySet
 cases hf : Y.findIdx? fun x => decide (x.1 = p) with
 | none =>
   refine .inl ⟨fun x hx => ?_, rfl⟩
   have := List.findIdx?_eq_none_iff.1 hf x hx
   simpa using this
 | some j =>
   obtain ⟨h1, h2, _⟩ := List.findIdx?_eq_some_iff_getElem.1 hf
   refine .inr ⟨j, Y[j].2, ?_, rfl⟩
   rw [List.getElem?_eq_getElem h1]
   have h2 : Y[j].1 = p := by simpa using h2
   rw [← h2]
theorem ySet_nodup {Y : List (Pr × Nat)} {p : Pr} {v : Nat} (hn : (Y.map (·.1)).Nodup) : ((ySet Y p v).map (·.1)).Nodup := by
 rcases ySet_cases Y p v with ⟨h, e⟩ | ⟨j, u, h, e⟩
 · rw [e, List.map_append, List.nodup_append]
   refine ⟨hn, by simp, fun x hx y hy => ?_⟩
   simp at hy
   subst hy
   obtain ⟨z, hz, rfl⟩ := List.mem_map.1 hx
   exact h z hz
 · rw [e, List.map_set]
   have : (Y.map (·.1)).set j p = Y.map (·.1) := by
     apply List.ext_getElem?
     intro i
     rw [List.getElem?_set]
     split
     · rename_i hi
       subst hi
       rw [List.getElem?_map, h]
       have := (List.getElem?_eq_some_iff.1 h).1
       simp [this]
     · rfl
   rw [this]
   exact hn
theorem look_ySet {Y : List (Pr × Nat)} {p q : Pr} {v : Nat} (hn : (Y.map (·.1)).Nodup) : look (ySet Y p v) q = if q = p then v else look Y q := by
 have hn2 := ySet_nodup (p := p) (v := v) hn
 rcases ySet_cases Y p v with ⟨h, e⟩ | ⟨j, u, h, e⟩
 · rw [e] at hn2 ⊢
   by_cases hq : q = p
   · subst hq
     rw [if_pos rfl]
     exact look_hit (j := Y.length) (by simp) hn2
   · rw [if_neg hq]
     unfold look
     rw [List.find?_append]
     cases Y.find? fun x => decide (x.1 = q) with
     | some y => rfl
     | none =>
       have hq2 : ¬ p = q := fun e => hq e.symm
       simp [hq2]
 · rw [e] at hn2 ⊢
   have hlt := (List.getElem?_eq_some_iff.1 h).1
   by_cases hq : q = p
   · subst hq
     rw [if_pos rfl]
     exact look_hit (j := j) (by simp [hlt]) hn2
   · rw [if_neg hq]
     rcases slot_cases Y q with hm | ⟨i, x, hi⟩
     · rw [look_miss hm, look_miss]
       intro x hx
       rcases List.mem_or_eq_of_mem_set hx with q1 | q1
       · exact hm x q1
       · subst q1; exact fun e => hq e.symm
     · have hij : j ≠ i := fun e => by subst e; rw [h] at hi; cases hi; exact hq rfl
       rw [look_hit hi hn, look_hit (j := i) (x := x) (by rw [List.getElem?_set_ne hij]; exact hi) hn2]
theorem YMap.store {w : World} {m : Nat} {Y : List (Pr × Nat)} (h : YMap w m Y) (p : Pr) (v : Nat) : ∃ w', (Instr.mapUpdate MpT (.map (some m)) (.agg #[.int .i64 p.1, .int .i64 p.2]) (.int .i64 v)).run Tryz.prog w = .ok () w' ∧ YMap w' m (ySet Y p v) ∧ w'.heap.size = w.heap.size ∧ (∀ b, b ≠ m → w'.heap[b]? = w.heap[b]?) ∧ w'.os = w.os ∧ w'.tape = w.tape ∧ w'.output = w.output := by
 have hlt := h.lt
 have hn2 := ySet_nodup (p := p) (v := v) h.1
 obtain ⟨es, clk, q1, q2⟩ := h.2
 rcases ySet_cases Y p v with ⟨hm, e⟩ | ⟨j, u, hj, e⟩
 · obtain ⟨es', clk', r1, r2⟩ := pair_store_miss (f := numV) q1 q2 p v hm
   exact ⟨_, r1, ⟨hn2, es', clk', putB_same _ _ _ hlt, by rw [e]; exact r2⟩, putB_size _ _ _, fun b hb => putB_other _ _ _ _ hb, rfl, rfl, rfl⟩
 · obtain ⟨es', clk', r1, r2⟩ := pair_store_hit (f := numV) q1 q2 p v u j hj h.1
   exact ⟨_, r1, ⟨hn2, es', clk', putB_same _ _ _ hlt, by rw [e]; exact r2⟩, putB_size _ _ _, fun b hb => putB_other _ _ _ _ hb, rfl, rfl, rfl⟩
abbrev LpT : TypeId := 86
abbrev LqT : TypeId := 87
structure RV where
 f0 : Bool
 f1 : Bool
 f2 : Bool
 f3 : Bool
 f4 : Bool
 f5 : Bool
 f6 : Bool
 f7 : Bool
 f8 : Bool
 f9 : Bool
 c54 : Nat
 c58 : Nat
 a55 : Option Addr
 k55 : Nat
 a59 : Option Addr
 k59 : Nat
def RV.flags (x : RV) : Array Bool := #[x.f0, x.f1, x.f2, x.f3, x.f4, x.f5, x.f6, x.f7, x.f8, x.f9]
structure Coll (L0 n : Nat) (lv qv : Value) (fl fq : List Value) (zp zq : Array Value) (W : World) (x : RV) (w' : World) : Prop where
 os : w'.os = W.os
 tape : w'.tape = W.tape
 output : w'.output = W.output
 size : W.heap.size ≤ w'.heap.size
 old : ∀ b, b < W.heap.size → b ≠ L0 → b ≠ L0 + 1 → lv.ownBlock ≠ some b → qv.ownBlock ≠ some b → w'.heap[b]? = W.heap[b]?
 h54 : x.f2 = true → W.heap.size ≤ x.c54 ∧ w'.heap[x.c54]? = some (.cells zp PairT (0, 0))
 h58 : x.f6 = true → W.heap.size ≤ x.c58 ∧ w'.heap[x.c58]? = some (.cells zq QueT (0, 0))
 lb : w'.heap[L0]? = some (.cells #[if x.f8 = true then .slice x.a55 (n + 1) x.k55 else lv] LpT (0, 0))
 qb : w'.heap[L0 + 1]? = some (.cells #[if x.f9 = true then .slice x.a59 (n + 1) x.k59 else qv] LqT (0, 0))
 lr : x.f3 = false → w'.ownsRow 0 PairT 2 lv n fl
 lr' : x.f3 = true → w'.ownsRow 0 PairT 2 (.slice x.a55 (n + 1) x.k55) (n + 1) (fl ++ zp.toList) ∧ ((Value.slice x.a55 (n + 1) x.k55).ownBlock = lv.ownBlock ∨ ∃ g, (Value.slice x.a55 (n + 1) x.k55).ownBlock = some g ∧ W.heap.size ≤ g)
 qr : x.f7 = false → w'.ownsRow 0 QueT 5 qv n fq
 qr' : x.f7 = true → w'.ownsRow 0 QueT 5 (.slice x.a59 (n + 1) x.k59) (n + 1) (fq ++ zq.toList) ∧ ((Value.slice x.a59 (n + 1) x.k59).ownBlock = qv.ownBlock ∨ ∃ g, (Value.slice x.a59 (n + 1) x.k59).ownBlock = some g ∧ W.heap.size ≤ g)
 dep : (x.f9 = true → x.f8 = true) ∧ (x.f8 = true → x.f7 = true ∧ x.f3 = true) ∧ (x.f7 = true → x.f6 = true ∧ x.f4 = true ∧ x.f3 = true) ∧ (x.f6 = true → x.f5 = true) ∧ (x.f3 = true → x.f0 = true ∧ x.f2 = true) ∧ (x.f2 = true → x.f1 = true)
theorem cellsNe {w : World} {a b : Nat} {cs cs' : Array Value} {T T' : TypeId} {f f' : Nat × Nat} (h : w.heap[a]? = some (.cells cs T f)) (h' : w.heap[b]? = some (.cells cs' T' f')) (hT : T ≠ T') : a ≠ b := fun e => by
 subst e
 rw [h] at h'
 injection h' with h'
 injection h' with _ h' _
 exact hT h'
theorem wpOpIn_append_row {F : Fence} {nF : Nat} {P : Program} {W : World} {ops : Array Oper} {o : Oper} {j : Nat} {a : Act} {Q : Exit → Act → World → Prop} {K : Act → World → Prop} (hj : ops[j]? = some o) (hgd : o.guard = none) (s x : Operand) (t : TypeId)
   (ho : o.op = .call { callee := .builtin .append, args := #[s, x], argTypes := #[t, t] })
   (e : TypeId) (i : TypeInfo) (z : Value) (size bytes : Nat) (ht : P.underlying t = some (.slice e)) (hi : P.info? e = some i) (hz : i.zero = some z)
   (hsize : i.size = size) (hby : i.bytes = bytes) (hzs : z.cells.size = size) (hsz : 0 < size)
   (v : Value) (n : Nat) (xs : List Value) (hs : a.eval s = v) (hown : W.ownsRow 0 e size v n xs)
   (b m c : Nat) (news : List Value) (hx : a.eval x = .slice (some ⟨b, 0, none⟩) m c) (hl : news.length = m * size) (hnews : ∀ j u, news[j]? = some u → W.cell? ((⟨b, 0, none⟩ : Addr).add j) = some u) (h1 : ∀ u ∈ news, u.oneCell' = true)
   (h63 : n + m ≤ maxLen) (hbytes : (n + m) * bytes ≤ 140737488355328)
   (h : ∀ sa cap w', w'.ownsRow 0 e size (.slice sa (n + m) cap) (n + m) (xs ++ news) → W.grownBy w' v.ownBlock →
     ((Value.slice sa (n + m) cap).ownBlock = v.ownBlock ∨ ∃ g, (Value.slice sa (n + m) cap).ownBlock = some g ∧ W.heap.size ≤ g) → K (a.put o.dst (.slice sa (n + m) cap)) w') : wpOpIn F nF P ops Q j K a W := by
 obtain ⟨sa, cap, w', hr, h2, h3, h4⟩ := run_append_row (P := P) (w := W) t o.type e i z size bytes ht hi hz hsize hby hzs hsz v n xs hown ⟨b, 0, none⟩ m c news hl hnews h1 h63 hbytes
 unfold wpOpIn
 rw [hj]
 simp only
 rw [if_pos (by simp [Region.wanted, hgd])]
 unfold Oper.wpIn
 refine ⟨by simp [Oper.about, ho, resolve, Target.leads, Sem.run_pure], ?_⟩
 rw [Oper.semAt_plain F _ _ (by rw [ho]; intro c hc'; cases hc')]
 simp [execOp, ho, resolve, invoke, builtin, hs, hx, hr, Result.andThen]
 exact h sa cap w' h2 h3 h4
structure Sep (L0 : Nat) (lv qv : Value) (W : World) : Prop where
 l : ∀ b, lv.ownBlock = some b → b < W.heap.size ∧ b ≠ L0 ∧ b ≠ L0 + 1 ∧ qv.ownBlock ≠ some b
 q : ∀ b, qv.ownBlock = some b → b < W.heap.size ∧ b ≠ L0 ∧ b ≠ L0 + 1
 box : L0 + 1 < W.heap.size
section
variable {L0 n : Nat} {lv qv : Value} {fl fq : List Value} {zp zq : Array Value} {W w' w7 : World} {x x' : RV}
theorem Coll.up (h : Coll L0 n lv qv fl fq zp zq W x w') (u : Up w' w7) : Coll L0 n lv qv fl fq zp zq W x w7 where
 os := u.os.trans h.os
 tape := u.tape.trans h.tape
 output := u.output.trans h.output
 size := Nat.le_trans h.size u.size
 old b h1 h2 h3 h4 h5 := (u.block b (Nat.lt_of_lt_of_le h1 h.size)).trans (h.old b h1 h2 h3 h4 h5)
 h54 f := ⟨(h.h54 f).1, u.get (h.h54 f).2⟩
 h58 f := ⟨(h.h58 f).1, u.get (h.h58 f).2⟩
 lb := u.get h.lb
 qb := u.get h.qb
 lr f := ownsRow_up (h.lr f) u
 lr' f := ⟨ownsRow_up (h.lr' f).1 u, (h.lr' f).2⟩
 qr f := ownsRow_up (h.qr f) u
 qr' f := ⟨ownsRow_up (h.qr' f).1 u, (h.qr' f).2⟩
 dep := h.dep
theorem Coll.same (h : Coll L0 n lv qv fl fq zp zq W x w') (e : x'.f2 = x.f2 ∧ x'.f3 = x.f3 ∧ x'.f6 = x.f6 ∧ x'.f7 = x.f7 ∧ x'.f8 = x.f8 ∧ x'.f9 = x.f9 ∧ x'.c54 = x.c54 ∧ x'.c58 = x.c58 ∧ x'.a55 = x.a55 ∧ x'.k55 = x.k55 ∧ x'.a59 = x.a59 ∧ x'.k59 = x.k59)
   (hd : (x.f0 = true → x'.f0 = true) ∧ (x.f1 = true → x'.f1 = true) ∧ (x.f4 = true → x'.f4 = true) ∧ (x.f5 = true → x'.f5 = true)) : Coll L0 n lv qv fl fq zp zq W x' w' := by
 obtain ⟨e2, e3, e6, e7, e8, e9, ec, ed, ea, eb, eg, eh⟩ := e
 have d := h.dep
 exact {
   os := h.os
   tape := h.tape
   output := h.output
   size := h.size
   old := h.old
   h54 := by rw [e2, ec]; exact h.h54
   h58 := by rw [e6, ed]; exact h.h58
   lb := by rw [e8, ea, eb]; exact h.lb
   qb := by rw [e9, eg, eh]; exact h.qb
   lr := by rw [e3]; exact h.lr
   lr' := by rw [e3, ea, eb]; exact h.lr'
   qr := by rw [e7]; exact h.qr
   qr' := by rw [e7, eg, eh]; exact h.qr'
   dep := by
     rw [e2, e3, e6, e7, e8, e9]
     exact ⟨d.1, d.2.1, fun f => ⟨(d.2.2.1 f).1, hd.2.2.1 (d.2.2.1 f).2.1, (d.2.2.1 f).2.2⟩, fun f => hd.2.2.2 (d.2.2.2.1 f), fun f => ⟨hd.1 (d.2.2.2.2.1 f).1, (d.2.2.2.2.1 f).2⟩, fun f => hd.2.1 (d.2.2.2.2.2 f)⟩ }
theorem Coll.alloc54 (h : Coll L0 n lv qv fl fq zp zq W x w') (f1 : x.f1 = true) : Coll L0 n lv qv fl fq zp zq W { x with f2 := true, c54 := w'.heap.size } (w'.alloc (.cells zp PairT)) :=
 { h.up (Up.alloc (Up.refl w') (.cells zp PairT)) with
   h54 := fun _ => ⟨h.size, alloc_get _ _⟩
   dep := ⟨h.dep.1, h.dep.2.1, h.dep.2.2.1, h.dep.2.2.2.1, fun f => ⟨(h.dep.2.2.2.2.1 f).1, rfl⟩, fun _ => f1⟩ }
theorem Coll.alloc58 (h : Coll L0 n lv qv fl fq zp zq W x w') (f5 : x.f5 = true) : Coll L0 n lv qv fl fq zp zq W { x with f6 := true, c58 := w'.heap.size } (w'.alloc (.cells zq QueT)) :=
 { h.up (Up.alloc (Up.refl w') (.cells zq QueT)) with
   h58 := fun _ => ⟨h.size, alloc_get _ _⟩
   dep := ⟨h.dep.1, h.dep.2.1, fun f => ⟨rfl, (h.dep.2.2.1 f).2⟩, fun _ => f5, h.dep.2.2.2.2.1, h.dep.2.2.2.2.2⟩ }
theorem Coll.app55 (h : Coll L0 n lv qv fl fq zp zq W x w') (s : Sep L0 lv qv W) (f0 : x.f0 = true) (f2 : x.f2 = true) (f3 : x.f3 = false) {sa : Option Addr} {cap : Nat} (hg : w'.grownBy w7 lv.ownBlock) (hr : w7.ownsRow 0 PairT 2 (.slice sa (n + 1) cap) (n + 1) (fl ++ zp.toList))
   (hb : (Value.slice sa (n + 1) cap).ownBlock = lv.ownBlock ∨ ∃ g, (Value.slice sa (n + 1) cap).ownBlock = some g ∧ w'.heap.size ≤ g) : Coll L0 n lv qv fl fq zp zq W { x with f3 := true, a55 := sa, k55 := cap } w7 := by
 have e8 : x.f8 = false := Bool.eq_false_iff.2 fun e => by have q := (h.dep.2.1 e).2; rw [f3] at q; cases q
 have e7 : x.f7 = false := Bool.eq_false_iff.2 fun e => by have q := (h.dep.2.2.1 e).2.2; rw [f3] at q; cases q
 have far : ∀ b, W.heap.size ≤ b → lv.ownBlock ≠ some b := fun b hb e => by have := (s.l b e).1; omega
 exact {
   os := hg.os.trans h.os
   tape := hg.tape.trans h.tape
   output := hg.output.trans h.output
   size := Nat.le_trans h.size hg.size
   old := fun b h1 h2 h3 h4 h5 => (hg.block b (Nat.lt_of_lt_of_le h1 h.size) (fun e => h4 e.symm)).trans (h.old b h1 h2 h3 h4 h5)
   h54 := fun f => ⟨(h.h54 f).1, grown_get hg (h.h54 f).2 (far _ (h.h54 f).1)⟩
   h58 := fun f => ⟨(h.h58 f).1, grown_get hg (h.h58 f).2 (far _ (h.h58 f).1)⟩
   lb := by
     have q := h.lb
     rw [e8] at q
     simp only [e8]
     exact grown_get hg q (fun e => (s.l _ e).2.1 rfl)
   qb := grown_get hg h.qb (fun e => (s.l _ e).2.2.1 rfl)
   lr := fun f => by cases f
   lr' := fun _ => ⟨hr, hb.imp id fun ⟨g, q1, q2⟩ => ⟨g, q1, Nat.le_trans h.size q2⟩⟩
   qr := fun f => ownsRow_keep (h.qr f) fun b hb => hg.block b ((h.qr f).lt b hb).2 (fun e => (s.l b e.symm).2.2.2 hb)
   qr' := fun f => by rw [show ({ x with f3 := true, a55 := sa, k55 := cap } : RV).f7 = x.f7 from rfl, e7] at f; cases f
   dep := ⟨h.dep.1, fun f => ⟨(h.dep.2.1 f).1, rfl⟩, fun f => ⟨(h.dep.2.2.1 f).1, (h.dep.2.2.1 f).2.1, rfl⟩, h.dep.2.2.2.1, fun _ => ⟨f0, f2⟩, h.dep.2.2.2.2.2⟩ }
theorem Coll.app59 (h : Coll L0 n lv qv fl fq zp zq W x w') (s : Sep L0 lv qv W) (f4 : x.f4 = true) (f6 : x.f6 = true) (f3 : x.f3 = true) (f7 : x.f7 = false) {sa : Option Addr} {cap : Nat} (hg : w'.grownBy w7 qv.ownBlock) (hr : w7.ownsRow 0 QueT 5 (.slice sa (n + 1) cap) (n + 1) (fq ++ zq.toList))
   (hb : (Value.slice sa (n + 1) cap).ownBlock = qv.ownBlock ∨ ∃ g, (Value.slice sa (n + 1) cap).ownBlock = some g ∧ w'.heap.size ≤ g) : Coll L0 n lv qv fl fq zp zq W { x with f7 := true, a59 := sa, k59 := cap } w7 := by
 have e8 : x.f8 = false := Bool.eq_false_iff.2 fun e => by have q := (h.dep.2.1 e).1; rw [f7] at q; cases q
 have e9 : x.f9 = false := Bool.eq_false_iff.2 fun e => by have q := h.dep.1 e; rw [e8] at q; cases q
 have far : ∀ b, W.heap.size ≤ b → qv.ownBlock ≠ some b := fun b hb e => by have := (s.q b e).1; omega
 exact {
   os := hg.os.trans h.os
   tape := hg.tape.trans h.tape
   output := hg.output.trans h.output
   size := Nat.le_trans h.size hg.size
   old := fun b h1 h2 h3 h4 h5 => (hg.block b (Nat.lt_of_lt_of_le h1 h.size) (fun e => h5 e.symm)).trans (h.old b h1 h2 h3 h4 h5)
   h54 := fun f => ⟨(h.h54 f).1, grown_get hg (h.h54 f).2 (far _ (h.h54 f).1)⟩
   h58 := fun f => ⟨(h.h58 f).1, grown_get hg (h.h58 f).2 (far _ (h.h58 f).1)⟩
   lb := grown_get hg h.lb (fun e => (s.q _ e).2.1 rfl)
   qb := by
     have q := h.qb
     rw [e9] at q
     simp only [e9]
     exact grown_get hg q (fun e => (s.q _ e).2.2 rfl)
   lr := fun f => by rw [show ({ x with f7 := true, a59 := sa, k59 := cap } : RV).f3 = x.f3 from rfl, f3] at f; cases f
   lr' := fun f => ⟨ownsRow_keep (h.lr' f).1 fun b hb => hg.block b ((h.lr' f).1.lt b hb).2 (fun e => by
     rcases (h.lr' f).2 with q | ⟨g, q1, q2⟩
     · exact (s.l b (by rw [← q]; exact hb)).2.2.2 e.symm
     · rw [q1] at hb; cases hb; exact far _ q2 e.symm), (h.lr' f).2⟩
   qr := fun f => by cases f
   qr' := fun _ => ⟨hr, hb.imp id fun ⟨g, q1, q2⟩ => ⟨g, q1, Nat.le_trans h.size q2⟩⟩
   dep := ⟨h.dep.1, fun f => ⟨rfl, (h.dep.2.1 f).2⟩, fun _ => ⟨f6, f4, f3⟩, h.dep.2.2.2.1, h.dep.2.2.2.2.1, h.dep.2.2.2.2.2⟩ }
theorem Coll.set {a : Nat} {v : Value} (h : Coll L0 n lv qv fl fq zp zq W x w') (s : Sep L0 lv qv W) (f3 : x.f3 = true) (f7 : x.f7 = true) (ha : a = L0 ∨ a = L0 + 1) : (w'.setCell ⟨a, 0, none⟩ v).os = W.os ∧ (w'.setCell ⟨a, 0, none⟩ v).tape = W.tape ∧ (w'.setCell ⟨a, 0, none⟩ v).output = W.output ∧ W.heap.size ≤ (w'.setCell ⟨a, 0, none⟩ v).heap.size ∧
   (∀ b, b < W.heap.size → b ≠ L0 → b ≠ L0 + 1 → lv.ownBlock ≠ some b → qv.ownBlock ≠ some b → (w'.setCell ⟨a, 0, none⟩ v).heap[b]? = W.heap[b]?) ∧ (x.f2 = true → W.heap.size ≤ x.c54 ∧ (w'.setCell ⟨a, 0, none⟩ v).heap[x.c54]? = some (.cells zp PairT (0, 0))) ∧ (x.f6 = true → W.heap.size ≤ x.c58 ∧ (w'.setCell ⟨a, 0, none⟩ v).heap[x.c58]? = some (.cells zq QueT (0, 0))) ∧
   ((w'.setCell ⟨a, 0, none⟩ v).ownsRow 0 PairT 2 (.slice x.a55 (n + 1) x.k55) (n + 1) (fl ++ zp.toList) ∧ ((Value.slice x.a55 (n + 1) x.k55).ownBlock = lv.ownBlock ∨ ∃ g, (Value.slice x.a55 (n + 1) x.k55).ownBlock = some g ∧ W.heap.size ≤ g)) ∧
   ((w'.setCell ⟨a, 0, none⟩ v).ownsRow 0 QueT 5 (.slice x.a59 (n + 1) x.k59) (n + 1) (fq ++ zq.toList) ∧ ((Value.slice x.a59 (n + 1) x.k59).ownBlock = qv.ownBlock ∨ ∃ g, (Value.slice x.a59 (n + 1) x.k59).ownBlock = some g ∧ W.heap.size ≤ g)) := by
 have hbx := s.box
 have ha2 : a < W.heap.size := by rcases ha with rfl | rfl <;> omega
 refine ⟨h.os, h.tape, h.output, by rw [setCell_size]; exact h.size, fun b h1 h2 h3 h4 h5 => by rw [setCell_other (by rcases ha with rfl | rfl <;> assumption)]; exact h.old b h1 h2 h3 h4 h5, fun f => ⟨(h.h54 f).1, ?_⟩, fun f => ⟨(h.h58 f).1, ?_⟩, ⟨ownsRow_keep (h.lr' f3).1 fun b hb => setCell_other (fun e => ?_) _, (h.lr' f3).2⟩, ⟨ownsRow_keep (h.qr' f7).1 fun b hb => setCell_other (fun e => ?_) _, (h.qr' f7).2⟩⟩
 · rw [setCell_other (by have := (h.h54 f).1; omega)]
   exact (h.h54 f).2
 · rw [setCell_other (by have := (h.h58 f).1; omega)]
   exact (h.h58 f).2
 · rcases (h.lr' f3).2 with q | ⟨g, q1, q2⟩
   · have := s.l b (by rw [← q]; exact hb)
     rcases ha with rfl | rfl
     · exact this.2.1 e
     · exact this.2.2.1 e
   · rw [q1] at hb; cases hb; omega
 · rcases (h.qr' f7).2 with q | ⟨g, q1, q2⟩
   · have := s.q b (by rw [← q]; exact hb)
     rcases ha with rfl | rfl
     · exact this.2.1 e
     · exact this.2.2 e
   · rw [q1] at hb; cases hb; omega
theorem Coll.set8 (h : Coll L0 n lv qv fl fq zp zq W x w') (s : Sep L0 lv qv W) (f3 : x.f3 = true) (f7 : x.f7 = true) : Coll L0 n lv qv fl fq zp zq W { x with f8 := true } (w'.setCell ⟨L0, 0, none⟩ (.slice x.a55 (n + 1) x.k55)) := by
 obtain ⟨q1, q2, q3, q4, q5, q6, q7, q8, q9⟩ := h.set (v := .slice x.a55 (n + 1) x.k55) s f3 f7 (.inl rfl)
 exact ⟨q1, q2, q3, q4, q5, q6, q7, setCell_block (i := 0) h.lb _, (setCell_other (by omega) _).trans h.qb, (fun f => by rw [show ({ x with f8 := true } : RV).f3 = x.f3 from rfl, f3] at f; cases f), fun _ => q8, (fun f => by rw [show ({ x with f8 := true } : RV).f7 = x.f7 from rfl, f7] at f; cases f), fun _ => q9, ⟨fun _ => rfl, fun _ => ⟨f7, f3⟩, h.dep.2.2⟩⟩
theorem Coll.set9 (h : Coll L0 n lv qv fl fq zp zq W x w') (s : Sep L0 lv qv W) (f3 : x.f3 = true) (f7 : x.f7 = true) (f8 : x.f8 = true) : Coll L0 n lv qv fl fq zp zq W { x with f9 := true } (w'.setCell ⟨L0 + 1, 0, none⟩ (.slice x.a59 (n + 1) x.k59)) := by
 obtain ⟨q1, q2, q3, q4, q5, q6, q7, q8, q9⟩ := h.set (v := .slice x.a59 (n + 1) x.k59) s f3 f7 (.inr rfl)
 exact ⟨q1, q2, q3, q4, q5, q6, q7, (setCell_other (by omega) _).trans h.lb, setCell_block (i := 0) h.qb _, (fun f => by rw [show ({ x with f9 := true } : RV).f3 = x.f3 from rfl, f3] at f; cases f), fun _ => q8, (fun f => by rw [show ({ x with f9 := true } : RV).f7 = x.f7 from rfl, f7] at f; cases f), fun _ => q9, ⟨fun _ => f8, h.dep.2⟩⟩
end
theorem gfp_holds {G : Pr → Que} {L : List Pr} {f : Pr → Bool} (hc : ∀ p ∈ L, ∀ q ∈ (G p).pairs, q ∈ L) (hg : ∀ p ∈ L, Gfp G p → f p = true) {p : Pr} (hp : p ∈ L) (h : Gfp G p) : holdsB (G p) f = true := by
 obtain ⟨S, hS, hSp⟩ := h
 have hq : ∀ q ∈ (G p).pairs, S q → f q = true := fun q hq hs => hg q (hc p hp q hq) ⟨S, hS, hs⟩
 have h1 := hS p hSp
 unfold HoldsS at h1
 unfold holdsB
 by_cases hk : (G p).known = true
 · rw [if_pos hk] at h1 ⊢
   exact h1
 · rw [if_neg hk] at h1 ⊢
   by_cases ha : (G p).all = true
   · rw [if_pos ha] at h1 ⊢
     exact List.all_eq_true.2 fun q hq' => hq q hq' (h1 q hq')
   · rw [if_neg ha] at h1 ⊢
     obtain ⟨q, q1, q2⟩ := h1
     exact List.any_eq_true.2 ⟨q, q1, hq q q1 q2⟩
theorem holds_gfp {G : Pr → Que} {L : List Pr} {f : Pr → Bool} (hs : ∀ p, f p = true → p ∈ L) (h : ∀ p ∈ L, f p = true → holdsB (G p) f = true) {p : Pr} (hp : f p = true) : Gfp G p := by
 refine ⟨fun q => f q = true, fun q hq => ?_, hp⟩
 have h1 := h q (hs q hq) hq
 unfold holdsB at h1
 unfold HoldsS
 by_cases hk : (G q).known = true
 · rw [if_pos hk] at h1 ⊢
   exact h1
 · rw [if_neg hk] at h1 ⊢
   by_cases ha : (G q).all = true
   · rw [if_pos ha] at h1 ⊢
     exact fun z hz => List.all_eq_true.1 h1 z hz
   · rw [if_neg ha] at h1 ⊢
     obtain ⟨z, z1, z2⟩ := List.any_eq_true.1 h1
     exact ⟨z, z1, z2⟩
def ones (Y : List (Pr × Nat)) : Nat := (Y.filter fun x => x.2 == 1).length
def isOne : Value → Bool
 | .int .i64 n => n == 1
 | _ => false
def onesW (W : World) (m : Nat) : Nat := match W.heap[m]? with
 | some (.map es _) => (es.toList.filter fun e => isOne e.val).length
 | _ => 0
theorem ones_eq {W : World} {m : Nat} {Y : List (Pr × Nat)} (h : YMap W m Y) : onesW W m = ones Y := by
 obtain ⟨hn, es, clk, q1, q2⟩ := h
 clear hn
 unfold onesW ones
 rw [q1]
 simp only
 unfold Entries at q2
 generalize es.toList = l at q2
 induction l generalizing Y with
 | nil => cases Y with
   | nil => rfl
   | cons y Y => simp at q2
 | cons e l ih => cases Y with
   | nil => simp at q2
   | cons y Y =>
     simp only [List.map_cons, List.cons.injEq, Prod.mk.injEq] at q2
     have hv : isOne e.val = (y.2 == 1) := by
       rw [q2.1.2]
       show ((y.2 : Int) == 1) = (y.2 == 1)
       by_cases h1 : y.2 = 1
       · rw [h1]; rfl
       · have h2 : ((y.2 : Int) == 1) = false := by simp; omega
         have h3 : (y.2 == 1) = false := by simpa using h1
         rw [h2, h3]
     simp only [List.filter_cons, hv]
     split
     · simp [ih q2.2]
     · exact ih q2.2
theorem ones_drop {Y : List (Pr × Nat)} {p : Pr} (hn : (Y.map (·.1)).Nodup) (h : look Y p = 1) : ones (ySet Y p 0) < ones Y := by
 rcases ySet_cases Y p 0 with ⟨h1, _⟩ | ⟨j, u, hj, e⟩
 · rw [look_miss h1] at h; cases h
 · have hu : u = 1 := by rw [look_hit hj hn] at h; exact h
   subst hu
   rw [e]
   clear e h hn
   unfold ones
   induction Y generalizing j with
   | nil => simp at hj
   | cons y Y ih => cases j with
     | zero =>
       simp at hj
       subst hj
       simp
     | succ j =>
       have := ih j (by simpa using hj)
       simp only [List.set_cons_succ, List.filter_cons]
       split <;> simp_all
end Go.Proofs.YtiaepldmgighbaaGreatDoor
