import Derived.Test.YtbghpkoimbmijaaGreatDoorM01
/- YtbghpkoimbmijaaGreatDoorM02: lemmas of the proof, in order: KC, KD, KE, KF. -/
/- An arena: its types in a row, their numbers in a map; a map within a region. -/
namespace Go.Proofs.YtbghpkoimbmijaaGreatDoor
open Go.RowKit
set_option linter.unusedSimpArgs false

section
variable {P : Program}
theorem step_lookup {w : World} {ops : Array Oper} {o : Oper} {a : Act} {K : Act → World → Prop} {Q : Exit → Act → World → Prop} {E : Prop} {t : TypeId} {x i : Operand} {ok : Bool} {v : Value} (hgd : o.guard = none)
    (ho : o.op = .lookup t x i ok) (hr : (Instr.lookup t (a.eval x) (a.eval i) ok).run P w = .ok v w) (h : K (a.put o.dst v) w) : if Region.wanted o (yielded ops a.tmps) = true then Oper.wp P o a w K Q else E := by
  have hw : Region.wanted o (yielded ops a.tmps) = true := by simp [Region.wanted, hgd]
  rw [if_pos hw]
  unfold Oper.wp execOp
  simp only [ho, Sem.run_bind, Sem.run_pure, Result.andThen_ok, hr]
  exact h
theorem step_update {w : World} {ops : Array Oper} {o : Oper} {a : Act} {K : Act → World → Prop} {Q : Exit → Act → World → Prop} {E : Prop} {t : TypeId} {m k v : Operand} {g : Nat} {pr : Array MapEntry → Prop} (hgd : o.guard = none)
    (ho : o.op = .mapUpdate t m k v) (hr : ∃ es' clk', (Instr.mapUpdate t (a.eval m) (a.eval k) (a.eval v)).run P w = .ok () (putB w g (.map es' clk')) ∧ pr es')
    (h : ∀ es' clk', pr es' → K (a.put o.dst undef) (putB w g (.map es' clk'))) : if Region.wanted o (yielded ops a.tmps) = true then Oper.wp P o a w K Q else E := by
  have hw : Region.wanted o (yielded ops a.tmps) = true := by simp [Region.wanted, hgd]
  rw [if_pos hw]
  obtain ⟨es', clk', hr, hp⟩ := hr
  unfold Oper.wp execOp
  simp only [ho, Sem.run_bind, Sem.run_pure, Result.andThen_ok, hr]
  exact h es' clk' hp
end

abbrev ArT : TypeId := 59
def ptrV (b : Nat) : Value := .pointer (some ⟨b, 0, none⟩)
def numV (i : Nat) : Value := .int .i64 i

/-- a type whose text was asked for -/
def Said (w : World) (b : Nat) (s : ByteArray) : Prop := ∃ cs : Array Value, w.heap[b]? = some (.cells cs TyT (0, 0)) ∧ cs[7]? = some (.string s)
theorem Leaf.said {w : World} {b : Nat} {k : Int} {s : ByteArray} (h : Leaf w b k s) : Said w b s := ⟨_, h, rfl⟩
theorem Said.cell {w : World} {b : Nat} {s : ByteArray} (h : Said w b s) : w.cell? ⟨b, 7, none⟩ = some (.string s) := by
  obtain ⟨cs, h1, h2⟩ := h
  rw [cell_of h1, h2]
theorem Said.up {w w' : World} {b : Nat} {s : ByteArray} (h : Said w b s) (k : Up w w') : Said w' b s := let ⟨cs, h1, h2⟩ := h; ⟨cs, k.get h1, h2⟩

/-- an arena at A, all of it behind B: its types at bs, their texts ws -/
structure Ar (w : World) (B A : Nat) (bs : List Nat) (ws : List ByteArray) (tv mv : Value) : Prop where
  base : B ≤ A
  head : w.heap[A]? = some (.cells #[tv, mv, .map none] ArT (0, 0))
  row : w.ownsRow 0 TpT 1 tv bs.length (bs.map ptrV)
  rowB : ∀ g, tv.ownBlock = some g → B ≤ g
  ids : (mv = .map none ∧ ws = []) ∨ ∃ g es clk, mv = .map (some g) ∧ B ≤ g ∧ w.heap[g]? = some (.map es clk) ∧ Entries es Value.string numV (ws.zipIdx)
  len : ws.length = bs.length
  nodup : ws.Nodup
  few : bs.length ≤ 1000
  said : ∀ (i b : Nat) (s : ByteArray), bs[i]? = some b → ws[i]? = some s → B ≤ b ∧ Said w b s ∧ (s.toList == []) = false

theorem Ar.up {w w' : World} {B A : Nat} {bs : List Nat} {ws : List ByteArray} {tv mv : Value} (h : Ar w B A bs ws tv mv) (k : Up w w') : Ar w' B A bs ws tv mv where
  base := h.base
  head := k.get h.head
  row := ownsRow_up h.row k
  rowB := h.rowB
  ids := h.ids.imp id fun ⟨g, es, clk, h1, h2, h3, h4⟩ => ⟨g, es, clk, h1, h2, k.get h3, h4⟩
  len := h.len
  nodup := h.nodup
  few := h.few
  said i b s h1 h2 := let ⟨h3, h4, h5⟩ := h.said i b s h1 h2; ⟨h3, h4.up k, h5⟩

/-- another type's text was asked for -/
theorem Ar.texted {w w' : World} {B A : Nat} {bs : List Nat} {ws : List ByteArray} {tv mv : Value} (h : Ar w B A bs ws tv mv) {b : Nat} {cs : Array Value} (hb : w.heap[b]? = some (.cells cs TyT (0, 0))) (hn : b ∉ bs) (k : Kept (fun x => x = b) w w') : Ar w' B A bs ws tv mv where
  base := h.base
  head := k.get h.head (fun e => by
    have h9 := h.head
    rw [show A = b from e, hb] at h9
    injection h9 with h9
    injection h9 with _ h9 _
    exact absurd h9 (by decide))
  row := ownsRow_keep h.row fun g hg => k.block g (h.row.lt g hg).2 (fun e => by
    obtain ⟨cur, hc⟩ : ∃ cur, w.heap[g]? = some (.cells cur TpT (0, 0)) := by
      rcases h.row.2 with ⟨hv, _⟩ | ⟨g', cap, cur, hv, _, hg', _⟩
      · rw [hv] at hg; cases hg
      · rw [hv] at hg; cases hg; exact ⟨cur, hg'⟩
    rw [show g = b from e, hb] at hc
    injection hc with hc
    injection hc with _ hc _
    exact absurd hc (by decide))
  rowB := h.rowB
  ids := h.ids.imp id fun ⟨g, es, clk, h1, h2, h3, h4⟩ => ⟨g, es, clk, h1, h2, k.get h3 (fun e => by subst e; rw [hb] at h3; cases h3), h4⟩
  len := h.len
  nodup := h.nodup
  few := h.few
  said i c s h1 h2 := by
    obtain ⟨h3, ⟨cs, h4, h5⟩, h6⟩ := h.said i c s h1 h2
    exact ⟨h3, ⟨cs, k.get h4 (fun e => by subst e; exact hn (List.mem_of_getElem? h1)), h5⟩, h6⟩

end Go.Proofs.YtbghpkoimbmijaaGreatDoor

/- Walks: an arena's lay. -/
namespace Go.Proofs.YtbghpkoimbmijaaGreatDoor
open Go.RowKit
set_option linter.unusedSimpArgs false

theorem zip_fst (ws : List ByteArray) (k : Nat) : (ws.zipIdx k).map (·.1) = ws := by
  induction ws generalizing k with
  | nil => rfl
  | cons x l ih => simp [List.zipIdx_cons, ih]
theorem zip_at (ws : List ByteArray) (i : Nat) (s : ByteArray) (h : ws[i]? = some s) : (ws.zipIdx)[i]? = some (s, i) := by
  rw [List.getElem?_zipIdx, h]; simp
theorem zip_miss {ws : List ByteArray} {s : ByteArray} (h : s ∉ ws) : ∀ x ∈ ws.zipIdx, x.1 ≠ s := fun x hx e => by
  subst e
  exact h (by have := List.mem_map_of_mem (f := (·.1)) hx; rwa [zip_fst] at this)

set_option maxRecDepth 100000 in
set_option maxHeartbeats 3200000 in
/-- a type that is there -/
theorem lay_old (B A c : Nat) (bs : List Nat) (ws : List ByteArray) (tv mv : Value) (i : Nat) (s : ByteArray) (w : World) (h : Ar w B A bs ws tv mv) (hs : Said w c s) (hne : (s.toList == []) = false) (hi : ws[i]? = some s) :
    Calls Tryz.prog 21 #[.pointer (some ⟨A, 0, none⟩), .pointer (some ⟨c, 0, none⟩)] w fun e w' => e = .returned (.int .i64 i) ∧ Up w w' := by
  rcases h.ids with ⟨_, rfl⟩ | ⟨g, es, clk, rfl, hg, hm, hE⟩
  · simp at hi
  have HM := Lib.hid (And.intro hm (And.intro hE (And.intro (zip_at ws i s hi) (show ((ws.zipIdx).map (·.1)).Nodup by rw [zip_fst]; exact h.nodup))))
  have HS := Lib.hid (And.intro hs hne)
  have a1 := cell_of h.head 1
  have a4 := lt_of_heap h.head
  simp only [List.getElem?_toArray, List.getElem?_cons_zero, List.getElem?_cons_succ] at a1
  have hlk : (Instr.lookup 56 (.map (some g)) (.string s) true).run Tryz.prog w.drew = .ok (.tuple #[.int .i64 i, .bool true]) w.drew := (run_lookup_hit (f := numV) Tryz.underlying56 Tryz.underlying9 strKeys (Up.get (w := w) uq HM.out.1) HM.out.2.1 s i i HM.out.2.2.1 HM.out.2.2.2).1
  clear h hs hne hi hm hE hg
  go_enter Tryz.func21, Tryz.ntmps21
  go_wp2_with fail
  go_region_law (first | (go_simp; go_at_call 34; refine (text_said c s HS.out.2 _ (HS.out.1.up uq).cell).mono ?_; rintro e w2 ⟨rfl, rfl⟩))
  all_goals (go_wp2_with fail)
  all_goals go_ret
  all_goals exact ⟨rfl, uq⟩

/-- what lay of a new type leaves alone -/
structure LayK (B A b : Nat) (tv : Value) (w w' : World) : Prop where
  low : Below B w w'
  kept : ∀ (x : Nat) (cs : Array Value) (t : TypeId) (fz : Nat × Nat), x ≠ A → tv.ownBlock ≠ some x → x ≠ b → w.heap[x]? = some (.cells cs t fz) → w'.heap[x]? = some (.cells cs t fz)

/-- text of a type, whatever it is -/
def TextOk (b : Nat) (s : ByteArray) (Pc : Array Value → Prop) (w : World) : Prop :=
  ∀ W, Up w W → Calls Tryz.prog 34 #[.pointer (some ⟨b, 0, none⟩)] W fun e w' => e = .returned (.string s) ∧ (∃ cs, w'.heap[b]? = some (.cells cs TyT (0, 0)) ∧ Pc cs) ∧ Kept (fun x => x = b) W w'

theorem zip_snoc (ws : List ByteArray) (s : ByteArray) : (ws ++ [s]).zipIdx = ws.zipIdx ++ [(s, ws.length)] := by
  rw [List.zipIdx_append]; simp

/-- what stands when a new type is laid -/
theorem lay_end {B A b g n tcap cap' : Nat} {bs : List Nat} {ws : List ByteArray} {ta sa' : Option Addr} {s : ByteArray} {Pc : Array Value → Prop} {cs0 cs : Array Value} {w w2 wr W3 w7 : World} {es es' : Array MapEntry} {clk clk' : Nat}
    (hn : n = bs.length) (HA : Ar w B A bs ws (.slice ta n tcap) (.map (some g))) (HB : w.heap[b]? = some (.cells cs0 TyT (0, 0))) (hbB : B ≤ b) (hbn : b ∉ bs) (HK2 : Kept (fun x => x = b) w.drew w2) (HCS : w2.heap[b]? = some (.cells cs TyT (0, 0)) ∧ Pc cs)
    (hP : cs[7]? = some (.string s)) (hne : (s.toList == []) = false) (hs : s ∉ ws) (hfw : bs.length < 1000) (hup : Up w2 wr) (hm : w.heap[g]? = some (.map es clk)) (hz3 : W3.heap.size = wr.heap.size)
    (HZ : (∀ x, x ≠ g → W3.heap[x]? = wr.heap[x]?) ∧ (Value.slice ta n tcap).ownBlock ≠ some A ∧ (Value.slice ta n tcap).ownBlock ≠ some g ∧ A ≠ g) (hg3 : W3.heap[g]? = some (.map es' clk')) (hos3 : W3.os = wr.os ∧ W3.tape = wr.tape ∧ W3.output = wr.output)
    (HE' : Entries es' Value.string numV (ws.zipIdx ++ [(s, n)])) (hd : w7.heap[A]? = some (.cells #[.slice ta n tcap, .map (some g), .map none] ArT (0, 0)))
    (hown' : w7.ownsRow 0 TpT 1 (.slice sa' (n + 1) cap') (n + 1) (bs.map ptrV ++ [.pointer (some ⟨b, 0, none⟩)])) (hgrow : (W3.alloc (.cells #[.pointer (some ⟨b, 0, none⟩)] TpT)).grownBy w7 (Value.slice ta n tcap).ownBlock)
    (hblk : (Value.slice sa' (n + 1) cap').ownBlock = (Value.slice ta n tcap).ownBlock ∨ ∃ g', (Value.slice sa' (n + 1) cap').ownBlock = some g' ∧ W3.heap.size + 1 ≤ g') :
    (∃ tv', Ar (w7.setCell ⟨A, 0, none⟩ (.slice sa' (n + 1) cap')) B A (bs ++ [b]) (ws ++ [s]) tv' (.map (some g))) ∧ (∃ cs, (w7.setCell ⟨A, 0, none⟩ (.slice sa' (n + 1) cap')).heap[b]? = some (.cells cs TyT (0, 0)) ∧ Pc cs) ∧
      LayK B A b (.slice ta n tcap) w (w7.setCell ⟨A, 0, none⟩ (.slice sa' (n + 1) cap')) := by
  have hrb : ∀ g', (Value.slice ta n tcap).ownBlock = some g' → B ≤ g' ∧ ∃ cur, w.heap[g']? = some (.cells cur TpT (0, 0)) := fun g' hg' => by
    refine ⟨HA.rowB g' hg', ?_⟩
    rcases HA.row.2 with ⟨hv, _⟩ | ⟨g'', cap, cur, hv, _, hc, _⟩
    · rw [hv] at hg'; cases hg'
    · rw [hv] at hg'; cases hg'; exact ⟨cur, hc⟩
  have hAw := HA.head
  have hbA : b ≠ A := fun e => by
    rw [e, hAw] at HB
    injection HB with q
    injection q with _ q _
    exact absurd q (by decide)
  have hbr : (Value.slice ta n tcap).ownBlock ≠ some b := fun e => by
    obtain ⟨_, cur, hc⟩ := hrb b e
    rw [HB] at hc
    injection hc with q
    injection q with _ q _
    exact absurd q (by decide)
  have hbg : b ≠ g := fun e => by rw [e, hm] at HB; cases HB
  have hBg : B ≤ g := by
    rcases HA.ids with ⟨h9, _⟩ | ⟨g', _, _, h9, h, _, _⟩
    · cases h9
    · cases h9; exact h
  have hsz : w.heap.size ≤ w7.heap.size := by
    have q1 := HK2.size
    have q2 := hup.size
    have q3 := hgrow.size
    have q4 : (W3.alloc (.cells #[.pointer (some ⟨b, 0, none⟩)] TpT)).heap.size = W3.heap.size + 1 := by simp
    have q5 : w.drew.heap.size = w.heap.size := rfl
    omega
  -- from w2 on
  have k2 : ∀ x o, w2.heap[x]? = some o → x ≠ g → x ≠ A → (Value.slice ta n tcap).ownBlock ≠ some x → (w7.setCell ⟨A, 0, none⟩ (.slice sa' (n + 1) cap')).heap[x]? = some o := fun x o hx h1 h2 h3 => by
    rw [setCell_other h2]
    have q : W3.heap[x]? = some o := (HZ.1 x h1).trans (hup.get hx)
    rw [hgrow.block x (by have := lt_of_heap q; simp; omega) (fun e => h3 e.symm)]
    exact alloc_keep q
  have k1 : ∀ x cs t fz, w.heap[x]? = some (.cells cs t fz) → x ≠ A → (Value.slice ta n tcap).ownBlock ≠ some x → x ≠ b → (w7.setCell ⟨A, 0, none⟩ (.slice sa' (n + 1) cap')).heap[x]? = some (.cells cs t fz) := fun x cs t fz hx h1 h2 h3 =>
    k2 x _ (HK2.get (show w.drew.heap[x]? = _ from hx) h3) (fun e => by rw [e, hm] at hx; cases hx) h1 h2
  have hbl : (w7.setCell ⟨A, 0, none⟩ (.slice sa' (n + 1) cap')).heap[b]? = some (.cells cs TyT (0, 0)) := k2 b _ HCS.1 hbg hbA hbr
  have hsA : (Value.slice sa' (n + 1) cap').ownBlock ≠ some A := fun e => by
    rcases hblk with q | ⟨g', q, q2⟩
    · exact HZ.2.1 (by rw [← q]; exact e)
    · rw [q] at e
      cases e
      have := lt_of_heap hAw
      have q1 := HK2.size
      have q3 := hup.size
      have q5 : w.drew.heap.size = w.heap.size := rfl
      omega
  have hlow : Below B w (w7.setCell ⟨A, 0, none⟩ (.slice sa' (n + 1) cap')) := by
    refine ⟨hgrow.os.trans (hos3.1.trans (hup.os.trans HK2.os)), hgrow.tape.trans (hos3.2.1.trans (hup.tape.trans HK2.tape)), hgrow.output.trans (hos3.2.2.trans (hup.output.trans HK2.output)), by rw [setCell_size]; exact hsz, fun x hx => ?_⟩
    have hBw : B ≤ w.heap.size := Nat.le_trans HA.base (Nat.le_of_lt (lt_of_heap hAw))
    rw [setCell_other (by have := HA.base; omega)]
    have l1 : x < w.heap.size := by omega
    have l2 : x < w2.heap.size := by have q1 := HK2.size; have q5 : w.drew.heap.size = w.heap.size := rfl; omega
    have l3 : x < wr.heap.size := Nat.lt_of_lt_of_le l2 hup.size
    rw [hgrow.block x (by simp; omega) (fun e => by have := (hrb x e.symm).1; omega), alloc_old _ _ _ (by omega), HZ.1 x (by omega), hup.block x l2]
    exact HK2.block x l1 (fun e => by have : x = b := e; omega)
  refine ⟨⟨.slice sa' (n + 1) cap', ?_⟩, ⟨cs, hbl, HCS.2⟩, hlow, fun x cs t fz h1 h2 h3 hx => k1 x cs t fz hx h1 h2 h3⟩
  exact {
    base := HA.base
    head := setCell_block (i := 0) hd _
    row := by
      have q := ownsRow_keep (w' := w7.setCell ⟨A, 0, none⟩ (.slice sa' (n + 1) cap')) hown' fun g' hg' => setCell_other (fun e => hsA (by rw [← e]; exact hg')) _
      have e1 : (bs ++ [b]).length = n + 1 := by simp [hn]
      have e2 : (bs ++ [b]).map ptrV = bs.map ptrV ++ [.pointer (some ⟨b, 0, none⟩)] := by simp [ptrV]
      rw [e1, e2]
      exact q
    rowB := fun g' hg' => by
      rcases hblk with q | ⟨g'', q, q2⟩
      · exact HA.rowB g' (by rw [← q]; exact hg')
      · rw [q] at hg'
        cases hg'
        have hBw : B ≤ w.heap.size := Nat.le_trans HA.base (Nat.le_of_lt (lt_of_heap hAw))
        have q1 := HK2.size
        have q3 := hup.size
        have q5 : w.drew.heap.size = w.heap.size := rfl
        omega
    ids := .inr ⟨g, es', clk', rfl, hBg, by
      rw [setCell_other (fun e => HZ.2.2.2 e.symm), hgrow.block g (by have := lt_of_heap hg3; simp; omega) (fun e => HZ.2.2.1 e.symm)]
      exact alloc_keep hg3, by rw [zip_snoc, HA.len, ← hn]; exact HE'⟩
    len := by simp [HA.len]
    nodup := by
      rw [List.nodup_append]
      refine ⟨HA.nodup, by simp, fun x hx y hy => ?_⟩
      simp at hy
      subst hy
      intro e
      subst e
      exact hs hx
    few := by simp; omega
    said := fun i c u h1 h2 => by
      rcases Nat.lt_or_ge i bs.length with hi | hi
      · rw [List.getElem?_append_left hi] at h1
        rw [List.getElem?_append_left (by rw [HA.len]; exact hi)] at h2
        obtain ⟨q1, ⟨cu, q2, q3⟩, q4⟩ := HA.said i c u h1 h2
        refine ⟨q1, ⟨cu, k1 c _ _ _ q2 (fun e => ?_) (fun e => ?_) (fun e => hbn (by rw [← e]; exact List.mem_of_getElem? h1)), q3⟩, q4⟩
        · rw [e, hAw] at q2
          injection q2 with q
          injection q with _ q _
          exact absurd q (by decide)
        · obtain ⟨_, cur, hc⟩ := hrb c e
          rw [q2] at hc
          injection hc with q
          injection q with _ q _
          exact absurd q (by decide)
      · have e0 : i = bs.length := by
          have := (List.getElem?_eq_some_iff.1 h1).1
          simp at this
          omega
        subst e0
        rw [List.getElem?_append_right (Nat.le_refl _), Nat.sub_self] at h1
        rw [List.getElem?_append_right (by rw [HA.len]; exact Nat.le_refl _), HA.len, Nat.sub_self] at h2
        simp at h1 h2
        subst h1 h2
        exact ⟨hbB, ⟨cs, hbl, hP⟩, hne⟩ }

theorem typ_info : (Tryz.prog.info? TpT).map (fun i => (i.zero, i.size, i.bytes)) = some (some (.pointer none), 1, 8) := by kernel_rfl

set_option maxRecDepth 100000 in
set_option maxHeartbeats 6400000 in
/-- a new type, the map being there -/
theorem lay_new (B A b g : Nat) (bs : List Nat) (ws : List ByteArray) (tv : Value) (s : ByteArray) (Pc : Array Value → Prop) (pv : Value) (ps : List (Nat × Nat)) (cs0 : Array Value) (w : World) (h : Ar w B A bs ws tv (.map (some g))) (hb : w.heap[b]? = some (.cells cs0 TyT (0, 0))) (hbB : B ≤ b) (hbn : b ∉ bs)
    (ht : TextOk b s Pc w) (hP : ∀ cs, Pc cs → cs[7]? = some (.string s) ∧ cs[3]? = some pv) (hne : (s.toList == []) = false) (hs : s ∉ ws) (hps : Parts w pv ps) (hin : ∀ x ∈ ps, ∃ (i : Nat) (u : ByteArray), Said w x.1 u ∧ x.1 ≠ b ∧ (u.toList == []) = false ∧ ws[i]? = some u) (hpb : ∀ g' off cap, pv = .slice (some ⟨g', off, none⟩) ps.length cap → g' ≠ b) (hfw : bs.length < 1000) :
    Calls Tryz.prog 21 #[.pointer (some ⟨A, 0, none⟩), .pointer (some ⟨b, 0, none⟩)] w fun e w' => e = .returned (.int .i64 bs.length) ∧ (∃ tv', Ar w' B A (bs ++ [b]) (ws ++ [s]) tv' (.map (some g))) ∧ (∃ cs, w'.heap[b]? = some (.cells cs TyT (0, 0)) ∧ Pc cs) ∧ LayK B A b tv w w' := by
  rcases h.ids with ⟨h9, _⟩ | ⟨g', es, clk, h9, hg, hm, hE⟩
  · cases h9
  cases h9
  obtain ⟨pa, pcap, rfl⟩ := hps.form
  obtain ⟨ta, tcap, rfl⟩ := ownsRow_form h.row
  have HA := Lib.hid h
  have HPB := Lib.hid hpb
  have hpl := hps.few
  have HT := Lib.hid ht
  have HM := Lib.hid (And.intro hm hE)
  have HB := Lib.hid hb
  have HX := Lib.hid (And.intro hP (And.intro hne (And.intro hs (And.intro hps (And.intro hin (And.intro hbB hbn))))))
  have a1 := cell_of h.head 1
  have a4 := lt_of_heap h.head
  simp only [List.getElem?_toArray, List.getElem?_cons_zero, List.getElem?_cons_succ] at a1
  have hneq : ∀ w, (binOp .eql 56 (.map (some g)) (.map none)).run Tryz.prog w = .ok (.bool false) w := fun _ => by kernel_rfl
  clear h ht hm hE hb hP hne hs hps hin hbB hbn hg hpb
  go_enter Tryz.func21, Tryz.ntmps21
  go_wp2_with fail
  go_region_law (first | (go_simp; go_at_call 34; refine (HT.out _ uq).mono ?_; rintro e w2 ⟨rfl, ⟨cs, hcs, hpc⟩, hk2⟩; have HA2 := Lib.hid (Ar.texted (HA.out.up (show Up w w.drew from uq)) HB.out HX.out.2.2.2.2.2.2 hk2); have a1 := cell_of HA2.out.head 1; simp only [List.getElem?_toArray, List.getElem?_cons_zero, List.getElem?_cons_succ] at a1; have a4 := lt_of_heap HA2.out.head; have b3 := (cell_of hcs 3).trans (HX.out.1 cs hpc).2; have bl := lt_of_heap hcs; have hm2 : Hid (w2.heap[g]? = some (.map es clk)) := hk2.get (Up.get (w := w) uq HM.out.1) (fun e => by have q := HM.out.1; rw [show g = b from e, HB.out] at q; cases q); have hlk : (Instr.lookup 56 (.map (some g)) (.string s) true).run Tryz.prog w2 = .ok (.tuple #[.int .i64 0, .bool false]) w2 := (run_lookup_miss (f := numV) Tryz.underlying56 Tryz.underlying9 strKeys (show (zeroValue 3).run Tryz.prog w2 = .ok (.int .i64 0) w2 by kernel_rfl) hm2.out HM.out.2 s (zip_miss HX.out.2.2.1)).1))
  all_goals (go_wp2_with fail)
  all_goals
    have HCS := Lib.hid (And.intro hcs hpc)
    have HK2 := Lib.hid hk2
    clear hcs hpc hk2 hlk
    refine range_named fun A2 W2 hA2 hW2 => ?_
    have hu2 : Up w2 W2 := by subst hW2; exact uq
    clear hW2
    subst hA2
    go_loopw [26] (fun i wr => ∃ j : Nat, j ≤ ps.length ∧ i = .int .i64 j ∧ Up w2 wr) (fun i _ => ps.length - (intOf i).toNat)
    case atStart => exact ⟨0, Nat.zero_le _, rfl, hu2⟩
    case round =>
      obtain ⟨j, hj, rfl, hup⟩ := hrel
      by_cases hlt : j < ps.length
      · have hji : (j : Int) < ps.length := by omega
        obtain ⟨x, hx⟩ : ∃ x, ps[j]? = some x := ⟨_, List.getElem?_eq_getElem hlt⟩
        obtain ⟨g', off, cap2, he, hg, hc, hxl, _, _⟩ := HX.out.2.2.2.1.at_ j x hx
        have hgb := HPB.out g' off cap2 he
        cases he
        obtain ⟨i, u, hsu, hxb, hun, hiu⟩ := HX.out.2.2.2.2.1 x (List.mem_of_getElem? hx)
        have y0 : wr.cell? ⟨g', off + j, none⟩ = some (.pointer (some ⟨x.1, 0, none⟩)) := by
          have q : wr.heap[g']? = w.heap[g']? := (hup.block g' (Nat.lt_of_lt_of_le hg HK2.out.size)).trans (HK2.out.block g' hg hgb)
          rw [← hc]
          simp only [World.cell?, q]
        have HSU : Hid (Said wr x.1 u) := by
          obtain ⟨cu, q1, q2⟩ := hsu
          exact ⟨cu, hup.get (HK2.out.get (Up.get (w := w) uq q1) hxb), q2⟩
        have HIU := Lib.hid (And.intro hun hiu)
        clear hx hc hg hgb hsu hxb hun hiu hlt
        go_wp2_with (first | (go_at_call 21; refine (lay_old B A x.1 bs ws _ _ i u _ (HA2.out.up uq) (HSU.out.up uq) HIU.out.1 HIU.out.2).mono ?_; rintro e w4 ⟨rfl, hu4⟩))
        exact ⟨⟨j + 1, by omega, by simp, uq⟩, by simp [intOf]; omega⟩
      · obtain rfl : j = ps.length := by omega
        have HA3 := Lib.hid (HA2.out.up hup)
        have a1 := cell_of HA3.out.head 1
        have a0 := cell_of HA3.out.head 0
        have f0 := ice_of HA3.out.head 0
        have a4 := lt_of_heap HA3.out.head
        simp only [List.getElem?_toArray, List.getElem?_cons_zero, List.getElem?_cons_succ] at a0 a1
        have HS3 : Hid (Said wr b s) := ⟨cs, hup.get HCS.out.1, (HX.out.1 cs HCS.out.2).1⟩
        have hm3 : Hid (wr.drew.heap[g]? = some (.map es clk)) := Up.get (w := w2) uq hm2.out
        obtain ⟨es', clk', hst, hE'⟩ := run_store_miss (f := numV) Tryz.underlying56 Tryz.underlying9 strKeys hm3.out HM.out.2 s bs.length (zip_miss HX.out.2.2.1)
        have HE' := Lib.hid hE'
        have hst : (Instr.mapUpdate 56 (.map (some g)) (.string s) (.int .i64 bs.length)).run Tryz.prog wr.drew = .ok () (putB wr.drew g (.map es' clk')) := hst
        clear hE' hlt
        go_wp2_with fail
        go_region_law (first | (go_simp; go_at_call 34; refine (text_said b s HX.out.2.1 _ (HS3.out.up uq).cell).mono ?_; rintro e w5 ⟨rfl, rfl⟩))
        all_goals (go_upto_region 12 with (fail))
        all_goals
          refine range_named fun A3 W3 hA3 hW3 => ?_
          have hAg : A ≠ g := fun e => by
            have q := hm3.out
            rw [← e, show wr.drew.heap[A]? = _ from HA3.out.head] at q
            cases q
          have hz3 : W3.heap.size = wr.heap.size := by subst hW3; exact putB_size _ _ _
          have hot3 : ∀ x, x ≠ g → W3.heap[x]? = wr.heap[x]? := fun x hx => by subst hW3; exact putB_other _ _ _ _ hx
          have hg3 : Hid (W3.heap[g]? = some (.map es' clk')) := by subst hW3; exact putB_same _ _ _ (lt_of_heap hm3.out)
          have hos3 : Hid (W3.os = wr.os ∧ W3.tape = wr.tape ∧ W3.output = wr.output) := by subst hW3; exact ⟨rfl, rfl, rfl⟩
          clear hW3
          subst hA3
          have hhd3 : Hid (W3.heap[A]? = some (.cells #[.slice ta bs.length tcap, .map (some g), .map none] ArT (0, 0))) := (hot3 A hAg).trans HA3.out.head
          have hrb : ∀ g', (Value.slice ta bs.length tcap).ownBlock = some g' → ∃ cur, wr.heap[g']? = some (.cells cur TpT (0, 0)) := fun g' hg' => by
            rcases HA3.out.row.2 with ⟨hv, _⟩ | ⟨g'', cap, cur, hv, _, hc, _⟩
            · rw [hv] at hg'; cases hg'
            · rw [hv] at hg'; cases hg'; exact ⟨cur, hc⟩
          have hrA : (Value.slice ta bs.length tcap).ownBlock ≠ some A := fun e => by
            obtain ⟨cur, hc⟩ := hrb A e
            rw [HA3.out.head] at hc
            injection hc with hc
            injection hc with _ hc _
            exact absurd hc (by decide)
          have hrg : (Value.slice ta bs.length tcap).ownBlock ≠ some g := fun e => by
            obtain ⟨cur, hc⟩ := hrb g e
            have q := hm3.out
            rw [show wr.drew.heap[g]? = _ from hc] at q
            cases q
          have row3 : Hid (W3.ownsRow 0 TpT 1 (.slice ta bs.length tcap) bs.length (bs.map ptrV)) := ownsRow_keep HA3.out.row fun g' hg' => hot3 g' (fun e => hrg (by rw [← e]; exact hg'))
          have HZ := Lib.hid (And.intro hot3 (And.intro hrA (And.intro hrg hAg)))
          have a0 := cell_of hhd3.out 0
          have f0 := ice_of hhd3.out 0
          have a4 := lt_of_heap hhd3.out
          simp only [List.getElem?_toArray, List.getElem?_cons_zero, List.getElem?_cons_succ] at a0
          clear hot3 hrb hrA hrg hAg hst
          obtain ⟨i0, hi, hz0, hz1, hz2⟩ := info_parts typ_info
          go_wp2_with (first | (at_builtin; go_must (refine wpList_append_new rfl _ _ 55 rfl TpT i0 (.pointer none) 1 8 Tryz.underlying55 hi hz0 hz1 hz2 rfl (by decide) (.slice ta bs.length tcap) bs.length (bs.map ptrV) rfl (ownsRow_up row3.out uq) _ 1 1 rfl (by first | rfl | (simp; done) | omega | (trace_state; exact rfl)) rfl (by intro u hu; have hu2 : u = .pointer (some ⟨b, 0, none⟩) := (by simpa using hu); rw [hu2]; rfl) (by unfold maxLen; omega) (by omega) ?_; intro sa' cap' w7 hown' hgrow hblk; (try simp only [World.size_alloc] at hblk); have hd := Lib.hid (grown_get hgrow (Up.get (w := W3) uq hhd3.out) HZ.out.2.1); have a0 := cell_of hd.out 0; have f0 := ice_of hd.out 0; have a4 := lt_of_heap hd.out; simp only [List.getElem?_toArray, List.getElem?_cons_zero, List.getElem?_cons_succ] at a0; have HY := Lib.hid (And.intro hown' (And.intro hgrow hblk)); clear hown' hgrow hblk)))
        all_goals
          go_ret
          exact ⟨rfl, lay_end rfl HA.out HB.out HX.out.2.2.2.2.2.1 HX.out.2.2.2.2.2.2 HK2.out HCS.out (HX.out.1 cs HCS.out.2).1 HX.out.2.1 HX.out.2.2.1 hfw hup HM.out.1 hz3 HZ.out hg3.out hos3.out HE'.out hd.out HY.out.1 HY.out.2.1 HY.out.2.2⟩

end Go.Proofs.YtbghpkoimbmijaaGreatDoor

/- Walks: the first type that an arena lays; New. -/
namespace Go.Proofs.YtbghpkoimbmijaaGreatDoor
open Go.RowKit
set_option linter.unusedSimpArgs false

theorem leaf_text (b : Nat) (k : Int) (h1 : 1 ≤ k) (h2 : k ≤ 10) (w : World) (h : Leaf w b k ⟨#[]⟩) : TextOk b (wordS k) (fun cs => cs = leafC k (wordS k)) w := fun W hW =>
  (text_leaf b k h1 h2 W (hW.get h)).mono fun _ _ ⟨e, l, kp⟩ => ⟨e, ⟨_, l, rfl⟩, kp⟩

theorem Kept.belowB {S : Nat → Prop} {B : Nat} {w w' : World} (h : Kept S w w') (hs : ∀ x, x < B → ¬ S x) (hB : B ≤ w.heap.size) : Below B w w' :=
  ⟨h.os, h.tape, h.output, h.size, fun x hx => h.block x (by omega) (hs x hx)⟩

theorem word_ne (k : Int) : ((wordS k).toList == []) = false := by
  unfold wordS
  repeat' split
  all_goals kernel_rfl

set_option maxRecDepth 100000 in
set_option maxHeartbeats 6400000 in
theorem lay_first (B A b : Nat) (k : Int) (h1 : 1 ≤ k) (h2 : k ≤ 10) (w : World) (hA : w.heap[A]? = some (.cells #[.slice none 0 0, .map none, .map none] ArT (0, 0))) (hb : Leaf w b k ⟨#[]⟩) (hBA : B ≤ A) (hBb : B ≤ b) :
    Calls Tryz.prog 21 #[.pointer (some ⟨A, 0, none⟩), .pointer (some ⟨b, 0, none⟩)] w fun e w' => e = .returned (.int .i64 0) ∧ (∃ g tv', Ar w' B A [b] [wordS k] tv' (.map (some g))) ∧ Leaf w' b k (wordS k) ∧ LayK B A b (.slice none 0 0) w w' := by
  have HA := Lib.hid hA
  have HK := Lib.hid (And.intro h1 h2)
  have HB := Lib.hid hb
  have HBB := Lib.hid (And.intro hBA hBb)
  have hAb : A ≠ b := fun e => by
    rw [e] at hA
    rw [show w.heap[b]? = _ from hb] at hA
    injection hA with q
    injection q with _ q _
    exact absurd q (by decide)
  have a1 := cell_of hA 1
  have a4 := lt_of_heap hA
  simp only [List.getElem?_toArray, List.getElem?_cons_zero, List.getElem?_cons_succ] at a1
  obtain ⟨s, hs⟩ : ∃ s, Hid (wordS k = s) := ⟨_, rfl⟩
  have hne : Hid ((s.toList == []) = false) := by rw [← hs.out]; exact word_ne k
  have hneq : ∀ w, (binOp .eql 56 (.map none) (.map none)).run Tryz.prog w = .ok (.bool true) w := fun _ => by kernel_rfl
  have hl0 : ∀ W : World, (Instr.lookup 56 (.map none) (.string s) true).run Tryz.prog W = .ok (.tuple #[.int .i64 0, .bool false]) W := fun W =>
    (run_lookup_none (kf := Value.string) (z := .int .i64 0) Tryz.underlying56 Tryz.underlying9 strKeys (show (zeroValue 3).run Tryz.prog W = .ok (.int .i64 0) W by kernel_rfl) s).1
  have hmm := @run_makeMap Tryz.prog
  clear hA hb h1 h2 hBA hBb
  rw [hs.out]
  go_enter Tryz.func21, Tryz.ntmps21
  go_wp2_with fail
  go_region_law (first | (go_simp; go_at_call 34; refine (text_leaf b k HK.out.1 HK.out.2 _ (Up.get (w := w) uq HB.out)).mono ?_; rintro e w2 ⟨rfl, hl2, hk2⟩; rw [hs.out] at *; have hA2 := Lib.hid (hk2.get (show w.drew.heap[A]? = _ from HA.out) hAb); have f1 := ice_of hA2.out 1; have a1 := cell_of hA2.out 1; simp only [List.getElem?_toArray, List.getElem?_cons_zero, List.getElem?_cons_succ] at a1; have a4 := lt_of_heap hA2.out; have b3 := cell_of hl2 3; simp only [List.getElem?_toArray, List.getElem?_cons_zero, List.getElem?_cons_succ] at b3; have bl := lt_of_heap hl2))
  all_goals (go_wp2_with fail)
  all_goals refine wp_loop_rounds 1 ?_
  all_goals rw [rounds_succ]
  all_goals (go_upto_region 11 with (fail))
  all_goals
    refine range_named fun A2 W2 hA2' hW2 => ?_
    have hg2 : Hid (W2.heap[w2.heap.size]? = some (.map #[] 0)) := by subst hW2; exact alloc_at _ _ _ (by simp [setCell_size])
    have hh2 : Hid (W2.heap[A]? = some (.cells #[.slice none 0 0, .map (some w2.heap.size), .map none] ArT (0, 0))) := by subst hW2; exact alloc_keep (setCell_block (i := 1) hA2.out _)
    have hl3 : Hid (Leaf W2 b k s) := by subst hW2; exact alloc_keep ((setCell_other (fun e => hAb e.symm) _).trans hl2)
    have hk3 : Hid (Kept (fun x => x = A) w2 W2) := by subst hW2; exact (Kept.setCell (S := fun x => x = A) (p := ⟨A, 1, none⟩) (Kept.refl _ _) (.inl rfl) _).alloc _
    obtain ⟨g, hg⟩ : ∃ g, Hid (w2.heap.size = g) := ⟨_, rfl⟩
    rw [hg.out] at hg2 hh2 hA2'
    have hBs : B ≤ w2.heap.size := Nat.le_trans HBB.out.1 (Nat.le_of_lt (lt_of_heap hA2.out))
    have HAr : Hid (Ar W2 B A [] [] (.slice none 0 0) (.map (some g))) := {
      base := HBB.out.1
      head := hh2.out
      row := ⟨rfl, .inl ⟨rfl, rfl⟩⟩
      rowB := fun g' hg' => by cases hg'
      ids := .inr ⟨g, #[], 0, rfl, by rw [← hg.out]; exact hBs, hg2.out, rfl⟩
      len := rfl
      nodup := List.nodup_nil
      few := by simp
      said := fun i c u h1 _ => by simp at h1 }
    have HS3 : Hid (Said W2 b s) := hl3.out.said
    have hlow : Hid (Below B w W2) := Below.trans (Kept.belowB (w := w) ⟨hk2.os, hk2.tape, hk2.output, hk2.size, hk2.block⟩ (fun x hx e => by have := HBB.out.2; have e : x = b := e; omega) (Nat.le_trans HBB.out.1 (Nat.le_of_lt (lt_of_heap HA.out)))) (hk3.out.belowB (fun x hx e => by have := HBB.out.1; have e : x = A := e; omega) hBs)
    have hkk : Hid (∀ (x : Nat) (cs : Array Value) (t : TypeId) (fz : Nat × Nat), x ≠ A → x ≠ b → w.heap[x]? = some (.cells cs t fz) → W2.heap[x]? = some (.cells cs t fz)) := fun x cs t fz h1 h2 hx => hk3.out.get (hk2.get (show w.drew.heap[x]? = _ from hx) h2) h1
    obtain ⟨es', clk', hst, hE'⟩ := run_store_miss (f := numV) (P := Tryz.prog) (es := #[]) (clk := 0) (l := []) (w := W2.drew) Tryz.underlying56 Tryz.underlying9 strKeys hg2.out rfl s 0 (by simp)
    have HE' := Lib.hid hE'
    have hst : (Instr.mapUpdate 56 (.map (some g)) (.string s) (.int .i64 0)).run Tryz.prog W2.drew = .ok () (putB W2.drew g (.map es' clk')) := hst
    have a1 := cell_of HAr.out.head 1
    have a0 := cell_of HAr.out.head 0
    have f0 := ice_of HAr.out.head 0
    have a4 := lt_of_heap HAr.out.head
    simp only [List.getElem?_toArray, List.getElem?_cons_zero, List.getElem?_cons_succ] at a0 a1
    clear hE' hW2 hBs hl2 hk2
    subst hA2'
    go_region_law (first | (go_simp; go_at_call 34; refine (text_said b s hne.out _ (HS3.out.up uq).cell).mono ?_; rintro e w5 ⟨rfl, rfl⟩))
  all_goals (go_upto_region 12 with (fail))
  all_goals
    refine range_named fun A3 W3 hA3 hW3 => ?_
    have hAg : A ≠ g := fun e => by
      have q : W2.drew.heap[g]? = _ := hg2.out
      rw [← e, show W2.drew.heap[A]? = _ from HAr.out.head] at q
      cases q
    have hz3 : W3.heap.size = W2.heap.size := by subst hW3; exact putB_size _ _ _
    have hot3 : ∀ x, x ≠ g → W3.heap[x]? = W2.heap[x]? := fun x hx => by subst hW3; exact putB_other _ _ _ _ hx
    have hg3 : Hid (W3.heap[g]? = some (.map es' clk')) := by subst hW3; exact putB_same _ _ _ (lt_of_heap hg2.out)
    have hos3 : Hid (W3.os = W2.os ∧ W3.tape = W2.tape ∧ W3.output = W2.output) := by subst hW3; exact ⟨rfl, rfl, rfl⟩
    clear hW3
    subst hA3
    have hhd3 : Hid (W3.heap[A]? = some (.cells #[.slice none 0 0, .map (some g), .map none] ArT (0, 0))) := (hot3 A hAg).trans HAr.out.head
    have hrb : ∀ g', (Value.slice none 0 0).ownBlock = some g' → ∃ cur, W2.heap[g']? = some (.cells cur TpT (0, 0)) := fun g' hg' => by
      rcases HAr.out.row.2 with ⟨hv, _⟩ | ⟨g'', cap, cur, hv, _, hc, _⟩
      · rw [hv] at hg'; cases hg'
      · rw [hv] at hg'; cases hg'; exact ⟨cur, hc⟩
    have hrA : (Value.slice none 0 0).ownBlock ≠ some A := fun e => by
      obtain ⟨cur, hc⟩ := hrb A e
      rw [HAr.out.head] at hc
      injection hc with hc
      injection hc with _ hc _
      exact absurd hc (by decide)
    have hrg : (Value.slice none 0 0).ownBlock ≠ some g := fun e => by
      obtain ⟨cur, hc⟩ := hrb g e
      have q : W2.drew.heap[g]? = _ := hg2.out
      rw [show W2.drew.heap[g]? = _ from hc] at q
      cases q
    have row3 : Hid (W3.ownsRow 0 TpT 1 (.slice none 0 0) 0 []) := ownsRow_keep HAr.out.row fun g' hg' => hot3 g' (fun e => hrg (by rw [← e]; exact hg'))
    have HZ := Lib.hid (And.intro hot3 (And.intro hrA (And.intro hrg hAg)))
    have a0 := cell_of hhd3.out 0
    have f0 := ice_of hhd3.out 0
    have a4 := lt_of_heap hhd3.out
    simp only [List.getElem?_toArray, List.getElem?_cons_zero, List.getElem?_cons_succ] at a0
    clear hot3 hrb hrA hrg hAg hst
    obtain ⟨i0, hi, hz0, hz1, hz2⟩ := info_parts typ_info
    go_wp2_with (first | (at_builtin; go_must (refine wpList_append_new rfl _ _ 55 rfl TpT i0 (.pointer none) 1 8 Tryz.underlying55 hi hz0 hz1 hz2 rfl (by decide) (.slice none 0 0) 0 [] rfl (ownsRow_up row3.out uq) _ 1 1 rfl (by first | rfl | (simp; done) | omega | (trace_state; exact rfl)) rfl (by intro u hu; have hu2 : u = .pointer (some ⟨b, 0, none⟩) := (by simpa using hu); rw [hu2]; rfl) (by unfold maxLen; omega) (by omega) ?_; intro sa' cap' w7 hown' hgrow hblk; (try simp only [World.size_alloc] at hblk); have hd := Lib.hid (grown_get hgrow (Up.get (w := W3) uq hhd3.out) HZ.out.2.1); have a0 := cell_of hd.out 0; have f0 := ice_of hd.out 0; have a4 := lt_of_heap hd.out; simp only [List.getElem?_toArray, List.getElem?_cons_zero, List.getElem?_cons_succ] at a0; have HY := Lib.hid (And.intro hown' (And.intro hgrow hblk)); clear hown' hgrow hblk)))
    go_ret
    obtain ⟨⟨tv', h1⟩, ⟨cs9, h2, h3⟩, h4⟩ := lay_end (Pc := fun cs => cs = leafC k s) (bs := []) (ws := []) rfl HAr.out hl3.out HBB.out.2 (by simp) (show Kept (fun x => x = b) W2.drew W2 from ⟨rfl, rfl, rfl, Nat.le_refl _, fun _ _ _ => rfl⟩) ⟨hl3.out, rfl⟩ rfl hne.out (by simp) (by simp) (Up.refl W2) hg2.out hz3 HZ.out hg3.out hos3.out HE'.out hd.out HY.out.1 HY.out.2.1 HY.out.2.2
    subst h3
    exact ⟨rfl, ⟨g, tv', h1⟩, h2, Below.trans hlow.out h4.low, fun x cs t fz q1 q2 q3 q4 => h4.kept x cs t fz q1 q2 q3 (hkk.out x cs t fz q1 q3 q4)⟩

end Go.Proofs.YtbghpkoimbmijaaGreatDoor

/- Walk: New: an arena with the ten. -/
namespace Go.Proofs.YtbghpkoimbmijaaGreatDoor
open Go.RowKit
set_option linter.unusedSimpArgs false

def wordsL (j : Nat) : List ByteArray := (List.range j).map fun i : Nat => wordS ((i : Int) + 1)
theorem wordsL_succ (j : Nat) : wordsL (j + 1) = wordsL j ++ [wordS ((j : Int) + 1)] := by simp [wordsL, List.range_succ]
theorem word_new (j : Nat) (hj : j < 10) : wordS ((j : Int) + 1) ∉ wordsL j := by
  have h : j = 0 ∨ j = 1 ∨ j = 2 ∨ j = 3 ∨ j = 4 ∨ j = 5 ∨ j = 6 ∨ j = 7 ∨ j = 8 ∨ j = 9 := by omega
  intro hm
  have hm := List.mem_map_of_mem (f := fun s : ByteArray => s.data.toList) hm
  rcases h with rfl | rfl | rfl | rfl | rfl | rfl | rfl | rfl | rfl | rfl <;> exact absurd hm (by decide +kernel)

/-- an arena with the first j of the ten -/
structure Few (w : World) (B A : Nat) (bs : List Nat) (g : Nat) (tv : Value) (j : Nat) : Prop where
  ar : Ar w B A bs (wordsL j) tv (.map (some g))
  len : bs.length = j
  leaf : ∀ (i b : Nat), bs[i]? = some b → Leaf w b ((i : Int) + 1) (wordS ((i : Int) + 1))
theorem Few.up {w w' : World} {B A : Nat} {bs : List Nat} {g : Nat} {tv : Value} {j : Nat} (h : Few w B A bs g tv j) (k : Up w w') : Few w' B A bs g tv j := ⟨h.ar.up k, h.len, fun i b hb => k.get (h.leaf i b hb)⟩

/-- one more of the ten -/
theorem Few.next {w w' : World} {B A : Nat} {bs : List Nat} {g : Nat} {tv tv' : Value} {j b : Nat} (h : Few w B A bs g tv j) (h1 : Ar w' B A (bs ++ [b]) (wordsL j ++ [wordS ((j : Int) + 1)]) tv' (.map (some g))) (h2 : Leaf w' b ((j : Int) + 1) (wordS ((j : Int) + 1))) (h3 : LayK B A b tv w w') (hb : b ∉ bs) : Few w' B A (bs ++ [b]) g tv' (j + 1) where
  ar := by rw [wordsL_succ]; exact h1
  len := by simp [h.len]
  leaf := fun i c hc => by
    rcases Nat.lt_or_ge i bs.length with hi | hi
    · rw [List.getElem?_append_left hi] at hc
      have q := h.leaf i c hc
      refine h3.kept c _ _ _ (fun e => ?_) (fun e => ?_) (fun e => hb (by rw [← e]; exact List.mem_of_getElem? hc)) q
      · have q2 := h.ar.head
        rw [← e, show w.heap[c]? = _ from q] at q2
        injection q2 with q2
        injection q2 with _ q2 _
        exact absurd q2 (by decide)
      · rcases h.ar.row.2 with ⟨hv, _⟩ | ⟨g', cap, cur, hv, _, hc2, _⟩
        · rw [hv] at e; cases e
        · rw [hv] at e
          have e : g' = c := by simpa [Value.ownBlock] using e
          rw [e, show w.heap[c]? = _ from q] at hc2
          injection hc2 with q2
          injection q2 with _ q2 _
          exact absurd q2 (by decide)
    · have e0 : i = bs.length := by
        have := (List.getElem?_eq_some_iff.1 hc).1
        simp at this
        omega
      rw [e0, List.getElem?_append_right (Nat.le_refl _), Nat.sub_self] at hc
      simp at hc
      subst hc
      rw [e0, h.len]
      exact h2

theorem Few.old {w : World} {B A : Nat} {bs : List Nat} {g : Nat} {tv : Value} {j : Nat} (h : Few w B A bs g tv j) {b : Nat} (hb : w.heap.size ≤ b) : b ∉ bs := fun hm => by
  obtain ⟨i, hi⟩ := List.getElem?_of_mem hm
  have := lt_of_heap (h.leaf i b hi)
  omega

set_option maxRecDepth 100000 in
set_option maxHeartbeats 3200000 in
theorem New_any (w : World) : Calls Tryz.prog 7 #[] w fun e w' => ∃ A bs g tv, e = .returned (.pointer (some ⟨A, 0, none⟩)) ∧ Few w' w.heap.size A bs g tv 10 ∧ Up w w' := by
  have X0 := Lib.hid (alloc_get w (.cells #[.slice none 0 0, .map none, .map none] ArT (0, 0)))
  go_enter Tryz.func7, Tryz.ntmps7
  go_wp2_with fail
  refine range_named fun A W hA hW => ?_
  have hb : W.heap[w.heap.size]? = some (.cells #[.slice none 0 0, .map none, .map none] ArT (0, 0)) := by subst hW; exact X0.out
  have hUW : Up w W := by subst hW; exact uq
  clear hW
  subst hA
  go_loopw [2] (fun i wr => ∃ j : Nat, j ≤ 10 ∧ i = .int .i64 ((j : Int) + 1) ∧ Up w wr ∧ ((j = 0 ∧ wr.heap[w.heap.size]? = some (.cells #[.slice none 0 0, .map none, .map none] ArT (0, 0))) ∨ (0 < j ∧ ∃ bs g tv, Few wr w.heap.size w.heap.size bs g tv j))) (fun i _ => 11 - (intOf i).toNat)
  case atStart => exact ⟨0, Nat.zero_le _, rfl, hUW, .inl ⟨rfl, hb⟩⟩
  case round =>
    obtain ⟨j, hj, rfl, hup, hq⟩ := hrel
    by_cases hlt : j < 10
    · have hji : (j : Int) + 1 ≤ 10 := by omega
      have hsz := hup.size
      rcases hq with ⟨rfl, hf⟩ | ⟨hj0, bs, g, tv, hf⟩
      · have HF := Lib.hid hf
        have hal := lt_of_heap hf
        clear hf hlt
        go_wp2_with (first | (go_at_call 22; refine (basic_any _ _).mono ?_; rintro e w3 ⟨b, rfl, hb3, hl3, hu3⟩) | (go_at_call 21; refine (lay_first w.heap.size w.heap.size b _ (by decide) (by decide) _ (hu3.get HF.out) hb3 (Nat.le_refl _) (by omega)).mono ?_; rintro e w4 ⟨rfl, ⟨g, tv', h1⟩, h2, h3⟩))
        refine ⟨⟨1, by omega, by simp, Below.trans (Up.trans hup hu3) h3.low, .inr ⟨by omega, [b], g, tv', h1, rfl, fun i c hc => ?_⟩⟩, by simp [intOf]⟩
        cases i with
        | zero => simp at hc; subst hc; exact h2
        | succ i => simp at hc
      · have HF := Lib.hid hf
        have hk1 : Hid (1 ≤ (j : Int) + 1 ∧ (j : Int) + 1 ≤ 10) := ⟨by omega, hji⟩
        have hjl := hf.len
        clear hf hj0
        go_wp2_with (first | (go_at_call 22; refine (basic_any _ _).mono ?_; rintro e w3 ⟨b, rfl, hb3, hl3, hu3⟩) | (go_at_call 21; refine (lay_new w.heap.size w.heap.size b g bs (wordsL j) tv (wordS ((j : Int) + 1)) (fun cs => cs = leafC ((j : Int) + 1) (wordS ((j : Int) + 1))) (.slice none 0 0) [] _ _ (HF.out.up hu3).ar hb3 (by omega) (HF.out.old hl3) (leaf_text b _ hk1.out.1 hk1.out.2 _ hb3) (by rintro cs rfl; exact ⟨rfl, rfl⟩) (word_ne _) (word_new j hlt) (Parts.nil _) (by simp) (by intro g' off cap he; cases he) (by omega)).mono ?_; rintro e w4 ⟨rfl, ⟨tv', h1⟩, ⟨cs, h2, rfl⟩, h3⟩))
        exact ⟨⟨j + 1, by omega, by simp, Below.trans (Up.trans hup hu3) h3.low, .inr ⟨by omega, bs ++ [b], g, tv', (HF.out.up hu3).next h1 h2 h3 (HF.out.old hl3)⟩⟩, by simp [intOf]; omega⟩
    · obtain rfl : j = 10 := by omega
      rcases hq with ⟨h9, _⟩ | ⟨_, bs, g, tv, hf⟩
      · omega
      clear hlt
      go_wp2_with fail
      refine bodyPost_eq (by (simp [results, Tryz.results7, go_sem, *]) <;> rfl) rfl rfl ?_
      exact ⟨w.heap.size, bs, g, tv, rfl, hf, uq⟩

end Go.Proofs.YtbghpkoimbmijaaGreatDoor
