import Derived.Test.YtbghpkoimbmijaaGreatDoorKO
/- Walks: the union of false, true and never; known. -/
namespace Go.Proofs.YtbghpkoimbmijaaGreatDoor
open Go.RowKit
set_option linter.unusedSimpArgs false

def boolS : ByteArray := ⟨#[102, 97, 108, 115, 101, 32, 124, 32, 116, 114, 117, 101]⟩

theorem Few.size {w : World} {B A : Nat} {bs : List Nat} {g : Nat} {tv : Value} (h : Few w B A bs g tv 10) (i : Nat) (hi : i < 10) : ∃ b, bs[i]? = some b ∧ Leaf w b ((i : Int) + 1) (wordS ((i : Int) + 1)) := by
  have hl := h.len
  exact ⟨_, List.getElem?_eq_getElem (by omega), h.leaf i _ (List.getElem?_eq_getElem (by omega))⟩

theorem leaf_ne {w : World} {b c : Nat} {k l : Int} {s t : ByteArray} (h : Leaf w b k s) (h' : Leaf w c l t) (hk : k ≠ l) : b ≠ c := fun e => by
  subst e
  unfold Leaf at h h'
  rw [h] at h'
  injection h' with h'
  injection h' with h' _ _
  injection h' with h'
  injection h' with h' _
  injection h' with _ h'
  exact hk h'

theorem leaf_item {w : World} {b : Nat} {k : Int} (h : Leaf w b k (wordS k)) : Item w b k (wordS k) := ⟨_, h, rfl, rfl, word_ne _⟩

theorem bool_new : boolS ∉ wordsL 10 := by
  intro hm
  have hm := List.mem_map_of_mem (f := fun s : ByteArray => s.data.toList) hm
  exact absurd hm (by decide +kernel)

theorem bool_join : joinS [partS 10 (wordS 10), partS 9 (wordS 9)] = boolS := by decide +kernel

/-- what stands when the union was taken -/
structure Bools (w : World) (B A : Nat) (bs : List Nat) (g : Nat) : Prop where
  ar : ∃ tv' c, Ar w B A (bs ++ [c]) (wordsL 10 ++ [boolS]) tv' (.map (some g))
  len : bs.length = 10

set_option maxRecDepth 100000 in
set_option maxHeartbeats 3200000 in
theorem Union_known (B A g : Nat) (bs : List Nat) (tv : Value) (q cap : Nat) (w : World) (h : Few w B A bs g tv 10) (hq : q < w.heap.size) (h0 : w.cell? ⟨q, 0, none⟩ = some (.int .i64 9)) (h1 : w.cell? ⟨q, 1, none⟩ = some (.int .i64 8)) (h2 : w.cell? ⟨q, 2, none⟩ = some (.int .i64 2)) :
    Calls Tryz.prog 14 #[.pointer (some ⟨A, 0, none⟩), .slice (some ⟨q, 0, none⟩) 3 cap] w fun e w' => e = .returned (.tuple #[.int .i64 10, .int .i64 0]) ∧ Bools w' B A bs g ∧ Below B w w' := by
  obtain ⟨b9, e9, l9⟩ := h.size 9 (by omega)
  obtain ⟨b8, e8, l8⟩ := h.size 8 (by omega)
  obtain ⟨b2, e2, l2⟩ := h.size 2 (by omega)
  have n98 := leaf_ne l9 l8 (by decide)
  have n92 := leaf_ne l9 l2 (by decide)
  have n82 := leaf_ne l8 l2 (by decide)
  obtain ⟨kd, hkd⟩ : ∃ kd : Nat → Int, Hid (kd = fun b => if b = b9 then 10 else if b = b8 then 9 else 3) := ⟨_, rfl⟩
  have k9 : kd b9 = 10 := by rw [hkd.out]; simp
  have k8 : kd b8 = 9 := by rw [hkd.out]; simp [n98.symm]
  have k2 : kd b2 = 3 := by rw [hkd.out]; simp [n92.symm, n82.symm]
  have HK := Lib.hid (And.intro k9 (And.intro k8 k2))
  have HL := Lib.hid (And.intro (show Leaf w b9 10 (wordS 10) from l9) (And.intro (show Leaf w b8 9 (wordS 9) from l8) (show Leaf w b2 3 (wordS 3) from l2)))
  have HF := Lib.hid h
  have hBw : B ≤ w.heap.size := Nat.le_trans h.ar.base (Nat.le_of_lt (lt_of_heap h.ar.head))
  have hz : Hid (∀ (j z : Nat), [9, 8, 2][j]? = some z → ∃ b off, (some (⟨q, 0, none⟩ : Addr)) = some ⟨b, off, none⟩ ∧ b < w.heap.size ∧ w.cell? ⟨b, off + j, none⟩ = some (.int .i64 z)) := fun j z hz => by
    match j, hz with
    | 0, hz => simp at hz; subst hz; exact ⟨q, 0, rfl, hq, h0⟩
    | 1, hz => simp at hz; subst hz; exact ⟨q, 0, rfl, hq, h1⟩
    | 2, hz => simp at hz; subst hz; exact ⟨q, 0, rfl, hq, h2⟩
    | j + 3, hz => simp at hz
  have hxs : Hid ([9, 8, 2].map (fun z => ptrV (bs.getD z 0)) = [b9, b8, b2].map ptrV) := by
    unfold Hid
    simp only [List.map_cons, List.map_nil, List.getD_eq_getElem?_getD, e9, e8, e2, Option.getD_some]
  have hblen := h.len
  have hin : ∀ x ∈ bs, x < w.heap.size := fun x hx => by
    obtain ⟨i, hi⟩ := List.getElem?_of_mem hx
    exact lt_of_heap (h.leaf i x hi)
  have HB := Lib.hid (And.intro hBw (And.intro hblen hin))
  clear h h0 h1 h2 l9 l8 l2 k9 k8 k2 e9 e8 e2 hBw hblen hin
  -- the union, of whatever list
  have hun : Hid (∀ (W : World) (v : Value), Up w W → W.ownsRow 0 TpT 1 v 3 ([9, 8, 2].map fun z => ptrV (bs.getD z 0)) → ∃ a c, v = .slice a 3 c ∧ Calls Tryz.prog 33 #[v] W fun e w' => ∃ c g2 cs2 fz, e = .returned (.pointer (some ⟨c, 0, none⟩)) ∧ W.heap.size ≤ c ∧ W.heap.size ≤ g2 ∧ w'.heap[c]? = some (.cells #[.int .i64 16, .int .i64 0, .string ⟨#[]⟩, .slice (some ⟨g2, 0, none⟩) 2 2, .slice none 0 0, .slice none 0 0, .int .i64 (3 : Nat), .string ⟨#[]⟩] TyT (0, 0)) ∧
      w'.heap[g2]? = some (.cells cs2 TpT fz) ∧ cs2[0]? = some (ptrV b9) ∧ cs2[1]? = some (ptrV b8) ∧ Up W w') := fun W v hW hv => by
    rw [hxs.out] at hv
    obtain ⟨gr, rcap, cur, rfl, hgr, hrc, hcur⟩ := row_cells_gen hv (by decide)
    refine ⟨_, _, rfl, ?_⟩
    have L9 := hW.get HL.out.1
    have L8 := hW.get HL.out.2.1
    have L2 := hW.get HL.out.2.2
    have hall : ∀ x ∈ [b9, b8, b2], Leaf W x (kd x) (wordS (kd x)) ∧ (kd x = 10 ∨ kd x = 9 ∨ kd x = 3) := fun x hx => by
      rcases List.mem_cons.1 hx with rfl | hx
      · rw [HK.out.1]; exact ⟨L9, .inl rfl⟩
      rcases List.mem_cons.1 hx with rfl | hx
      · rw [HK.out.2.1]; exact ⟨L8, .inr (.inl rfl)⟩
      rcases List.mem_cons.1 hx with rfl | hx
      · rw [HK.out.2.2]; exact ⟨L2, .inr (.inr rfl)⟩
      · cases hx
    refine union_two kd (fun b => wordS (kd b)) (fun _ => 1) b9 b8 [b9, b8, b2] gr 0 rcap cur W hgr (fun j x hx => hcur j (ptrV x) (by rw [List.getElem?_map, hx]; rfl)) (by simp) (fun x hx => ?_) (fun x hx => ?_) ?_ ?_ ?_ (fun x hx => ?_)
    · obtain ⟨h1, h2⟩ := hall x hx
      refine ⟨leaf_item h1, ?_, ?_⟩ <;> rcases h2 with h2 | h2 | h2 <;> rw [h2] <;> decide
    · obtain ⟨h1, h2⟩ := hall x hx
      refine ⟨?_, ?_, ?_⟩ <;> rcases h2 with h2 | h2 | h2 <;> rw [h2] <;> decide
    · simp [HK.out.1, HK.out.2.1, HK.out.2.2, goesK]
    · rw [HK.out.1, HK.out.2.1]; decide +kernel
    · rw [HK.out.1, HK.out.2.1]; decide +kernel
    · obtain ⟨h1, h2⟩ := hall x hx
      refine ⟨cell_of h1 6, by decide, ?_⟩
      rcases h2 with h2 | h2 | h2 <;> rw [h2] <;> decide +kernel
  -- what is kept
  have hkp : Hid (∀ (W : World) (c g2 : Nat) (cs2 : Array Value) (fz : Nat × Nat), Up w W → w.heap.size ≤ c → W.heap[c]? = some (.cells #[.int .i64 16, .int .i64 0, .string ⟨#[]⟩, .slice (some ⟨g2, 0, none⟩) 2 2, .slice none 0 0, .slice none 0 0, .int .i64 (3 : Nat), .string ⟨#[]⟩] TyT (0, 0)) →
      W.heap[g2]? = some (.cells cs2 TpT fz) → cs2[0]? = some (ptrV b9) → cs2[1]? = some (ptrV b8) → Calls Tryz.prog 25 #[.pointer (some ⟨A, 0, none⟩), .pointer (some ⟨c, 0, none⟩)] W fun e w' => e = .returned (.tuple #[.int .i64 10, .int .i64 0]) ∧ Bools w' B A bs g ∧ Below B W w') := fun W c g2 cs2 fz hW hc hcc hg2 hc0 hc1 => by
    have L9 := hW.get HL.out.1
    have L8 := hW.get HL.out.2.1
    have i9 : Item W b9 10 (wordS 10) := leaf_item L9
    have i8 : Item W b8 9 (wordS 9) := leaf_item L8
    have hgc : g2 ≠ c := fun e => by
      rw [e, hcc] at hg2
      injection hg2 with hg2
      injection hg2 with _ hg2 _
      exact absurd hg2 (by decide)
    have hT : TwoAt W g2 0 b9 b8 10 9 (wordS 10) (wordS 9) := ⟨i9, i8, (cell_of hg2 0).trans hc0, (cell_of hg2 1).trans hc1, lt_of_heap hg2, by decide +kernel, by decide +kernel⟩
    have hps : Parts W (.slice (some ⟨g2, 0, none⟩) 2 2) [(b9, 1), (b8, 1)] := parts_two hT ⟨cell_of L9 6, by decide, lt_of_heap L9⟩ ⟨cell_of L8 6, by decide, lt_of_heap L8⟩
    have hbj : joinS ([b9, b8].map fun z => partS (kd z) (wordS (kd z))) = boolS := by
      rw [← bool_join]
      simp only [List.map_cons, List.map_nil, HK.out.1, HK.out.2.1]
    have htx := text_new c boolS _ W hcc rfl (fun X hX => by
      have hg2' := hX.get hg2
      have := spelled_union kd (fun b => wordS (kd b)) [b9, b8] c g2 0 2 cs2 fz _ X (hX.get hcc) rfl rfl hg2' (fun j x hx => by
        match j, hx with
        | 0, hx => simp at hx; subst hx; exact hc0
        | 1, hx => simp at hx; subst hx; exact hc1
        | j + 2, hx => simp at hx) (by simp) (by simp) (fun x hx => by
        rcases List.mem_cons.1 hx with rfl | hx
        · rw [HK.out.1]; exact ⟨i9.up hX, by decide +kernel⟩
        rcases List.mem_cons.1 hx with rfl | hx
        · rw [HK.out.2.1]; exact ⟨i8.up hX, by decide +kernel⟩
        · cases hx) (by
        simp only [List.map_cons, List.map_nil, HK.out.1, HK.out.2.1]
        decide +kernel)
      rw [hbj] at this
      exact this)
    refine (keep_small A c 3 _ (fun n w' => n = 10 ∧ Bools w' B A bs g ∧ Below B W w') W hcc rfl (by decide) ?_).mono ?_
    · refine (lay_new B A c g bs (wordsL 10) tv boolS _ (.slice (some ⟨g2, 0, none⟩) 2 2) [(b9, 1), (b8, 1)] _ W (HF.out.ar.up hW) hcc (Nat.le_trans HB.out.1 hc) (fun hm => by have := HB.out.2.2 c hm; omega) htx (by rintro cs rfl; exact ⟨rfl, rfl⟩) (by decide +kernel) bool_new hps (fun x hx => ?_) (fun g' off cap he => ?_) (by rw [HB.out.2.1]; decide)).mono ?_
      · rcases List.mem_cons.1 hx with rfl | hx
        · exact ⟨9, wordS 10, i9.said, (fun e => by have := lt_of_heap HL.out.1; have e : b9 = c := e; omega), word_ne _, by decide +kernel⟩
        rcases List.mem_cons.1 hx with rfl | hx
        · exact ⟨8, wordS 9, i8.said, (fun e => by have := lt_of_heap HL.out.2.1; have e : b8 = c := e; omega), word_ne _, by decide +kernel⟩
        · cases hx
      · cases he; exact hgc
      · rintro e w' ⟨rfl, ⟨tv', hA⟩, _, hk⟩
        exact ⟨bs.length, rfl, HB.out.2.1, ⟨⟨tv', c, hA⟩, HB.out.2.1⟩, hk.low⟩
    · rintro e w' ⟨n, rfl, rfl, h1, h2⟩
      exact ⟨rfl, h1, h2⟩
  go_enter Tryz.func14, Tryz.ntmps14
  go_wp2_with (first | (go_at_call 23; refine (all_any A tv (.map (some g)) bs [9, 8, 2] _ cap _ (Up.get (w := w) uq HF.out.ar.head) (ownsRow_up HF.out.ar.row uq) hz.out (by rw [HB.out.2.1]; decide) (by decide)).mono ?_; rintro e w2 ⟨v, rfl, hv, hvb, hu2⟩; obtain ⟨va, vc, hve, hcall⟩ := hun.out _ v hu2 hv; subst hve; have HCA := Lib.hid hcall; clear hv hvb hcall) | (go_at_call 33; refine HCA.out.mono ?_; rintro e w3 ⟨c, g2, cs2, fz, rfl, hc1, hc2, hc3, hc4, hc5, hc6, hu3⟩; have HC3 := Lib.hid (And.intro hc1 (And.intro hc3 (And.intro hc4 (And.intro hc5 hc6)))); clear hc1 hc2 hc3 hc4 hc5 hc6) | (go_at_call 25; refine (hkp.out _ c g2 cs2 fz uq (Nat.le_trans hu2.size HC3.out.1) HC3.out.2.1 HC3.out.2.2.1 HC3.out.2.2.2.1 HC3.out.2.2.2.2).mono ?_; rintro e w4 ⟨rfl, hb4, hl4⟩))
  refine bodyPost_ret (v := .tuple #[.int .i64 10, .int .i64 0]) (by simp [results, Tryz.results14, go_sem]) rfl ?_
  have hu : Up w w3 := uq
  exact ⟨rfl, hb4, Below.trans (Below.mono hu HB.out.1) hl4⟩

end Go.Proofs.YtbghpkoimbmijaaGreatDoor
