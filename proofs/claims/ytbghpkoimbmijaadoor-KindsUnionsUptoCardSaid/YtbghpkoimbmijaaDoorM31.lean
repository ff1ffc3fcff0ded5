import Derived.Test.YtbghpkoimbmijaaDoorM30
import Derived.Test.YtbghpkoimbmijaaDoorM23
import Derived.Test.YtbghpkoimbmijaaDoorM29
/- YtbghpkoimbmijaaDoorM31: lemmas of the proof, in order: LD, KP, KQ, AN, LE. -/
/- Walk: a type laid in an arena, part by part. -/
namespace Go.Proofs.YtbghpkoimbmijaaDoor
open Go.RowKit
set_option linter.unusedSimpArgs false
set_option linter.unusedVariables false

/-- laid, of a tree -/
def LaidAny (t : Ty) : Prop := ∀ (us : List Value) (w : World) (B A : Nat) (bs : List Nat) (ts : List Ty) (tv mv dv : Value) (m : Int), TIs B w us t → Are w B A bs ts tv mv dv → GlobB B w → w.cell? ⟨1, 0, none⟩ = some (.int .i64 m) → 1 < B → bs.length + 100 * t.nodes ≤ 400000 → t.nodes ≤ 60 →
  Calls Tryd.prog 7 #[.pointer (some ⟨A, 0, none⟩), .agg us.toArray] w (LaidR B A bs ts tv mv dv w t.nodes)

set_option maxRecDepth 100000 in
set_option maxHeartbeats 6400000 in
theorem laid_any : ∀ (c : Nat) (t : Ty), t.nodes ≤ c → LaidAny t := by
  intro c
  induction c with
  | zero => intro t h; have := t.nodes_pos; omega
  | succ c ih =>
    intro t hc us w B A bs ts tv mv dv m h hA hG hM hMB hf h60
    have hBw := hA.lt
    have a4 := lt_of_heap hA.head
    cases h with
    | @mk k n nm pa cap nv kv ps ns ms us hn1 hn2 hnm hnv hln hsm hmv hlm hl hpl hpc hcc hq =>
      have hsum : Hid (1 + sumN ps = (Ty.mk k n nm ps ns ms).nodes) := (Ty.nodes_mk _ _ _ _ _ _).symm
      obtain ⟨N, hN⟩ : ∃ N, Hid ((Ty.mk k n nm ps ns ms).nodes = N) := ⟨_, rfl⟩
      rw [hN.out] at hc hf h60 hsum ⊢
      have HP := Lib.hid (fun (j : Nat) (hj : j < ps.length) => parts_at hl hcc hq hj)
      have IH := Lib.hid ih
      have H0 := Lib.hid (And.intro hA (And.intro hG (And.intro hM (And.intro hMB (And.intro hf (And.intro h60 (And.intro hBw hc)))))))
      have HNV := Lib.hid (And.intro hnv (And.intro hln (And.intro hsm (And.intro hmv (And.intro hlm (And.intro hnm (And.intro hn1 hn2)))))))
      obtain ⟨na, ncap, rfl, _, _⟩ := hnv.form
      obtain ⟨ma, mcap, rfl, _, _⟩ := hmv.form
      obtain ⟨nl, hnl⟩ : ∃ nl, Hid ((ns.map Value.string).length = nl) := ⟨_, rfl⟩
      obtain ⟨ml, hml⟩ : ∃ ml, Hid ((ms.map Value.bool).length = ml) := ⟨_, rfl⟩
      rw [hnl.out, hml.out]
      have hpl60 : ps.length ≤ 60 := by have := sumN_length ps; have := hsum.out; omega
      clear ih hA hG hM hMB hf h60 hBw hc hl hcc hq hnv hln hsm hmv hlm hnm hn1 hn2
      go_enter Tryd.func7, Tryd.ntmps7
      go_wp2_with fail
      refine range_named fun A2 W2 hA2 hW2 => ?_
      have hu0 : Hid (Up w W2) := by subst hW2; exact uq
      obtain ⟨q, hq⟩ : ∃ q, Hid (w.heap.size = q) := ⟨_, rfl⟩
      have HQ : Hid (W2.heap[q]? = some (.cells #[.int .i64 k, .int .i64 n, .string nm, .slice pa ps.length cap, .slice na nl ncap, .slice ma ml mcap] RefT (0, 0))) := by subst hW2; rw [← hq.out]; exact alloc_at _ _ _ rfl
      rw [hq.out] at hA2
      clear hW2
      subst hA2
      have hB2 : Hid (B ≤ W2.heap.size) := Nat.le_trans H0.out.2.2.2.2.2.2.1 hu0.out.size
      have hA2 := Lib.hid (H0.out.1.up hu0.out)
      have hnq := Lib.hid (hA2.out.not_own HQ.out)
      go_loopw [6, 7] (fun lv i wr => ∃ j : Nat, j ≤ ps.length ∧ i = .int .i64 j ∧ ∃ bs1 ts1 tv1 mv1 zs us, LaidS B A bs ts tv mv dv W2 ps j j lv bs1 ts1 tv1 mv1 zs us wr) (fun _ i _ => ps.length - (intOf i).toNat)
      case atStart =>
        refine ⟨0, Nat.zero_le _, rfl, [], [], tv, mv, [], [], hB2.out, ?_, LayM.refl _ _ _ _ _, Nat.zero_le _, rfl, rfl, Nat.zero_le _, (show W2.ownsRow 0 IntT 1 (.slice none 0 0) 0 [] from ⟨rfl, .inl ⟨rfl, rfl⟩⟩), fun g hg => by simp [Value.ownBlock] at hg⟩
        rw [List.append_nil, List.append_nil]
        exact hA2.out
      case round =>
        obtain ⟨j, hj, rfl, bs1, ts1, tv1, mv1, zs, us, hS⟩ := hrel
        have hbel : Below B w wr := Below.trans (hu0.out.below H0.out.2.2.2.2.2.2.1) (hS.lay.memo.below hB2.out)
        have hBr : B ≤ wr.heap.size := Nat.le_trans H0.out.2.2.2.2.2.2.1 hbel.size
        have HQr := Lib.hid (hS.lay.memo.cells HQ.out (by decide) hnq.out)
        obtain ⟨la, lcap, rfl⟩ := ownsRow_form hS.row
        have hAr := lt_of_heap hS.are.head
        have x0 := cell_of HQr.out 0; have x1 := cell_of HQr.out 1; have x2 := cell_of HQr.out 2; have x3 := cell_of HQr.out 3; have x4 := cell_of HQr.out 4; have x5 := cell_of HQr.out 5; have xl := lt_of_heap HQr.out; simp only [List.getElem?_toArray, List.getElem?_cons_zero, List.getElem?_cons_succ] at x0 x1 x2 x3 x4 x5
        by_cases hlt : j < ps.length
        · have hji : (j : Int) < ps.length := by omega
          obtain ⟨p, b, off, u0, u1, u2, u3, u4, u5, hp, rfl, hb, c0, c1, c2, c3, c4, c5, ht⟩ := HP.out j hlt
          have hbl : b < wr.heap.size := by omega
          have c0 := (Below.cell (p := ⟨b, _, none⟩) hbel hb).trans c0
          have c1 := (Below.cell (p := ⟨b, _, none⟩) hbel hb).trans c1
          have c2 := (Below.cell (p := ⟨b, _, none⟩) hbel hb).trans c2
          have c3 := (Below.cell (p := ⟨b, _, none⟩) hbel hb).trans c3
          have c4 := (Below.cell (p := ⟨b, _, none⟩) hbel hb).trans c4
          have c5 := (Below.cell (p := ⟨b, _, none⟩) hbel hb).trans c5
          have HT := Lib.hid (fun W (hW : Up wr W) => IH.out p (by have := sumN_mem (List.mem_of_getElem? hp); have := hsum.out; have := H0.out; omega) [u0, u1, u2, u3, u4, u5] W B A (bs ++ bs1) (ts ++ ts1) tv1 mv1 dv m (ht.low (Below.trans hbel (hW.below hBr))) (hS.are.up hW) (((H0.out.2.1.memo (Memo.of_up none1 B hu0.out)).memo hS.lay.memo).memo (Memo.of_up none1 B hW)) ((hW.cells _ _ (by have := H0.out.2.2.2.1; omega)).trans ((Below.cell (p := ⟨1, 0, none⟩) hbel H0.out.2.2.2.1).trans H0.out.2.2.1)) H0.out.2.2.2.1 (by
            have h1 := hS.few
            have h2 := sumN_next hp
            have h3 := sumN_take ps (j + 1)
            have h4 := hsum.out
            have h5 := H0.out.2.2.2.2.1
            rw [List.length_append]
            omega) (by have := sumN_mem (List.mem_of_getElem? hp); have := hsum.out; have := H0.out.2.2.2.2.2.1; omega))
          have HS := Lib.hid (And.intro hS hp)
          obtain ⟨i0, hi, hz0, hz1, hz2⟩ := info_parts int_info
          clear hS hp ht hlt hbel
          go_wp2_with (first
            | (go_at_call 7; refine (HT.out _ (show Up wr _ from uq)).mono ?_; intro e w3 hR; obtain ⟨i3, ok, bs2, ts2, tv2, mv2, rfl, hS2, hx⟩ := HS.out.1.called (show Up wr _ from uq) HS.out.2 hR; have HS2 := Lib.hid (And.intro hS2 hx); clear hR hS2 hx; (rcases ok with _ | _))
            | (at_builtin; go_must (refine wpList_append_new rfl _ _ 36 rfl IntT i0 (.int .i64 0) 1 8 Tryd.underlying36 hi hz0 hz1 hz2 rfl (by decide) (.slice la j lcap) j (zs.map numV) rfl (ownsRow_up HS2.out.1.row uq) _ 1 1 rfl (by first | rfl | (simp; done) | omega) rfl (by intro u hu; have hu2 : u = .int .i64 i3 := (by simpa using hu); rw [hu2]; rfl) (by unfold maxLen; omega) (by omega) ?_; intro sa' cap' w7 hown' hgrow hblk; (try simp only [World.size_alloc] at hblk); have HY := Lib.hid (And.intro hown' (And.intro hgrow hblk)); clear hown' hgrow hblk)))
          · refine bodyPost_ret (v := .tuple #[.int .i64 0, .bool false]) (by simp [results, Tryd.results7, go_sem]) rfl ?_
            exact (HS2.out.1.stop (by have := hsum.out; omega) (show Up w3 _ from uq)).from_ hu0.out
          · obtain ⟨x, hx1, hx2⟩ := HS2.out.2 (by first | rfl | trivial)
            exact ⟨⟨j + 1, by omega, by simp, bs2, ts2, tv2, mv2, zs ++ [i3], us ++ [x], HS2.out.1.grown (show Up w3 _ from uq) HS.out.2 hx1 hx2 HY.out.1 HY.out.2.1 HY.out.2.2⟩, by simp [intOf]; omega⟩
        · obtain rfl : j = ps.length := by omega
          have hsz : Hid (sumN us ≤ sumN ps) := by have := hS.size; rw [List.take_length] at this; exact this
          have hfit := Lib.hid (fit_of hS.are hS.ids (by have := hsz.out; have := hsum.out; have := H0.out.2.2.2.2.2.1; omega))
          have hbs : Hid ((bs ++ bs1).length ≤ 500000) := by
            unfold Hid
            have h1 := hS.few
            have h3 := sumN_take ps ps.length
            have h4 := hsum.out
            have h5 := H0.out.2.2.2.2.1
            rw [List.length_append]
            omega
          have hG1 := Lib.hid (fun W (hW : Up wr W) => ((H0.out.2.1.memo (Memo.of_up none1 B hu0.out)).memo hS.lay.memo).memo (Memo.of_up none1 B hW))
          have hid := Lib.hid (ids_row hS.row hS.len)
          have HS := Lib.hid hS
          have HB := Lib.hid (And.intro hbel hBr)
          clear hS hlt hbel hBr
          by_cases hk : k = 16
          · have HU : Hid (∀ W, Up wr W → Calls Tryd.prog 8 #[.pointer (some ⟨A, 0, none⟩), .slice la ps.length lcap] W (UniR B A (bs ++ bs1) (ts ++ ts1) tv1 mv1 dv W (unionC (us.map Ty.canon)))) := fun W hW => by
              have q := Union_in B A (bs ++ bs1) (ts ++ ts1) tv1 mv1 dv zs us la lcap W (HS.out.are.up hW) (hid.out.up hW) HS.out.ids hfit.out (hG1.out W hW) hbs.out
              rw [HS.out.len] at q
              exact q
            subst hk
            go_wp2_with (first | (go_at_call 8; refine (HU.out _ (show Up wr _ from uq)).mono ?_; rintro e w5 ⟨u, w4, hv, hcn, hm4, hK⟩; obtain ⟨i5, rfl, hR⟩ := HS.out.done hsum.out H0.out.2.2.2.2.2.1 (show Up wr _ from uq) hm4 hK hv (by rw [← Ty.nodes_canon, hcn]; have h1 := unionC_nodes (us.map Ty.canon); rw [List.map_map, show (Ty.nodes ∘ Ty.canon) = Ty.nodes from funext Ty.nodes_canon] at h1; have h2 := hsz.out; have := hsum.out; unfold sumN at *; omega); have HR := Lib.hid (hR.from_ hu0.out); clear hv hcn hm4 hK hR))
            refine bodyPost_ret (v := .tuple #[.int .i64 i5, .bool true]) (by simp [results, Tryd.results7, go_sem]) rfl ?_
            exact HR.out
          · have HF : Hid (∀ W, Up wr W → Calls Tryd.prog 14 #[.pointer (some ⟨A, 0, none⟩), typV k n nm (.slice la ps.length lcap) (.slice na nl ncap) (.slice ma ml mcap)] W fun e w' => (e = .returned (.tuple #[.int .i64 0, .int .i64 1]) ∧ Up W w') ∨ ∃ i : Nat, e = .returned (.tuple #[.int .i64 i, .int .i64 0]) ∧ LaidR B A bs ts tv mv dv w N (.returned (.tuple #[.int .i64 i, .bool true])) w') := fun W hW => by
              have hbw : Below B w W := Below.trans HB.out.1 (hW.below HB.out.2)
              have q := Find_any (fun x => x < B) B A (bs ++ bs1) (ts ++ ts1) tv1 mv1 dv zs us la lcap k n nm _ _ ns ms m W ⟨HS.out.are.up hW, hid.out.up hW, HS.out.ids, hfit.out, hG1.out W hW, hbs.out, HNV.out.1.below hbw, HNV.out.2.2.2.1.below hbw, HNV.out.2.1, HNV.out.2.2.2.2.1, HNV.out.2.2.1, HNV.out.2.2.2.2.2.1, (Below.cell (p := ⟨1, 0, none⟩) hbw H0.out.2.2.2.1).trans H0.out.2.2.1⟩ HNV.out.2.2.2.2.2.2.1 HNV.out.2.2.2.2.2.2.2
              rw [HS.out.len, hnl.out, hml.out] at q
              refine q.mono ?_
              rintro e w5 (⟨rfl, hu5⟩ | ⟨hv, w4, hm4, hK⟩)
              · exact .inl ⟨rfl, hu5⟩
              · obtain ⟨i5, rfl, hR⟩ := HS.out.done hsum.out H0.out.2.2.2.2.2.1 hW hm4 hK hv (by rw [Ty.nodes_mk]; have h2 := hsz.out; have := hsum.out; unfold sumN at *; omega)
                exact .inr ⟨i5, rfl, hR.from_ hu0.out⟩
            go_wp2_with (first | (go_at_call 14; refine (HF.out _ (show Up wr _ from uq)).mono ?_; (rintro e w5 (⟨rfl, hu5⟩ | ⟨i5, rfl, hR⟩))))
            · refine bodyPost_ret (v := .tuple #[.int .i64 0, .bool false]) (by simp [results, Tryd.results7, go_sem]) rfl ?_
              exact (HS.out.stop (by have := hsum.out; omega) (show Up wr _ from uq)).from_ hu0.out
            · refine bodyPost_ret (v := .tuple #[.int .i64 i5, .bool true]) (by simp [results, Tryd.results7, go_sem]) rfl ?_
              exact hR

end Go.Proofs.YtbghpkoimbmijaaDoor

/- Walks: the union of false, true and never; known. -/
namespace Go.Proofs.YtbghpkoimbmijaaDoor
open Go.RowKit
set_option linter.unusedSimpArgs false

def boolS : ByteArray := ⟨#[102, 97, 108, 115, 101, 32, 124, 32, 116, 114, 117, 101]⟩

theorem Few.size {w : World} {B A : Nat} {bs : List Nat} {g : Nat} {tv : Value} (h : Few w B A bs g tv 10) (i : Nat) (hi : i < 10) : ∃ b, bs[i]? = some b ∧ Leaf w b ((i : Int) + 1) (wordS ((i : Int) + 1)) := by
  have hl := h.len
  exact ⟨_, List.getElem?_eq_getElem (by omega), h.leaf i _ (List.getElem?_eq_getElem (by omega))⟩

theorem leaf_ne {w : World} {b c : Nat} {k l : Int} {s t : ByteArray} (h : Leaf w b k s) (h' : Leaf w c l t) (hk : k ≠ l) : b ≠ c := fun e => by
  subst e
  unfold Leaf at h h'
  rw [h] at h'
  injection h' with h'
  injection h' with h' _ _
  injection h' with h'
  injection h' with h' _
  injection h' with _ h'
  exact hk h'

theorem leaf_item {w : World} {b : Nat} {k : Int} (h : Leaf w b k (wordS k)) : Item w b k (wordS k) := ⟨_, h, rfl, rfl, word_ne _⟩

theorem bool_new : boolS ∉ wordsL 10 := by
  intro hm
  have hm := List.mem_map_of_mem (f := fun s : ByteArray => s.data.toList) hm
  exact absurd hm (by decide +kernel)

theorem bool_join : joinS [partS 10 (wordS 10), partS 9 (wordS 9)] = boolS := by decide +kernel

/-- what stands when the union was taken -/
structure Bools (w : World) (B A : Nat) (bs : List Nat) (g : Nat) : Prop where
  ar : ∃ tv' c, Ar w B A (bs ++ [c]) (wordsL 10 ++ [boolS]) tv' (.map (some g))
  len : bs.length = 10

set_option maxRecDepth 100000 in
set_option maxHeartbeats 3200000 in
theorem Union_known (B A g : Nat) (bs : List Nat) (tv : Value) (q cap : Nat) (w : World) (h : Few w B A bs g tv 10) (hq : q < w.heap.size) (h0 : w.cell? ⟨q, 0, none⟩ = some (.int .i64 9)) (h1 : w.cell? ⟨q, 1, none⟩ = some (.int .i64 8)) (h2 : w.cell? ⟨q, 2, none⟩ = some (.int .i64 2)) :
    Calls Tryd.prog 8 #[.pointer (some ⟨A, 0, none⟩), .slice (some ⟨q, 0, none⟩) 3 cap] w fun e w' => e = .returned (.tuple #[.int .i64 10, .int .i64 0]) ∧ Bools w' B A bs g ∧ Below B w w' := by
  obtain ⟨b9, e9, l9⟩ := h.size 9 (by omega)
  obtain ⟨b8, e8, l8⟩ := h.size 8 (by omega)
  obtain ⟨b2, e2, l2⟩ := h.size 2 (by omega)
  have n98 := leaf_ne l9 l8 (by decide)
  have n92 := leaf_ne l9 l2 (by decide)
  have n82 := leaf_ne l8 l2 (by decide)
  obtain ⟨kd, hkd⟩ : ∃ kd : Nat → Int, Hid (kd = fun b => if b = b9 then 10 else if b = b8 then 9 else 3) := ⟨_, rfl⟩
  have k9 : kd b9 = 10 := by rw [hkd.out]; simp
  have k8 : kd b8 = 9 := by rw [hkd.out]; simp [n98.symm]
  have k2 : kd b2 = 3 := by rw [hkd.out]; simp [n92.symm, n82.symm]
  have HK := Lib.hid (And.intro k9 (And.intro k8 k2))
  have HL := Lib.hid (And.intro (show Leaf w b9 10 (wordS 10) from l9) (And.intro (show Leaf w b8 9 (wordS 9) from l8) (show Leaf w b2 3 (wordS 3) from l2)))
  have HF := Lib.hid h
  have hBw : B ≤ w.heap.size := Nat.le_trans h.ar.base (Nat.le_of_lt (lt_of_heap h.ar.head))
  have hz : Hid (∀ (j z : Nat), [9, 8, 2][j]? = some z → ∃ b off, (some (⟨q, 0, none⟩ : Addr)) = some ⟨b, off, none⟩ ∧ b < w.heap.size ∧ w.cell? ⟨b, off + j, none⟩ = some (.int .i64 z)) := fun j z hz => by
    match j, hz with
    | 0, hz => simp at hz; subst hz; exact ⟨q, 0, rfl, hq, h0⟩
    | 1, hz => simp at hz; subst hz; exact ⟨q, 0, rfl, hq, h1⟩
    | 2, hz => simp at hz; subst hz; exact ⟨q, 0, rfl, hq, h2⟩
    | j + 3, hz => simp at hz
  have hxs : Hid ([9, 8, 2].map (fun z => ptrV (bs.getD z 0)) = [b9, b8, b2].map ptrV) := by
    unfold Hid
    simp only [List.map_cons, List.map_nil, List.getD_eq_getElem?_getD, e9, e8, e2, Option.getD_some]
  have hblen := h.len
  have hin : ∀ x ∈ bs, x < w.heap.size := fun x hx => by
    obtain ⟨i, hi⟩ := List.getElem?_of_mem hx
    exact lt_of_heap (h.leaf i x hi)
  have HB := Lib.hid (And.intro hBw (And.intro hblen hin))
  clear h h0 h1 h2 l9 l8 l2 k9 k8 k2 e9 e8 e2 hBw hblen hin
  -- the union, of whatever list
  have hun : Hid (∀ (W : World) (v : Value), Up w W → W.ownsRow 0 TpT 1 v 3 ([9, 8, 2].map fun z => ptrV (bs.getD z 0)) → ∃ a c, v = .slice a 3 c ∧ Calls Tryd.prog 17 #[v] W fun e w' => ∃ c g2 cs2 fz, e = .returned (.pointer (some ⟨c, 0, none⟩)) ∧ W.heap.size ≤ c ∧ W.heap.size ≤ g2 ∧ w'.heap[c]? = some (.cells #[.int .i64 16, .int .i64 0, .string ⟨#[]⟩, .slice (some ⟨g2, 0, none⟩) 2 2, .slice none 0 0, .slice none 0 0, .int .i64 (3 : Nat), .string ⟨#[]⟩] TyT (0, 0)) ∧
      w'.heap[g2]? = some (.cells cs2 TpT fz) ∧ cs2[0]? = some (ptrV b9) ∧ cs2[1]? = some (ptrV b8) ∧ Up W w') := fun W v hW hv => by
    rw [hxs.out] at hv
    obtain ⟨gr, rcap, cur, rfl, hgr, hrc, hcur⟩ := row_cells_gen hv (by decide)
    refine ⟨_, _, rfl, ?_⟩
    have L9 := hW.get HL.out.1
    have L8 := hW.get HL.out.2.1
    have L2 := hW.get HL.out.2.2
    have hall : ∀ x ∈ [b9, b8, b2], Leaf W x (kd x) (wordS (kd x)) ∧ (kd x = 10 ∨ kd x = 9 ∨ kd x = 3) := fun x hx => by
      rcases List.mem_cons.1 hx with rfl | hx
      · rw [HK.out.1]; exact ⟨L9, .inl rfl⟩
      rcases List.mem_cons.1 hx with rfl | hx
      · rw [HK.out.2.1]; exact ⟨L8, .inr (.inl rfl)⟩
      rcases List.mem_cons.1 hx with rfl | hx
      · rw [HK.out.2.2]; exact ⟨L2, .inr (.inr rfl)⟩
      · cases hx
    refine union_two kd (fun b => wordS (kd b)) (fun _ => 1) b9 b8 [b9, b8, b2] gr 0 rcap cur W hgr (fun j x hx => hcur j (ptrV x) (by rw [List.getElem?_map, hx]; rfl)) (by simp) (fun x hx => ?_) (fun x hx => ?_) ?_ ?_ ?_ (fun x hx => ?_)
    · obtain ⟨h1, h2⟩ := hall x hx
      refine ⟨leaf_item h1, ?_, ?_⟩ <;> rcases h2 with h2 | h2 | h2 <;> rw [h2] <;> decide
    · obtain ⟨h1, h2⟩ := hall x hx
      refine ⟨?_, ?_, ?_⟩ <;> rcases h2 with h2 | h2 | h2 <;> rw [h2] <;> decide
    · simp [HK.out.1, HK.out.2.1, HK.out.2.2, goesK]
    · rw [HK.out.1, HK.out.2.1]; decide +kernel
    · rw [HK.out.1, HK.out.2.1]; decide +kernel
    · obtain ⟨h1, h2⟩ := hall x hx
      refine ⟨cell_of h1 6, by decide, ?_⟩
      rcases h2 with h2 | h2 | h2 <;> rw [h2] <;> decide +kernel
  -- what is kept
  have hkp : Hid (∀ (W : World) (c g2 : Nat) (cs2 : Array Value) (fz : Nat × Nat), Up w W → w.heap.size ≤ c → W.heap[c]? = some (.cells #[.int .i64 16, .int .i64 0, .string ⟨#[]⟩, .slice (some ⟨g2, 0, none⟩) 2 2, .slice none 0 0, .slice none 0 0, .int .i64 (3 : Nat), .string ⟨#[]⟩] TyT (0, 0)) →
      W.heap[g2]? = some (.cells cs2 TpT fz) → cs2[0]? = some (ptrV b9) → cs2[1]? = some (ptrV b8) → Calls Tryd.prog 16 #[.pointer (some ⟨A, 0, none⟩), .pointer (some ⟨c, 0, none⟩)] W fun e w' => e = .returned (.tuple #[.int .i64 10, .int .i64 0]) ∧ Bools w' B A bs g ∧ Below B W w') := fun W c g2 cs2 fz hW hc hcc hg2 hc0 hc1 => by
    have L9 := hW.get HL.out.1
    have L8 := hW.get HL.out.2.1
    have i9 : Item W b9 10 (wordS 10) := leaf_item L9
    have i8 : Item W b8 9 (wordS 9) := leaf_item L8
    have hgc : g2 ≠ c := fun e => by
      rw [e, hcc] at hg2
      injection hg2 with hg2
      injection hg2 with _ hg2 _
      exact absurd hg2 (by decide)
    have hT : TwoAt W g2 0 b9 b8 10 9 (wordS 10) (wordS 9) := ⟨i9, i8, (cell_of hg2 0).trans hc0, (cell_of hg2 1).trans hc1, lt_of_heap hg2, by decide +kernel, by decide +kernel⟩
    have hps : Parts W (.slice (some ⟨g2, 0, none⟩) 2 2) [(b9, 1), (b8, 1)] := parts_two hT ⟨cell_of L9 6, by decide, lt_of_heap L9⟩ ⟨cell_of L8 6, by decide, lt_of_heap L8⟩
    have hbj : joinS ([b9, b8].map fun z => partS (kd z) (wordS (kd z))) = boolS := by
      rw [← bool_join]
      simp only [List.map_cons, List.map_nil, HK.out.1, HK.out.2.1]
    have htx := text_new c boolS _ W hcc rfl (fun X hX => by
      have hg2' := hX.get hg2
      have := spelled_union kd (fun b => wordS (kd b)) [b9, b8] c g2 0 2 cs2 fz _ X (hX.get hcc) rfl rfl hg2' (fun j x hx => by
        match j, hx with
        | 0, hx => simp at hx; subst hx; exact hc0
        | 1, hx => simp at hx; subst hx; exact hc1
        | j + 2, hx => simp at hx) (by simp) (by simp) (fun x hx => by
        rcases List.mem_cons.1 hx with rfl | hx
        · rw [HK.out.1]; exact ⟨i9.up hX, by decide +kernel⟩
        rcases List.mem_cons.1 hx with rfl | hx
        · rw [HK.out.2.1]; exact ⟨i8.up hX, by decide +kernel⟩
        · cases hx) (by
        simp only [List.map_cons, List.map_nil, HK.out.1, HK.out.2.1]
        decide +kernel)
      rw [hbj] at this
      exact this)
    refine (keep_small A c 3 _ (fun n w' => n = 10 ∧ Bools w' B A bs g ∧ Below B W w') W hcc rfl (by decide) ?_).mono ?_
    · refine (lay_new B A c g bs (wordsL 10) tv boolS _ (.slice (some ⟨g2, 0, none⟩) 2 2) [(b9, 1), (b8, 1)] _ W (HF.out.ar.up hW) hcc (Nat.le_trans HB.out.1 hc) (fun hm => by have := HB.out.2.2 c hm; omega) htx (by rintro cs rfl; exact ⟨rfl, rfl⟩) (by decide +kernel) bool_new hps (fun x hx => ?_) (fun g' off cap he => ?_) (by rw [HB.out.2.1]; decide)).mono ?_
      · rcases List.mem_cons.1 hx with rfl | hx
        · exact ⟨9, wordS 10, i9.said, (fun e => by have := lt_of_heap HL.out.1; have e : b9 = c := e; omega), word_ne _, by decide +kernel⟩
        rcases List.mem_cons.1 hx with rfl | hx
        · exact ⟨8, wordS 9, i8.said, (fun e => by have := lt_of_heap HL.out.2.1; have e : b8 = c := e; omega), word_ne _, by decide +kernel⟩
        · cases hx
      · cases he; exact hgc
      · rintro e w' ⟨rfl, ⟨tv', hA⟩, _, hk⟩
        exact ⟨bs.length, rfl, HB.out.2.1, ⟨⟨tv', c, hA⟩, HB.out.2.1⟩, hk.low⟩
    · rintro e w' ⟨n, rfl, rfl, h1, h2⟩
      exact ⟨rfl, h1, h2⟩
  go_enter Tryd.func8, Tryd.ntmps8
  go_wp2_with (first | (go_at_call 15; refine (all_any A tv (.map (some g)) bs [9, 8, 2] _ cap _ (Up.get (w := w) uq HF.out.ar.head) (ownsRow_up HF.out.ar.row uq) hz.out (by rw [HB.out.2.1]; decide) (by decide)).mono ?_; rintro e w2 ⟨v, rfl, hv, hvb, hu2⟩; obtain ⟨va, vc, hve, hcall⟩ := hun.out _ v hu2 hv; subst hve; have HCA := Lib.hid hcall; clear hv hvb hcall) | (go_at_call 17; refine HCA.out.mono ?_; rintro e w3 ⟨c, g2, cs2, fz, rfl, hc1, hc2, hc3, hc4, hc5, hc6, hu3⟩; have HC3 := Lib.hid (And.intro hc1 (And.intro hc3 (And.intro hc4 (And.intro hc5 hc6)))); clear hc1 hc2 hc3 hc4 hc5 hc6) | (go_at_call 16; refine (hkp.out _ c g2 cs2 fz uq (Nat.le_trans hu2.size HC3.out.1) HC3.out.2.1 HC3.out.2.2.1 HC3.out.2.2.2.1 HC3.out.2.2.2.2).mono ?_; rintro e w4 ⟨rfl, hb4, hl4⟩))
  refine bodyPost_ret (v := .tuple #[.int .i64 10, .int .i64 0]) (by simp [results, Tryd.results8, go_sem]) rfl ?_
  have hu : Up w w3 := uq
  exact ⟨rfl, hb4, Below.trans (Below.mono hu HB.out.1) hl4⟩

end Go.Proofs.YtbghpkoimbmijaaDoor

/- Walk: known. -/
namespace Go.Proofs.YtbghpkoimbmijaaDoor
open Go.RowKit
set_option linter.unusedSimpArgs false

set_option maxRecDepth 100000 in
set_option maxHeartbeats 3200000 in
theorem known_any (w : World) : Calls Tryd.prog 5 #[] w fun e w' => e = .returned (.bool true) ∧ Up w w' := by
  have t10 : (wordsL 10 ++ [boolS])[10]? = some boolS := by decide +kernel
  have t6 : (wordsL 10 ++ [boolS])[6]? = some (wordS 7) := by decide +kernel
  have T10 := Lib.hid t10
  have T6 := Lib.hid t6
  have hb1 : (boolS.toList == [102, 97, 108, 115, 101, 32, 124, 32, 116, 114, 117, 101]) = true := by decide +kernel
  have hb2 : ((wordS 7).toList == [110, 117, 109, 98, 101, 114]) = true := by decide +kernel
  clear t10 t6
  go_enter Tryd.func5, Tryd.ntmps5
  go_wp2_with fail
  go_at_call 6
  refine (New_any _).mono ?_
  rintro e w2 ⟨A, bs, g, tv, rfl, hf, hu2⟩
  have HF := Lib.hid hf
  clear hf
  go_wp2_with fail
  refine (Union_known w.heap.size A g bs tv w2.heap.size _ _ (HF.out.up uq) (by simp) (by simp [go_sem]) (by simp [go_sem]) (by simp [go_sem])).mono ?_
  rintro e w3 ⟨rfl, ⟨⟨tv', c, hA⟩, hlen⟩, hlow⟩
  have hl11 : (bs ++ [c]).length = 11 := by simp [hlen]
  have hT10 : ∀ W, Up w3 W → Calls Tryd.prog 10 #[.pointer (some ⟨A, 0, none⟩), .int .i64 10] W fun e w' => e = .returned (.string boolS) ∧ Up W w' := fun W hW => Text_any w.heap.size A (bs ++ [c]) (wordsL 10 ++ [boolS]) tv' (.map (some g)) 10 boolS _ (hA.up hW) T10.out
  have hT6 : ∀ W, Up w3 W → Calls Tryd.prog 10 #[.pointer (some ⟨A, 0, none⟩), .int .i64 6] W fun e w' => e = .returned (.string (wordS 7)) ∧ Up W w' := fun W hW => Text_any w.heap.size A (bs ++ [c]) (wordsL 10 ++ [boolS]) tv' (.map (some g)) 6 (wordS 7) _ (hA.up hW) T6.out
  have hL : ∀ W, Up w3 W → Calls Tryd.prog 11 #[.pointer (some ⟨A, 0, none⟩)] W fun e w' => e = .returned (.int .i64 11) ∧ Up W w' := fun W hW => by
    have q := Len_any w.heap.size A (bs ++ [c]) (wordsL 10 ++ [boolS]) tv' (.map (some g)) _ (hA.up hW)
    rw [hl11] at q
    exact q
  have H10 := Lib.hid hT10
  have H6 := Lib.hid hT6
  have HL := Lib.hid hL
  have HW : Hid (Up w w3) := Below.trans (Up.alloc hu2 _) hlow
  clear hT10 hT6 hL hA hlen hl11 hlow
  go_wp2_with fail
  refine (H10.out _ uq).mono ?_
  rintro e w4 ⟨rfl, hu4⟩
  go_wp2_with fail
  refine (HL.out _ uq).mono ?_
  rintro e w5 ⟨rfl, hu5⟩
  go_wp2_with fail
  refine (H6.out _ uq).mono ?_
  rintro e w6 ⟨rfl, hu6⟩
  go_wp2_with fail
  go_ret
  exact ⟨rfl, Up.trans HW.out uq⟩

end Go.Proofs.YtbghpkoimbmijaaDoor

/- An arena with the ten, in general words. -/
namespace Go.Proofs.YtbghpkoimbmijaaDoor
open Go.RowKit
set_option linter.unusedSimpArgs false

def tenT : List Ty := (List.range 10).map fun i : Nat => basicT ((i : Int) + 1)
theorem basic_text (k : Int) (h1 : 1 ≤ k) (h2 : k ≤ 10) : (basicT k).text = wordS k := by
  unfold basicT
  rw [Ty.text_mk]
  unfold textK
  rw [if_neg (by omega), if_neg (by omega), if_neg (by omega), if_neg (by omega), if_neg (by omega), if_neg (by omega), if_neg (by omega), if_neg (by omega), if_neg (by omega), if_neg (by omega), if_neg (by omega), if_neg (by omega), if_neg (by omega)]
theorem tenT_text : tenT.map Ty.text = wordsL 10 := by
  unfold tenT wordsL
  rw [List.map_map]
  refine List.map_congr_left fun i hi => ?_
  have := List.mem_range.1 hi
  exact basic_text _ (by omega) (by omega)
theorem tenT_get {i : Nat} {t : Ty} (h : tenT[i]? = some t) : i < 10 ∧ t = basicT ((i : Int) + 1) := by
  unfold tenT at h
  rw [List.getElem?_map] at h
  cases hr : (List.range 10)[i]? with
  | none => rw [hr] at h; cases h
  | some j =>
    rw [hr] at h
    have h2 := List.getElem?_eq_some_iff.1 hr
    obtain ⟨h3, h4⟩ := h2
    rw [List.getElem_range] at h4
    simp only [List.length_range] at h3
    subst h4
    simp only [Option.map_some, Option.some.injEq] at h
    exact ⟨h3, h.symm⟩
theorem leaf_tyS {N : Nat → Prop} {B : Nat} {w : World} {b : Nat} {k : Int} (h1 : 1 ≤ k) (h2 : k ≤ 10) (h : Leaf w b k (wordS k)) (hB : B ≤ b) : TyAt N B w b (basicT k) :=
  TyAt.mk (wordS k) (.slice none 0 0) (.slice none 0 0) (.slice none 0 0) [] hB h (.inr (basic_text k h1 h2).symm) (RowOf.nil _ _ _) (RowOf.nil _ _ _) (RowOf.nil _ _ _) rfl (fun j q p h1 _ => by simp at h1)
theorem Few.are {w : World} {B A : Nat} {bs : List Nat} {g : Nat} {tv : Value} (h : Few w B A bs g tv 10) : Are w B A bs tenT tv (.map (some g)) (.map none) where
  base := h.ar.base
  head := h.ar.head
  row := h.ar.row
  rowB := h.ar.rowB
  ids := by rw [tenT_text]; rcases h.ar.ids with ⟨h9, _⟩ | q
            · cases h9
            · exact .inr q
  len := by rw [h.len]; rfl
  nodup := by rw [tenT_text]; exact h.ar.nodup
  ty i b t h1 h2 := by
    obtain ⟨h3, rfl⟩ := tenT_get h2
    have hs := h.ar.said i b (wordS ((i : Int) + 1)) h1 (by rw [← tenT_text, List.getElem?_map, h2]; simp [basic_text ((i : Int) + 1) (by omega) (by omega)])
    exact leaf_tyS (by omega) (by omega) (h.leaf i b h1) hs.1
  good t ht := by
    obtain ⟨i, hi⟩ := List.getElem?_of_mem ht
    obtain ⟨h3, rfl⟩ := tenT_get hi
    exact ⟨.basic (by omega) (by omega), by unfold basicT; rw [Ty.nodes_mk]; simp, basicT_names _ _⟩
  closed t ht p hp := by
    obtain ⟨i, hi⟩ := List.getElem?_of_mem ht
    obtain ⟨h3, rfl⟩ := tenT_get hi
    cases hp

end Go.Proofs.YtbghpkoimbmijaaDoor

/- What stands between calls of the law: an arena of one's own, and what came in. -/
namespace Go.Proofs.YtbghpkoimbmijaaDoor
open Go.RowKit
set_option linter.unusedSimpArgs false
set_option linter.unusedVariables false

/-- a union of some stands for them, in any order -/
theorem union_other {p q r : Ty} (hp : CV p) (hq : CV q) (hr : CV r) : unionC [r, p, q, p] = unionC [p, q, r] := by
  refine unionC_congr (fun t ht => ?_) (fun t ht => ?_) (fun x => ?_)
  · simp only [List.mem_cons, List.not_mem_nil, or_false] at ht
    rcases ht with rfl | rfl | rfl | rfl <;> assumption
  · simp only [List.mem_cons, List.not_mem_nil, or_false] at ht
    rcases ht with rfl | rfl | rfl <;> assumption
  · simp only [List.flatMap_cons, List.flatMap_nil, List.append_nil, List.mem_append]
    constructor
    · rintro (h | h | h | h)
      · exact .inr (.inr h)
      · exact .inl h
      · exact .inr (.inl h)
      · exact .inl h
    · rintro (h | h | h)
      · exact .inr (.inl h)
      · exact .inr (.inr (.inl h))
      · exact .inl h
theorem union_both {p q r : Ty} (hp : CV p) (hq : CV q) (hr : CV r) : unionC [r, unionC [p, q]] = unionC [p, q, r] := by
  have hpq : ∀ t ∈ [p, q], CV t := fun t ht => by
    simp only [List.mem_cons, List.not_mem_nil, or_false] at ht
    rcases ht with rfl | rfl <;> assumption
  have h1 : unionC [r, unionC [p, q]] = unionC [unionC [p, q], r] := by
    refine unionC_congr (fun t ht => ?_) (fun t ht => ?_) (fun x => ?_)
    · simp only [List.mem_cons, List.not_mem_nil, or_false] at ht
      rcases ht with rfl | rfl
      · exact hr
      · exact unionC_cv hpq
    · simp only [List.mem_cons, List.not_mem_nil, or_false] at ht
      rcases ht with rfl | rfl
      · exact unionC_cv hpq
      · exact hr
    · simp only [List.flatMap_cons, List.flatMap_nil, List.append_nil, List.mem_append]
      exact Or.comm
  rw [h1]
  exact unionC_nest (l := [r]) (m := [p, q]) (fun t ht => by rw [List.mem_singleton.1 ht]; exact hr) hpq

theorem TIs.mono {B B' : Nat} {w : World} {us : List Value} {t : Ty} (h : TIs B w us t) (k : B ≤ B') : TIs B' w us t := by
  have hr : ∀ {v : Value} {us : List Value}, RowV (fun x => x < B) w v us → RowV (fun x => x < B') w v us := fun ⟨T, h⟩ => ⟨T, h.keep fun g cs fz h1 h2 => ⟨Nat.lt_of_lt_of_le h1 k, h2⟩⟩
  induction h with
  | mk us hn1 hn2 hnm hnv hln hsm hmv hlm hl hpl hpc hc hq ih =>
    refine TIs.mk us hn1 hn2 hnm (hr hnv) hln hsm (hr hmv) hlm hl hpl hpc (fun j u hj => ?_) ih
    obtain ⟨b, off, h1, h2, h3, h4⟩ := hc j u hj
    exact ⟨b, off, h1, Nat.lt_of_lt_of_le h2 k, h3, h4⟩
theorem GlobB.mono {B B' : Nat} {w : World} (h : GlobB B w) (k : B ≤ B') : GlobB B' w := fun w' hk => h w' fun b o hb ho => hk b o (Nat.lt_of_lt_of_le hb k) ho

/-- an arena of one's own, behind what stood at w0 -/
structure Sta (w0 W : World) (A : Nat) (bs : List Nat) (ts : List Ty) (tv mv : Value) : Prop where
  are : Are W w0.heap.size A bs ts tv mv (.map none)
  glob : GlobB w0.heap.size W
  up : Up w0 W
theorem Sta.later {w0 W W' : World} {A : Nat} {bs : List Nat} {ts : List Ty} {tv mv : Value} (h : Sta w0 W A bs ts tv mv) (k : Up W W') : Sta w0 W' A bs ts tv mv := ⟨h.are.up k, h.glob.memo (Memo.of_up none1 _ k), h.up.trans k⟩
theorem Sta.step {w0 W W' : World} {A : Nat} {bs bs' : List Nat} {ts ts' : List Ty} {tv mv tv' mv' : Value} (h : Sta w0 W A bs ts tv mv) (k : Are W' w0.heap.size A bs' ts' tv' mv' (.map none)) (hL : LayM w0.heap.size A tv mv W W' tv' mv') : Sta w0 W' A bs' ts' tv' mv' :=
  ⟨k, h.glob.memo hL.memo, Below.trans h.up (hL.memo.below h.are.lt)⟩
theorem more {α : Type} {l r : List α} {i : Nat} {x : α} (h : l[i]? = some x) : (l ++ r)[i]? = some x := by
  rw [List.getElem?_append_left (List.getElem?_eq_some_iff.1 h).1]
  exact h

theorem laid_sta {w0 W : World} {A : Nat} {bs : List Nat} {ts : List Ty} {tv mv : Value} (h : Sta w0 W A bs ts tv mv) {us : List Value} {t : Ty} (ht : TIs w0.heap.size w0 us t) {m : Int} (hm : w0.cell? ⟨1, 0, none⟩ = some (.int .i64 m)) (h60 : t.nodes ≤ 60) (hb : bs.length ≤ 100000) :
    Calls Tryd.prog 7 #[.pointer (some ⟨A, 0, none⟩), .agg us.toArray] W fun e w' => ∃ (i : Nat) (ok : Bool) (bs' : List Nat) (ts' : List Ty) (tv' mv' : Value), e = .returned (.tuple #[.int .i64 i, .bool ok]) ∧ Sta w0 w' A (bs ++ bs') (ts ++ ts') tv' mv' ∧ bs'.length ≤ 6000 ∧ (ok = true → ∃ u, (ts ++ ts')[i]? = some u ∧ u.nodes ≤ 60) := by
  refine (laid_any _ t (Nat.le_refl _) us W w0.heap.size A bs ts tv mv (.map none) m (ht.low h.up) h.are h.glob ((h.up.cells _ _ (cell_lt5 hm)).trans hm) (cell_lt5 hm) (by omega) h60).mono ?_
  rintro e w' ⟨i, ok, bs', ts', tv', mv', rfl, h1, h2, h3, h4⟩
  exact ⟨i, ok, bs', ts', tv', mv', rfl, h.step h1 h2, by omega, fun e => by
    obtain ⟨u, q1, q2⟩ := h4 e
    exact ⟨u, q1, by omega⟩⟩

/-- numbers that are written out -/
theorem ids_lit (W : World) (zs : List Nat) (f : Nat × Nat) : IdsAt (W.alloc (.cells (zs.map numV).toArray IntT f)) (some ⟨W.heap.size, 0, none⟩) zs := fun j z hj => by
  have hA : (W.alloc (.cells (zs.map numV).toArray IntT f)).heap[W.heap.size]? = some (.cells (zs.map numV).toArray IntT f) := alloc_get _ _
  refine ⟨W.heap.size, 0, rfl, lt_of_heap hA, (cell_of hA _).trans ?_⟩
  rw [Nat.zero_add, List.getElem?_toArray, List.getElem?_map, hj]
  rfl

def UnionQ (w0 : World) (A : Nat) (bs : List Nat) (ts : List Ty) (c : Ty) (n : Nat) (e : Ending) (w' : World) : Prop :=
  ∃ (i : Nat) (bs' : List Nat) (ts' : List Ty) (tv' mv' : Value) (x : Ty), e = .returned (.tuple #[.int .i64 i, .int .i64 0]) ∧ Sta w0 w' A (bs ++ bs') (ts ++ ts') tv' mv' ∧ bs'.length ≤ 500 ∧ (ts ++ ts')[i]? = some x ∧ x.Valid ∧ x.canon = c ∧ x.nodes ≤ n
theorem union_sta {w0 W : World} {A : Nat} {bs : List Nat} {ts : List Ty} {tv mv : Value} (h : Sta w0 W A bs ts tv mv) (zs : List Nat) (us : List Ty) (n k cap : Nat) (hz : zs.map (fun z => ts[z]?) = us.map some) (hn : 1 + sumN us ≤ n) (h500 : n ≤ 500) (hb : bs.length ≤ 100000) (hk : zs.length = k) (f : Nat × Nat) :
    Calls Tryd.prog 8 #[.pointer (some ⟨A, 0, none⟩), .slice (some ⟨W.heap.size, 0, none⟩) k cap] (W.alloc (.cells (zs.map numV).toArray IntT f)) (UnionQ w0 A bs ts (unionC (us.map Ty.canon)) n) := by
  subst hk
  have hu : Up W (W.alloc (.cells (zs.map numV).toArray IntT f)) := uq
  have h' := h.later hu
  refine (Union_in w0.heap.size A bs ts tv mv (.map none) zs us _ cap _ h'.are (ids_lit W zs f) hz (fit_of h'.are hz (by omega)) h'.glob (by omega)).mono ?_
  rintro e w' ⟨u, w2, hv, hc, hm, hK⟩
  have hun : u.nodes ≤ n := by
    rw [← Ty.nodes_canon, hc]
    have h1 := unionC_nodes (us.map Ty.canon)
    rw [List.map_map, show (Ty.nodes ∘ Ty.canon) = Ty.nodes from funext Ty.nodes_canon] at h1
    unfold sumN at hn
    omega
  obtain ⟨i, bs', ts', tv', mv', x, rfl, k1, k2, k3, k4, k5, k6, k7⟩ := hK.done hv (by omega)
  exact ⟨i, bs', ts', tv', mv', x, rfl, h'.step k1 ((LayM.of_memo hm).trans k2), by omega, k4, k5, k6.trans hc, by omega⟩

/-- one text has one number -/
theorem Sta.same {w0 W : World} {A : Nat} {bs : List Nat} {ts : List Ty} {tv mv : Value} (h : Sta w0 W A bs ts tv mv) {i j : Nat} {x y : Ty} (hi : ts[i]? = some x) (hj : ts[j]? = some y) (e : x.canon = y.canon) : i = j := by
  have hx : (ts.map Ty.text)[i]? = some x.text := by rw [List.getElem?_map, hi]; rfl
  have hy : (ts.map Ty.text)[j]? = some x.text := by rw [List.getElem?_map, hj, ← Ty.text_canon x, e, Ty.text_canon]; rfl
  obtain ⟨h1, h2⟩ := List.getElem?_eq_some_iff.1 hx
  obtain ⟨h3, h4⟩ := List.getElem?_eq_some_iff.1 hy
  rcases Nat.lt_trichotomy i j with hlt | rfl | hlt
  · exact absurd (h2.trans h4.symm) (List.pairwise_iff_getElem.1 h.are.nodup i j h1 h3 hlt)
  · rfl
  · exact absurd (h4.trans h2.symm) (List.pairwise_iff_getElem.1 h.are.nodup j i h3 h1 hlt)

theorem Sta.new {w0 W : World} {A : Nat} {bs : List Nat} {g : Nat} {tv : Value} (h : Few W w0.heap.size A bs g tv 10) (hu : Up w0 W) (hg : GlobB w0.heap.size w0) : Sta w0 W A bs tenT tv (.map (some g)) := ⟨h.are, hg.memo (Memo.of_up none1 _ hu), hu⟩

end Go.Proofs.YtbghpkoimbmijaaDoor
