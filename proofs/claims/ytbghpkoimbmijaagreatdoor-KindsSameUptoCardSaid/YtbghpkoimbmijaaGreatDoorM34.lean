import Derived.Clock
import Derived.Test.YtbghpkoimbmijaaGreatDoorM33
import Derived.Test.YtbghpkoimbmijaaGreatDoorM29
import Derived.Test.YtbghpkoimbmijaaGreatDoorM31
import Derived.Test.YtbghpkoimbmijaaGreatDoorM32
/- YtbghpkoimbmijaaGreatDoorM34: lemmas of the proof, in order: US, MV, LN, LH, LK, LI. -/
/- Walks: Arena.Widen, Arena.Subst in general. -/
namespace Go.Proofs.YtbghpkoimbmijaaGreatDoor
open Go.RowKit
set_option linter.unusedSimpArgs false
set_option linter.unusedVariables false

set_option maxRecDepth 100000 in
set_option maxHeartbeats 3200000 in
theorem Widen_in (B A : Nat) (bs : List Nat) (ts : List Ty) (tv mv dv : Value) (z : Nat) (t : Ty) (w : World) (h : Are w B A bs ts tv mv dv) (hz : ts[z]? = some t) (hg : GlobB B w) (hb : bs.length ≤ 500000) :
    Calls Tryz.prog 10 #[.pointer (some ⟨A, 0, none⟩), .int .i64 z] w (UniR B A bs ts tv mv dv w (widenC t.canon)) := by
  have hgd := h.good t (List.mem_of_getElem? hz)
  obtain ⟨b, gr, rcap, hbz, rfl, y0, yl, hil, hbt⟩ := h.at_ hz
  have HH := Lib.hid h.head
  have HA := Lib.hid h
  have HWD := Lib.hid (fun W (hW : Up w W) => (show Calls Tryz.prog 30 #[.pointer (some ⟨b, 0, none⟩)] W (DoR (fun x => ¬ arS A (.slice (some ⟨gr, 0, none⟩) bs.length rcap) mv x) B W (widenC t.canon)) from widened_do B _ t (Nat.le_refl _) hgd.1 hgd.2.1 hgd.2.2 _ b W (h.open_.up hW) (hbt.up hW) (hg.glob.up hW) (Nat.le_trans h.lt hW.size) trivial))
  have hkp : Hid (∀ (W : World) (c : Nat) (u : Ty), Memo none1 B w W → TyAt (fun x => ¬ arS A (.slice (some ⟨gr, 0, none⟩) bs.length rcap) mv x) B W c u → u.Valid → u.canon = widenC t.canon → Calls Tryz.prog 25 #[.pointer (some ⟨A, 0, none⟩), .pointer (some ⟨c, 0, none⟩)] W (KeepR B A bs ts (.slice (some ⟨gr, 0, none⟩) bs.length rcap) mv dv W u)) := fun W c u hm hc hv hcn => by
    refine keep_any u hv ?_ B A c bs ts _ mv dv W (HA.out.memo hm) hc (hg.memo hm) ?_
    · rw [← Ty.namesLe_canon, hcn]
      exact widenC_names _ ((Ty.namesLe_canon t).2 hgd.2.2)
    · rw [← Ty.nodes_canon, hcn]
      have h1 := widenC_nodes t.canon
      rw [Ty.nodes_canon] at h1
      have := hgd.2.1
      omega
  have hji : (z : Int) < bs.length := by omega
  have a4 := lt_of_heap h.head
  clear h hz hbz hbt hg hgd
  go_enter Tryz.func10, Tryz.ntmps10
  go_wp2_with (first
    | (go_at_call 29; refine (has_in dv A bs.length rcap _ _ z hil _ HH.out).mono ?_; rintro e w2 ⟨rfl, hu2⟩; have hh := hu2.get HH.out; have a0 := cell_of hh 0; have a4 := lt_of_heap hh; simp only [List.getElem?_toArray, List.getElem?_cons_zero, List.getElem?_cons_succ] at a0; have y0 := (hu2.cells _ _ yl).trans y0; have yl := Nat.lt_of_lt_of_le yl hu2.size; clear hh)
    | (go_at_call 30; refine (HWD.out _ (show Up w _ from uq)).mono ?_; rintro e w3 ⟨c, u, rfl, hc, hv, hcn, hm3⟩; have HC := Lib.hid (And.intro hc (And.intro hv (And.intro hcn ((Memo.of_up none1 B (show Up w _ from uq)).trans hm3)))); clear hc hv hcn hm3)
    | (go_at_call 25; refine (hkp.out _ c u HC.out.2.2.2 HC.out.1 HC.out.2.1 HC.out.2.2.1).mono ?_; intro e w4 hK; obtain ⟨i8, c8, rfl⟩ := hK.pair; have HK := Lib.hid hK; clear hK))
  refine bodyPost_ret (v := .tuple #[.int .i64 i8, .int .i64 c8]) (by simp [results, Tryz.results10, go_sem]) rfl ?_
  exact ⟨u, w3, HC.out.2.1, HC.out.2.2.1, HC.out.2.2.2, HK.out⟩

set_option maxRecDepth 100000 in
set_option maxHeartbeats 6400000 in
theorem Subst_in (ov : Option Int) (B A : Nat) (bs : List Nat) (ts : List Ty) (tv mv dv : Value) (z : Nat) (t : Ty) (zs : List Nat) (va ia : Option Addr) (vc ic : Nat) (w : World) (h : Are w B A bs ts tv mv dv) (hz : ts[z]? = some t) (hg : GlobB B w) (hb : bs.length ≤ 500000) (hids : IdsAt w ia zs) (hr : ∀ z ∈ zs, z < bs.length) (hl : zs.length ≤ 1000000)
    (htab : ∀ W la lc, Up w W → W.ownsRow 0 TpT 1 (.slice la zs.length lc) zs.length (zs.map fun z => ptrV (bs.getD z 0)) → Calls Tryz.prog 32 #[.slice va zs.length vc, .slice la zs.length lc] W fun e w' => ∃ mb, e = .returned (.map (some mb)) ∧ SubAt (fun x => ¬ arS A tv mv x) B w' mb ov ∧ Up W w') :
    Calls Tryz.prog 11 #[.pointer (some ⟨A, 0, none⟩), .int .i64 z, .slice va zs.length vc, .slice ia zs.length ic] w (UniR B A bs ts tv mv dv w (substC (fT ov) t.canon)) := by
  have hgd := h.good t (List.mem_of_getElem? hz)
  obtain ⟨b, gr, rcap, hbz, rfl, y0, yl, hil, hbt⟩ := h.at_ hz
  have HH := Lib.hid h.head
  have HA := Lib.hid h
  have hall := Lib.hid (all_in dv A _ mv bs zs ia ic w h.head h.row hids hr hl)
  have HTB := Lib.hid htab
  have HWD : Hid (∀ W mb, Up w W → SubAt (fun x => ¬ arS A (.slice (some ⟨gr, 0, none⟩) bs.length rcap) mv x) B W mb ov → Calls Tryz.prog 31 #[.pointer (some ⟨b, 0, none⟩), .map (some mb)] W (DoR (fun x => ¬ arS A (.slice (some ⟨gr, 0, none⟩) bs.length rcap) mv x) B W (substC (fT ov) t.canon))) := fun W mb hW hS => subst_do B mb ov _ t (Nat.le_refl _) hgd.1 hgd.2.1 hgd.2.2 _ b W (h.open_.up hW) (hbt.up hW) (hg.glob.up hW) (Nat.le_trans h.lt hW.size) hS
  have hkp : Hid (∀ (W : World) (c : Nat) (u : Ty), Memo none1 B w W → TyAt (fun x => ¬ arS A (.slice (some ⟨gr, 0, none⟩) bs.length rcap) mv x) B W c u → u.Valid → u.canon = substC (fT ov) t.canon → Calls Tryz.prog 25 #[.pointer (some ⟨A, 0, none⟩), .pointer (some ⟨c, 0, none⟩)] W (KeepR B A bs ts (.slice (some ⟨gr, 0, none⟩) bs.length rcap) mv dv W u)) := fun W c u hm hc hv hcn => by
    have hf1 : ∀ n u, fT ov n = some u → u.nodes ≤ 1 := fun n u h => by rw [(fT_some h).2, Ty.nodes_mk]; simp
    have hf2 : ∀ n u, fT ov n = some u → u.namesLe 2000000 := fun n u h => by rw [(fT_some h).2]; exact Ty.namesLe_mk.2 ⟨by decide, by simp, by simp⟩
    refine keep_any u hv ?_ B A c bs ts _ mv dv W (HA.out.memo hm) hc (hg.memo hm) ?_
    · rw [← Ty.namesLe_canon, hcn]
      exact substC_names hf2 _ ((Ty.namesLe_canon t).2 hgd.2.2)
    · rw [← Ty.nodes_canon, hcn]
      have h1 := substC_nodes hf1 t.canon
      rw [Ty.nodes_canon] at h1
      have := hgd.2.1
      omega
  have hji : (z : Int) < bs.length := by omega
  have a4 := lt_of_heap h.head
  clear h hz hbz hbt hg hgd htab hids hr
  go_enter Tryz.func11, Tryz.ntmps11
  go_wp2_with (first
    | (go_at_call 23; refine hall.out.mono ?_; rintro e w1 ⟨v, rfl, h1, h2, hu1⟩; obtain ⟨la, lcap, rfl⟩ := ownsRow_form h1; have HV := Lib.hid h1; have y0 := (hu1.cells _ _ yl).trans y0; have yl := Nat.lt_of_lt_of_le yl hu1.size; clear h1 h2)
    | (go_at_call 29; refine (has_in dv A bs.length rcap _ _ z hil _ (Up.get (w := w) uq HH.out)).mono ?_; rintro e w2 ⟨rfl, hu2⟩; have hh := hu2.get (Up.get (w := w) uq HH.out); have a0 := cell_of hh 0; have a4 := lt_of_heap hh; simp only [List.getElem?_toArray, List.getElem?_cons_zero, List.getElem?_cons_succ] at a0; have y0 := (hu2.cells _ _ yl).trans y0; have yl := Nat.lt_of_lt_of_le yl hu2.size; clear hh))
  go_region_law (first
    | (go_simp; go_at_call 32; refine (HTB.out _ la lcap (show Up w _ from uq) (ownsRow_up HV.out (show Up w1 _ from uq))).mono ?_; rintro e w3 ⟨mb, rfl, hS, hu3⟩; have HS := Lib.hid hS; have y0 := (hu3.cells _ _ yl).trans y0; have yl := Nat.lt_of_lt_of_le yl hu3.size; have hh := Up.get (w := w) (w' := w3) uq HH.out; have a0 := cell_of hh 0; have a4 := lt_of_heap hh; simp only [List.getElem?_toArray, List.getElem?_cons_zero, List.getElem?_cons_succ] at a0; clear hS hh)
    | (go_simp; go_at_call 31; refine (HWD.out _ mb (show Up w _ from uq) (HS.out.memo (Memo.of_up none1 B (show Up w3 _ from uq)) (fun _ h _ => h))).mono ?_; rintro e w4 ⟨c, u, rfl, hc, hv, hcn, hm4⟩; have HC := Lib.hid (And.intro hc (And.intro hv (And.intro hcn ((Memo.of_up none1 B (show Up w _ from uq)).trans hm4)))); clear hc hv hcn hm4)
    | (go_simp; go_at_call 25; refine (hkp.out _ c u HC.out.2.2.2 HC.out.1 HC.out.2.1 HC.out.2.2.1).mono ?_; intro e w5 hK; obtain ⟨i8, c8, rfl⟩ := hK.pair; have HK := Lib.hid hK; clear hK))
  all_goals (go_wp2_with fail)
  all_goals refine bodyPost_ret (v := .tuple #[.int .i64 i8, .int .i64 c8]) (by simp [results, Tryz.results11, go_sem]) rfl ?_
  all_goals exact ⟨u, w4, HC.out.2.1, HC.out.2.2.1, HC.out.2.2.2, HK.out⟩

end Go.Proofs.YtbghpkoimbmijaaGreatDoor

/- Walk: a parameter named T may be. -/
namespace Go.Proofs.YtbghpkoimbmijaaGreatDoor
open Go.RowKit
set_option linter.unusedSimpArgs false
set_option linter.unusedVariables false

set_option maxRecDepth 100000 in
theorem Reserved_T (m : Int) (w : World) (hm : w.cell? ⟨0, 0, none⟩ = some (.int .i64 m)) : Calls Tryz.prog 56 #[.string ⟨#[84]⟩] w fun e w' => e = .returned (.bool false) ∧ w' = w := by
  go_enter Tryz.func56, Tryz.ntmps56
  go_wp2_with (first | (go_at_call 78; refine (Tryz.strings_Contains _ _ m _ (of_decide_eq_true (by kernel_rfl)) hm).mono ?_; rintro e w2 ⟨rfl, rfl⟩))
  go_ret
  exact ⟨congrArg Ending.returned (congrArg Value.bool (by decide +kernel)), rfl⟩

set_option maxHeartbeats 2000000 in
theorem Name_T (m : Int) (w : World) (hm : w.cell? ⟨0, 0, none⟩ = some (.int .i64 m)) : Calls Tryz.prog 37 #[.string ⟨#[84]⟩] w fun e w' => e = .returned (.bool true) ∧ Up w w' := by
  have hR := Reserved_T m w hm
  have hd : dgB 84 = false := by decide
  have hl : ltB 84 = true := by decide
  clear hm
  go_enter Tryz.func37, Tryz.ntmps37
  go_wp2_with (first | (go_at_call 55; refine (Digit_any _ _).mono ?_; rintro e w2 ⟨rfl, rfl⟩) | (go_at_call 56; refine hR.mono ?_; rintro e w2 ⟨rfl, rfl⟩))
  go_loopw [17] (fun i wr => (i = .int .i64 0 ∨ i = .int .i64 1) ∧ Up w2 wr) (fun i _ => 1 - (intOf i).toNat)
  case atStart => exact ⟨.inl rfl, uq⟩
  case round =>
    obtain ⟨rfl | rfl, hup⟩ := hrel
    · go_wp2_with (first | (go_at_call 57; refine (Letter_any _ _).mono ?_; rintro e w3 ⟨rfl, rfl⟩))
      go_roundw
      case rel => exact ⟨.inr rfl, uq⟩
      case measure => simp [intOf]
    · go_wp2_with fail
      go_ret
      exact ⟨rfl, uq⟩

set_option maxRecDepth 100000 in
set_option maxHeartbeats 4000000 in
theorem may_var (n : Int) (h0 : 0 ≤ n) (pa : Option Addr) (pcap : Nat) (m : Int) (w : World) (hm : w.cell? ⟨0, 0, none⟩ = some (.int .i64 m)) :
    Calls Tryz.prog 24 #[typV 18 n ⟨#[84]⟩ (.slice none 0 0) (.slice none 0 0) (.slice none 0 0), .slice pa 0 pcap] w fun e w' => e = .returned (.bool true) ∧ Up w w' := by
  have HN := Lib.hid (fun W (hW : Up w W) => Name_T m W ((hW.cells _ _ (cell_lt5 hm)).trans hm))
  clear hm
  have ht : ((⟨#[84]⟩ : ByteArray).toList == []) = false := by decide +kernel
  go_enter Tryz.func24, Tryz.ntmps24
  go_wp2_with fail
  go_quiet (fail)
  go_wp2_with (first | (go_at_call 37; refine (HN.out _ (show Up w _ from uq)).mono ?_; rintro e w2 ⟨rfl, hu2⟩))
  all_goals (try go_quiet (fail))
  all_goals (try go_wp2_with (first | (go_at_call 37; refine (HN.out _ (show Up w _ from uq)).mono ?_; rintro e w2 ⟨rfl, hu2⟩)))
  all_goals go_ret
  all_goals refine ⟨?_, uq⟩
  all_goals rfl

end Go.Proofs.YtbghpkoimbmijaaGreatDoor

/- Walk: does a parameter of a node, of another name, stand in a type? -/
namespace Go.Proofs.YtbghpkoimbmijaaGreatDoor
open Go.RowKit
set_option linter.unusedSimpArgs false
set_option linter.unusedVariables false

abbrev okT (v : Int) : Int → ByteArray → Prop := fun n nm => n = v → nm = ⟨#[84]⟩
def NamedR (v : Int) (t : Ty) (w : World) (e : Ending) (w' : World) : Prop := ∃ b : Bool, e = .returned (.bool b) ∧ (b = false → t.varsOk (okT v)) ∧ Up w w'

theorem toList_T {s : ByteArray} (h : (s.toList == [84]) = true) : s = ⟨#[84]⟩ := toList_inj (by
  have h : s.toList = [84] := by simpa using h
  rw [h]
  simp [ByteArray.toList_eq])

set_option maxRecDepth 100000 in
set_option maxHeartbeats 6400000 in
theorem named_law (v : Int) (B : Nat) : ∀ (m : Nat) (t : Ty) (us : List Value) (w : World), t.nodes ≤ m → TIs B w us t → B ≤ w.heap.size → Calls Tryz.prog 12 #[.agg us.toArray, .int .i64 v] w (NamedR v t w) := by
  intro m
  induction m with
  | zero => intro t us w h; have := t.nodes_pos; omega
  | succ m ih =>
    intro t us w hm h hB
    cases h with
    | @mk k n nm pa cap nv mv ps ns ms us hn1 hn2 hnm hnv hln hsm hmv hlm hl hpl hpc hc hq =>
      have hsum : Hid ((Ty.mk k n nm ps ns ms).nodes = 1 + sumN ps) := Ty.nodes_mk _ _ _ _ _ _
      have HP := Lib.hid (fun (j : Nat) (hj : j < ps.length) => parts_at hl hc hq hj)
      have IH := Lib.hid ih
      have HB := Lib.hid (And.intro hB hm)
      obtain ⟨na, ncap, rfl, _, _⟩ := hnv.form
      obtain ⟨ma, mcap, rfl, _, _⟩ := hmv.form
      obtain ⟨nl, hnl⟩ : ∃ nl, Hid ((ns.map Value.string).length = nl) := ⟨_, rfl⟩
      obtain ⟨ml, hml⟩ : ∃ ml, Hid ((ms.map Value.bool).length = ml) := ⟨_, rfl⟩
      rw [hnl.out, hml.out]
      have hself : Hid (¬ (k = 18 ∧ n = v ∧ (nm.toList == [84]) = false) → k = 18 → okT v n nm) := fun h hk hn => by
        cases hs : (nm.toList == [84]) with
        | true => exact toList_T hs
        | false => exact absurd ⟨hk, hn, hs⟩ h
      clear ih hm hB hl hc hq hn1 hn2 hnm hnv hln hsm hmv hlm hnl hml
      go_enter Tryz.func12, Tryz.ntmps12
      go_upto_region 1 with (fail)
      refine range_named fun A2 W2 hA2 hW2 => ?_
      have hu0 : Hid (Up w W2) := by subst hW2; exact uq
      obtain ⟨q, hq⟩ : ∃ q, Hid (w.heap.size = q) := ⟨_, rfl⟩
      have HQ : Hid (W2.heap[q]? = some (.cells #[.int .i64 k, .int .i64 n, .string nm, .slice pa ps.length cap, .slice na nl ncap, .slice ma ml mcap] RefT (0, 0))) := by subst hW2; rw [← hq.out]; exact alloc_at _ _ _ rfl
      rw [hq.out] at hA2
      clear hW2
      subst hA2
      have x0 := cell_of HQ.out 0
      have x1 := cell_of HQ.out 1
      have x2 := cell_of HQ.out 2
      have xl := lt_of_heap HQ.out
      simp only [List.getElem?_toArray, List.getElem?_cons_zero, List.getElem?_cons_succ] at x0 x1 x2
      have hcase : (k = 18 ∧ n = v ∧ (nm.toList == [84]) = false) ∨ ¬ (k = 18 ∧ n = v ∧ (nm.toList == [84]) = false) := Classical.em _
      rcases hcase with ⟨rfl, hnv, hs⟩ | hno
      · have hd : decide (n = v) = true := by simp [hnv]
        have HNV := Lib.hid hnv
        clear hnv
        go_wp2_with fail
        all_goals first
          | (go_ret; exact ⟨true, rfl, (fun e => by cases e), hu0.out.trans (show Up W2 _ from uq)⟩)
          | (exfalso; have h1 := HNV.out; omega)
          | (exfalso; have h1 := HNV.out; simp_all; done)
      · have HS := Lib.hid (hself.out hno)
        have h3 : (¬ k = 18) ∨ (k = 18 ∧ ¬ n = v) ∨ (k = 18 ∧ decide (n = v) = true ∧ (nm.toList == [84]) = true) := by
          by_cases hk : k = 18
          · by_cases hn : n = v
            · refine .inr (.inr ⟨hk, by simp [hn], ?_⟩)
              cases hs : (nm.toList == [84]) with
              | true => rfl
              | false => exact absurd ⟨hk, hn, hs⟩ hno
            · exact .inr (.inl ⟨hk, hn⟩)
          · exact .inl hk
        clear hno hself
        rcases h3 with hk | ⟨hk, hn⟩ | ⟨hk, hn, hs⟩
        all_goals (go_wp2_with fail)
        all_goals
          go_loopw [5] (fun i wr => ∃ j : Nat, j ≤ ps.length ∧ i = .int .i64 j ∧ Hid (∀ p ∈ ps.take j, p.varsOk (okT v)) ∧ Up W2 wr) (fun i _ => ps.length - (intOf i).toNat)
          case atStart => exact ⟨0, Nat.zero_le _, rfl, (fun p hp => by simp at hp), uq⟩
          case round =>
            obtain ⟨j, hj, rfl, hX, hup⟩ := hrel
            have HU := Lib.hid (hu0.out.trans hup)
            have HQr := Lib.hid (hup.get HQ.out)
            have x3 := cell_of HQr.out 3
            have xl := lt_of_heap HQr.out
            simp only [List.getElem?_toArray, List.getElem?_cons_zero, List.getElem?_cons_succ] at x3
            by_cases hlt : j < ps.length
            · have hji : (j : Int) < ps.length := by omega
              obtain ⟨p, b, off, u0, u1, u2, u3, u4, u5, hp, rfl, hb, c0, c1, c2, c3, c4, c5, ht⟩ := HP.out j hlt
              have hbw := Nat.lt_of_lt_of_le hb HB.out.1
              have c0 := (HU.out.cells _ _ hbw).trans c0
              have c1 := (HU.out.cells _ _ hbw).trans c1
              have c2 := (HU.out.cells _ _ hbw).trans c2
              have c3 := (HU.out.cells _ _ hbw).trans c3
              have c4 := (HU.out.cells _ _ hbw).trans c4
              have c5 := (HU.out.cells _ _ hbw).trans c5
              have hbl := Nat.lt_of_lt_of_le hbw HU.out.size
              have HT := Lib.hid (fun W (hW : Up w W) => IH.out p [u0, u1, u2, u3, u4, u5] W (by have := sumN_mem (List.mem_of_getElem? hp); have := hsum.out; have := HB.out; omega) (ht.low (hW.below HB.out.1)) (Nat.le_trans HB.out.1 hW.size))
              have hnx : Hid (p.varsOk (okT v) → ∀ y ∈ ps.take (j + 1), y.varsOk (okT v)) := fun h y hy => by
                rw [List.take_add_one, hp, Option.toList_some] at hy
                rcases List.mem_append.1 hy with q | q
                · exact hX.out y q
                · rw [List.mem_singleton.1 q]; exact h
              clear hp ht hlt
              go_wp2_with (first | (go_at_call 12; refine (HT.out _ (HU.out.trans (show Up wr _ from uq))).mono ?_; (rintro e w2 ⟨(_ | _), rfl, hbv, hu2⟩ <;> (have HV := Lib.hid hbv; clear hbv))))
              · exact ⟨⟨j + 1, by omega, by simp, hnx.out (HV.out (by first | rfl | trivial)), uq⟩, by simp [intOf]; omega⟩
              · go_ret
                exact ⟨true, rfl, (fun e => by cases e), HU.out.trans (show Up wr _ from uq)⟩
            · obtain rfl : j = ps.length := by omega
              have hall : Hid (∀ p ∈ ps, p.varsOk (okT v)) := by have := hX.out; rw [List.take_length] at this; exact this
              clear hlt hX
              go_wp2_with fail
              go_ret
              exact ⟨false, rfl, fun _ => Ty.varsOk_mk.2 ⟨HS.out, hall.out⟩, HU.out.trans (show Up wr _ from uq)⟩

end Go.Proofs.YtbghpkoimbmijaaGreatDoor

/- Between calls of the law: Widen, Subst, Find of a parameter. -/
namespace Go.Proofs.YtbghpkoimbmijaaGreatDoor
open Go.RowKit
set_option linter.unusedSimpArgs false
set_option linter.unusedVariables false

theorem Sta.uni {w0 W w' : World} {A : Nat} {bs : List Nat} {ts : List Ty} {tv mv : Value} (h : Sta w0 W A bs ts tv mv) {c : Ty} {n : Nat} (hn : c.nodes ≤ n) (h5 : n ≤ 500) {e : Ending} (hR : UniR w0.heap.size A bs ts tv mv (.map none) W c e w') : UnionQ w0 A bs ts c n e w' := by
  obtain ⟨u, w2, hv, hc, hm, hK⟩ := hR
  have hun : u.nodes ≤ n := by rw [← Ty.nodes_canon, hc]; exact hn
  obtain ⟨i, bs', ts', tv', mv', x, rfl, k1, k2, k3, k4, k5, k6, k7⟩ := hK.done hv (by omega)
  exact ⟨i, bs', ts', tv', mv', x, rfl, h.step k1 ((LayM.of_memo hm).trans k2), by omega, k4, k5, k6.trans hc, by omega⟩

theorem widen_sta {w0 W : World} {A : Nat} {bs : List Nat} {ts : List Ty} {tv mv : Value} (h : Sta w0 W A bs ts tv mv) {z : Nat} {t : Ty} (hz : ts[z]? = some t) {n : Nat} (hn : (widenC t.canon).nodes ≤ n) (h5 : n ≤ 500) (hb : bs.length ≤ 100000) :
    Calls Tryz.prog 10 #[.pointer (some ⟨A, 0, none⟩), .int .i64 z] W (UnionQ w0 A bs ts (widenC t.canon) n) :=
  (Widen_in w0.heap.size A bs ts tv mv (.map none) z t W h.are hz h.glob (by omega)).mono fun _ _ hR => h.uni hn h5 hR

theorem fT_nodes (ov : Option Int) : ∀ n u, fT ov n = some u → u.nodes ≤ 1 := fun n u h => by rw [(fT_some h).2, Ty.nodes_mk]; simp

theorem subst_none_sta {w0 W : World} {A : Nat} {bs : List Nat} {ts : List Ty} {tv mv : Value} (h : Sta w0 W A bs ts tv mv) {z : Nat} {t : Ty} (hz : ts[z]? = some t) {n : Nat} (hn : t.nodes ≤ n) (h5 : n ≤ 500) (hb : bs.length ≤ 100000) :
    Calls Tryz.prog 11 #[.pointer (some ⟨A, 0, none⟩), .int .i64 z, .slice none 0 0, .slice none 0 0] W (UnionQ w0 A bs ts (substC (fT none) t.canon) n) :=
  (Subst_in none w0.heap.size A bs ts tv mv (.map none) z t [] none none 0 0 W h.are hz h.glob (by omega) (fun j z hj => by simp at hj) (fun z hz => by cases hz) (by simp) (fun W' la lc hW hr => (table_none la 0 lc W').mono fun _ _ ⟨mb, h1, h2, h3⟩ => ⟨mb, h1, h2 _ _, h3⟩)).mono fun _ _ hR => h.uni (by have := substC_nodes (fT_nodes none) t.canon; rw [Ty.nodes_canon] at this; omega) h5 hR

theorem canon_var {x : Ty} {v : Int} (h : x.canon = varT v) : x = varT v := by
  cases x with
  | mk k n nm ps ns ms =>
    rw [Ty.canon_mk] at h
    injection h with h1 h2 h3 h4 h5 h6
    subst h1
    rw [if_neg (by decide)] at h2
    rw [h2, h3, List.map_eq_nil_iff.1 h4, h5, h6]

theorem subst_one_sta {w0 W : World} {A : Nat} {bs : List Nat} {ts : List Ty} {tv mv : Value} (h : Sta w0 W A bs ts tv mv) {z : Nat} {t : Ty} (hz : ts[z]? = some t) {n : Nat} (hn : t.nodes ≤ n) (h5 : n ≤ 500) (hb : bs.length ≤ 100000) {me : Nat} {v : Int} (hme : ts[me]? = some (varT v)) (qa vc q2 c2 : Nat) (h0 : W.cell? ⟨qa, 0, none⟩ = some (.int .i64 v)) (h2 : W.cell? ⟨q2, 0, none⟩ = some (.int .i64 me)) :
    Calls Tryz.prog 11 #[.pointer (some ⟨A, 0, none⟩), .int .i64 z, .slice (some ⟨qa, 0, none⟩) 1 vc, .slice (some ⟨q2, 0, none⟩) 1 c2] W (UnionQ w0 A bs ts (substC (fT (some v)) t.canon) n) := by
  have hmel : me < bs.length := by rw [← h.are.len]; exact (List.getElem?_eq_some_iff.1 hme).1
  obtain ⟨b, hb'⟩ : ∃ b, bs[me]? = some b := ⟨_, List.getElem?_eq_getElem hmel⟩
  have hbt := h.are.ty me b _ hb' hme
  refine (Subst_in (some v) w0.heap.size A bs ts tv mv (.map none) z t [me] (some ⟨qa, 0, none⟩) (some ⟨q2, 0, none⟩) vc c2 W h.are hz h.glob (by omega) (fun j z' hj => ?_) (fun z' hz' => by rw [List.mem_singleton.1 hz']; exact hmel) (by simp) (fun W' la lc hW hr => ?_)).mono fun _ _ hR => h.uni (by have := substC_nodes (fT_nodes (some v)) t.canon; rw [Ty.nodes_canon] at this; omega) h5 hR
  · match j, hj with
    | 0, hj => simp at hj; subst hj; exact ⟨q2, 0, rfl, cell_lt5 h2, h2⟩
    | j + 1, hj => simp at hj
  · obtain ⟨g, cap, cur, hv, hg, _, hc⟩ := row_cells_gen hr (by simp)
    injection hv with e1 _ _
    subst e1
    have hc0 := hc 0 (ptrV b) (by simp [List.getD, hb'])
    rw [Nat.zero_add] at hc0
    exact table_one _ _ qa vc g lc v b W' ((hW.cells _ _ (cell_lt5 h0)).trans h0) ((cell_of hg 0).trans hc0) (hbt.up hW)

theorem find_var_sta {w0 W : World} {A : Nat} {bs : List Nat} {ts : List Ty} {tv mv : Value} (h : Sta w0 W A bs ts tv mv) (hb : bs.length ≤ 100000) {v : Int} (hv0 : 0 ≤ v) (hv1 : v ≤ 9223372036854775807) {m : Int} (hm : w0.cell? ⟨0, 0, none⟩ = some (.int .i64 m)) :
    Calls Tryz.prog 9 #[.pointer (some ⟨A, 0, none⟩), typV 18 v ⟨#[84]⟩ (.slice none 0 0) (.slice none 0 0) (.slice none 0 0)] W (UnionQ w0 A bs ts (varT v) 1) := by
  have hmW := (h.up.cells _ _ (cell_lt5 hm)).trans hm
  refine (Find_gen False (fun _ => True) w0.heap.size A bs ts tv mv (.map none) [] [] none 0 18 v ⟨#[84]⟩ (.slice none 0 0) (.slice none 0 0) [] [] m W ⟨h.are, (fun j z hj => by simp at hj), rfl, ⟨(fun t ht => by cases ht), (fun t ht => by cases ht), by simp, by simp⟩, h.glob, by omega, RowV.nil _ _, RowV.nil _ _, by simp, by simp, (fun s hs => by cases hs), by decide, hmW⟩ (fun W' vv hW hr => ?_)).mono ?_
  · obtain ⟨sa, cap, rfl⟩ := ownsRow_form hr
    refine (may_var v hv0 sa cap m W' ((hW.cells _ _ (cell_lt5 hmW)).trans hmW)).mono ?_
    rintro e w' ⟨rfl, hu⟩
    exact ⟨⟨true, rfl, fun _ => (varT_cv hv0 hv1).valid, fun e => by cases e⟩, hu⟩
  · rintro e w' (⟨h0, _⟩ | ⟨hvv, w2, hm2, hK⟩)
    · exact h0.elim
    · refine h.uni (c := varT v) (n := 1) (by rw [Ty.nodes_mk]; simp) (by decide) ⟨_, w2, hvv, (varT_cv hv0 hv1).same, hm2, hK⟩

/-- what holds of all parameters holds in any type -/
theorem Ty.varsOk_all {P : Int → ByteArray → Prop} (hP : ∀ n nm, P n nm) : ∀ (m : Nat) (t : Ty), t.nodes ≤ m → t.varsOk P := by
  intro m
  induction m with
  | zero => intro t h; have := t.nodes_pos; omega
  | succ m ih =>
    intro t h
    cases t with
    | mk k n nm ps ns ms => exact Ty.varsOk_mk.2 ⟨fun _ => hP n nm, fun p hp => ih p (by have := Ty.part_nodes (k := k) (n := n) (nm := nm) (ns := ns) (ms := ms) hp; omega)⟩
theorem Ty.varsOk_mono {P Q : Int → ByteArray → Prop} (hPQ : ∀ n nm, P n nm → Q n nm) : ∀ (m : Nat) (t : Ty), t.nodes ≤ m → t.varsOk P → t.varsOk Q := by
  intro m
  induction m with
  | zero => intro t h; have := t.nodes_pos; omega
  | succ m ih =>
    intro t h hv
    cases t with
    | mk k n nm ps ns ms =>
      have hv := Ty.varsOk_mk.1 hv
      exact Ty.varsOk_mk.2 ⟨fun e => hPQ _ _ (hv.1 e), fun p hp => ih p (by have := Ty.part_nodes (k := k) (n := n) (nm := nm) (ns := ns) (ms := ms) hp; omega) (hv.2 p hp)⟩
theorem subst_none_same {t : Ty} (h : CV t) : substC (fT none) t = t :=
  subst_same h.valid h.same (Ty.varsOk_all (fun n nm u hu => by have := (fT_some hu).1; cases this) _ t (Nat.le_refl _))
theorem subst_one_same {t : Ty} {v : Int} (h : CV t) (hv : t.varsOk (okT v)) : substC (fT (some v)) t = t :=
  subst_same h.valid h.same (Ty.varsOk_mono (fun n nm hn u hu => by
    obtain ⟨e1, e2⟩ := fT_some hu
    injection e1 with e1
    rw [e2, hn e1.symm]) _ t (Nat.le_refl _) hv)

end Go.Proofs.YtbghpkoimbmijaaGreatDoor

/- Walk: KindsSame. -/
namespace Go.Proofs.YtbghpkoimbmijaaGreatDoor
open Go.RowKit
set_option linter.unusedSimpArgs false
set_option linter.unusedVariables false

theorem two_lit (W : World) (a b : Value) (T T' : TypeId) : ((W.alloc (.cells #[a] T)).alloc (.cells #[b] T')).cell? ⟨W.heap.size, 0, none⟩ = some a ∧ ((W.alloc (.cells #[a] T)).alloc (.cells #[b] T')).cell? ⟨W.heap.size + 1, 0, none⟩ = some b :=
  ⟨cell_of (alloc_keep (alloc_get W (.cells #[a] T))) 0, cell_of (alloc_at (W.alloc (.cells #[a] T)) (.cells #[b] T') (W.heap.size + 1) (by simp only [World.size_alloc])) 0⟩

set_option maxRecDepth 100000 in
set_option maxHeartbeats 12800000 in
theorem kinds_same (xs : List Value) (x : Ty) (v m : Int) (w : World) (hx : TIs w.heap.size w xs x) (hxn : x.nodes ≤ 2000000) (hv1 : v ≤ 9223372036854775807) (hg : GlobB w.heap.size w) (hm : w.cell? ⟨0, 0, none⟩ = some (.int .i64 m)) :
    Calls Tryz.prog 3 #[.agg xs.toArray, .int .i64 v] w fun e w' => e = .returned (.bool true) ∧ Up w w' := by
  obtain ⟨x0, x1, x2, x3, x4, x5, rfl⟩ := hx.six
  have HX := Lib.hid (And.intro hx hxn)
  have HG := Lib.hid (And.intro hg (And.intro hm hv1))
  have hLX := Lib.hid (fun W (hW : Up w W) => large_any w.heap.size x _ W (HX.out.1.low (hW.below (Nat.le_refl _))) hW.size HX.out.2)
  have hNX := Lib.hid (fun W (hW : Up w W) => named_law v w.heap.size _ x _ W (Nat.le_refl _) (HX.out.1.low (hW.below (Nat.le_refl _))) hW.size)
  clear hx hxn hg hm hv1
  go_enter Tryz.func3, Tryz.ntmps3
  go_upto_region 1 with (fail)
  refine range_named fun A0 W0 hA0 hW0 => ?_
  have hu0 : Hid (Up w W0) := by subst hW0; exact uq
  obtain ⟨qx, hqx⟩ : ∃ q, Hid (w.heap.size = q) := ⟨_, rfl⟩
  have HQX : Hid (W0.heap[qx]? = some (.cells #[x0, x1, x2, x3, x4, x5] RefT (0, 0))) := by subst hW0; rw [← hqx.out]; exact alloc_at _ _ _ rfl
  rw [hqx.out] at hA0
  clear hW0
  subst hA0
  have s := HQX.out; have q0 := cell_of s 0; have p0 := ice_of s 0; have q1 := cell_of s 1; have p1 := ice_of s 1; have q2 := cell_of s 2; have p2 := ice_of s 2; have q3 := cell_of s 3; have p3 := ice_of s 3; have q4 := cell_of s 4; have p4 := ice_of s 4; have q5 := cell_of s 5; have p5 := ice_of s 5; have q9 := lt_of_heap s; (try simp only [World.size_alloc, List.getElem?_toArray, List.getElem?_cons_zero, List.getElem?_cons_succ] at q0 q1 q2 q3 q4 q5 p0 p1 p2 p3 p4 p5 q9); clear s
  go_wp2_with fail
  refine (hLX.out W0 hu0.out).mono ?_
  rintro e w1 ⟨b1, rfl, hb1, hu1⟩
  have HB1 := Lib.hid hb1
  have HW1 : Hid (Up W0 w1) := hu1
  clear hb1 hu1
  cases b1
  rotate_left
  · go_wp2_with (first | (go_at_call 6; refine (known_any _).mono ?_; rintro e wk ⟨rfl, huk⟩))
    go_ret
    exact ⟨rfl, hu0.out.trans (HW1.out.trans (show Up w1 _ from uq))⟩
  by_cases hv0 : v < 0
  · go_wp2_with (first | (go_at_call 6; refine (known_any _).mono ?_; rintro e wk ⟨rfl, huk⟩))
    go_ret
    exact ⟨rfl, hu0.out.trans (HW1.out.trans (show Up w1 _ from uq))⟩
  have HU1 : Hid (Up w w1) := hu0.out.trans HW1.out
  go_wp2_with fail
  refine (New_any w1).mono ?_
  rintro e w4 ⟨A, bs, g, tv, rfl, hf, hu4⟩
  have hS4 : Sta w1 w4 A bs tenT tv (.map (some g)) := Sta.new hf hu4 ((HG.out.1.memo (Memo.of_up none1 _ HU1.out)).mono HU1.out.size)
  have hTX : Hid (TIs w1.heap.size w1 [x0, x1, x2, x3, x4, x5] x) := (HX.out.1.low (HU1.out.below (Nat.le_refl _))).mono HU1.out.size
  have hM1 : Hid (w1.cell? ⟨0, 0, none⟩ = some (.int .i64 m)) := (HU1.out.cells _ _ (cell_lt5 HG.out.2.1)).trans HG.out.2.1
  have hl4 : Hid (bs.length = 10) := hf.len
  have HS4 := Lib.hid hS4
  have s := (HW1.out.trans hS4.up).get HQX.out; have q0 := cell_of s 0; have p0 := ice_of s 0; have q1 := cell_of s 1; have p1 := ice_of s 1; have q2 := cell_of s 2; have p2 := ice_of s 2; have q3 := cell_of s 3; have p3 := ice_of s 3; have q4 := cell_of s 4; have p4 := ice_of s 4; have q5 := cell_of s 5; have p5 := ice_of s 5; have q9 := lt_of_heap s; (try simp only [World.size_alloc, List.getElem?_toArray, List.getElem?_cons_zero, List.getElem?_cons_succ] at q0 q1 q2 q3 q4 q5 p0 p1 p2 p3 p4 p5 q9); clear s
  clear hS4 hf
  go_wp2_with fail
  refine (laid_sta (HS4.out.later uq) hTX.out hM1.out (HB1.out (by first | rfl | trivial)) (by have := hl4.out; omega)).mono ?_
  rintro e w5 ⟨p, ok5, bs5, ts5, tv5, mv5, rfl, hS5, hl5, hx5⟩
  have HS5 := Lib.hid (And.intro hS5 (And.intro hl5 hx5))
  clear hS5 hl5 hx5 hu4
  go_wp2_with fail
  refine (find_var_sta (v := v) (HS5.out.1.later uq) (by have := hl4.out; have := HS5.out.2.1; rw [List.length_append]; omega) (by omega) HG.out.2.2 hM1.out).mono ?_
  rintro e w6 ⟨me, bs6, ts6, tv6, mv6, X6, rfl, hS6, hl6, hx6, hv6, hc6, hn6⟩
  obtain rfl := canon_var hc6
  have HS6 := Lib.hid (And.intro hS6 (And.intro hl6 hx6))
  have HU6 : Hid (Up w w6) := Up.trans HU1.out hS6.up
  clear hS6 hl6 hx6 hv6 hc6 hn6
  cases ok5
  · go_wp2_with (first | (go_at_call 6; refine (known_any _).mono ?_; rintro e wk ⟨rfl, huk⟩))
    go_ret
    exact ⟨rfl, Up.trans HU6.out (show Up w6 _ from uq)⟩
  obtain ⟨P, hP1, hP2, hP3⟩ := HS5.out.2.2 (by first | rfl | trivial)
  obtain ⟨BS, hBS⟩ : ∃ BS, bs ++ bs5 ++ bs6 = BS := ⟨_, rfl⟩
  obtain ⟨TS, hTS⟩ : ∃ TS, tenT ++ ts5 ++ ts6 = TS := ⟨_, rfl⟩
  have hPT : TS[p]? = some P := by rw [← hTS]; exact more hP1
  have hMT : TS[me]? = some (varT v) := by rw [← hTS]; exact HS6.out.2.2
  have hS6 := HS6.out.1
  rw [hBS, hTS] at hS6
  have hbl : BS.length ≤ 7000 := by
    rw [← hBS]
    have := hl4.out
    have := HS5.out.2.1
    have := HS6.out.2.1
    simp only [List.length_append]
    omega
  have hcP := CV.of (hS6.are.good _ (List.mem_of_getElem? hPT)).1
  have hwn : (widenC P.canon).nodes ≤ 180 := by have := widenC_nodes P.canon; rw [Ty.nodes_canon] at this; omega
  have hsp : x.varsOk (okT v) → substC (fT (some v)) P.canon = P.canon := fun h => subst_one_same hcP ((Ty.varsOk_canon P).2 (hP3 _ h))
  have HT := Lib.hid (And.intro hS6 (And.intro hbl (And.intro hPT (And.intro hMT (And.intro hP2 (And.intro hcP (And.intro hwn hsp)))))))
  clear hS6 hbl hPT hMT hP1 hP2 hP3 hcP hwn hsp hBS hTS HS4 HS5 HS6 hTX hLX
  go_wp2_with fail
  refine (widen_sta (HT.out.1.later uq) HT.out.2.2.1 HT.out.2.2.2.2.2.2.1 (by decide) (by have := HT.out.2.1; omega)).mono ?_
  rintro e w7 ⟨q, bs7, ts7, tv7, mv7, Q, rfl, hS7, hl7, hx7, hv7, hc7, hn7⟩
  have hw7 : widenC Q.canon = widenC P.canon := by rw [hc7, widen_twice HT.out.2.2.2.2.2.1]
  have H7 := Lib.hid (And.intro hS7 (And.intro hl7 (And.intro hx7 (And.intro hc7 hw7))))
  clear hS7 hl7 hx7 hv7 hc7 hn7 hw7
  go_wp2_with fail
  refine (widen_sta (n := 180) (H7.out.1.later uq) H7.out.2.2.1 (by rw [H7.out.2.2.2.2]; exact HT.out.2.2.2.2.2.2.1) (by decide) (by have := HT.out.2.1; have := H7.out.2.1; rw [List.length_append]; omega)).mono ?_
  rintro e w8 ⟨r, bs8, ts8, tv8, mv8, R, rfl, hS8, hl8, hx8, hv8, hc8, hn8⟩
  have H8 := Lib.hid (And.intro hS8 (And.intro hl8 (And.intro hx8 hc8)))
  clear hS8 hl8 hx8 hv8 hc8 hn8
  go_wp2_with fail
  refine (subst_one_sta (H8.out.1.later uq) (more (more HT.out.2.2.1)) HT.out.2.2.2.2.1 (by decide) (by have := HT.out.2.1; have := H7.out.2.1; have := H8.out.2.1; simp only [List.length_append]; omega) (more (more HT.out.2.2.2.1)) _ _ _ _ (two_lit _ _ _ _ _).1 (two_lit _ _ _ _ _).2).mono ?_
  rintro e w9 ⟨s, bs9, ts9, tv9, mv9, S, rfl, hS9, hl9, hx9, hv9, hc9, hn9⟩
  have H9 := Lib.hid (And.intro hS9 (And.intro hl9 (And.intro hx9 hc9)))
  clear hS9 hl9 hx9 hv9 hc9 hn9
  go_wp2_with fail
  refine (subst_none_sta (H9.out.1.later uq) (more (more (more HT.out.2.2.1))) HT.out.2.2.2.2.1 (by decide) (by have := HT.out.2.1; have := H7.out.2.1; have := H8.out.2.1; have := H9.out.2.1; simp only [List.length_append]; omega)).mono ?_
  rintro e wA ⟨u, bsA, tsA, tvA, mvA, U, rfl, hSA, hlA, hxA, hvA, hcA, hnA⟩
  have hqr : Hid (q = r) := hSA.same (more (more (more H7.out.2.2.1))) (more (more H8.out.2.2.1)) (by rw [H7.out.2.2.2.1, H8.out.2.2.2, H7.out.2.2.2.2])
  have hup' : Hid (u = p) := hSA.same hxA (more (more (more (more HT.out.2.2.1)))) (by rw [hcA, subst_none_same HT.out.2.2.2.2.2.1])
  have hsp : Hid (x.varsOk (okT v) → s = p) := fun h => hSA.same (more H9.out.2.2.1) (more (more (more (more HT.out.2.2.1)))) (by rw [H9.out.2.2.2, HT.out.2.2.2.2.2.2.2 h])
  have HUA : Hid (Up w wA) := Up.trans HU1.out hSA.up
  have sb := (HW1.out.trans hSA.up).get HQX.out; have q0 := cell_of sb 0; have p0 := ice_of sb 0; have q1 := cell_of sb 1; have p1 := ice_of sb 1; have q2 := cell_of sb 2; have p2 := ice_of sb 2; have q3 := cell_of sb 3; have p3 := ice_of sb 3; have q4 := cell_of sb 4; have p4 := ice_of sb 4; have q5 := cell_of sb 5; have p5 := ice_of sb 5; have q9 := lt_of_heap sb; (try simp only [World.size_alloc, List.getElem?_toArray, List.getElem?_cons_zero, List.getElem?_cons_succ] at q0 q1 q2 q3 q4 q5 p0 p1 p2 p3 p4 p5 q9); clear sb
  clear hSA hlA hxA hvA hcA hnA
  go_wp2_with (first
    | (go_at_call 12; refine (hNX.out _ (HUA.out.trans (show Up wA _ from uq))).mono ?_; (rintro e wn ⟨(_ | _), rfl, hbn, hun⟩ <;> (have HN := Lib.hid hbn; clear hbn)))
    | (go_at_call 6; refine (known_any _).mono ?_; rintro e wk ⟨rfl, huk⟩))
  all_goals go_ret
  all_goals first
    | exact ⟨rfl, Up.trans HUA.out (show Up wA _ from uq)⟩
    | (exfalso; have h1 := hqr.out; have h2 := hup'.out; omega)
    | (exfalso; have h3 := hsp.out (HN.out (by first | rfl | trivial)); omega)
    | (exfalso; have h1 := hqr.out; have h2 := hup'.out; simp_all; done)

end Go.Proofs.YtbghpkoimbmijaaGreatDoor

/- What the tables of the start hold. -/
namespace Go.Proofs.YtbghpkoimbmijaaGreatDoor
open Go.ChangeShapes Go.WideShapes Go.ChangeAt Go.RowKit
set_option linter.unusedVariables false
set_option maxRecDepth 100000

theorem tab_of {W : World} (h : laidMetH Tryz.prog Rows.kindsSameUptoRow.laid W) : Tab W := by
  have h1 := (laidMetH_iff.1 h).1
  have h2 := h1.filter (fun x => x.1 == "internal/strconv.uint64pow10")
  exact Lib.tabIs_of_head (g := 1) (rest := []) (by kernel_rfl) (by kernel_rfl) Tryz.underlying174 Tryz.underlying162 (by kernel_rfl) (by kernel_rfl) (show laidMet Tryz.prog [("internal/strconv.uint64pow10", Lib.tabData .u64 Lib.pow10Tab)] W from h2)
def bruTab : List Int := [0, 1, 56, 2, 57, 49, 28, 3, 61, 58, 42, 50, 38, 29, 17, 4, 62, 47, 59, 36, 45, 43, 51, 22, 53, 39, 33, 30, 24, 18, 12, 5, 63, 55, 48, 27, 60, 41, 37, 16, 46, 35, 44, 21, 52, 32, 23, 11, 54, 26, 40, 15, 34, 20, 31, 10, 25, 14, 19, 9, 13, 8, 7, 6]
theorem bru_of {W : World} (h : laidMetH Tryz.prog Rows.kindsSameUptoRow.laid W) : Bru W := by
  have h1 := (laidMetH_iff.1 h).1
  have h2 := h1.filter (fun x => x.1 == "math/bits.deBruijn64tab")
  have h3 : Lib.TabIs Tryz.prog W "math/bits.deBruijn64tab" .u8 bruTab := Lib.tabIs_of_head (g := 3) (rest := []) (by kernel_rfl) (by kernel_rfl) Tryz.underlying181 Tryz.underlying5 (by kernel_rfl) (by kernel_rfl) (show laidMet Tryz.prog [("math/bits.deBruijn64tab", Lib.tabData .u8 bruTab)] W from h2)
  exact h3.cell (g := 3) (by kernel_rfl) 15 (by decide)

theorem plain_of {cs : Array Value} {T : TypeId} {f : Nat × Nat} (h1 : T ≠ TyT) (h2 : T ≠ TpT) : Plain (.cells cs T f) := fun cs' f' =>
  ⟨fun e => by injection e with _ e _; exact h1 e, fun e => by injection e with _ e _; exact h2 e⟩
theorem glob_of {W : World} (h : laidMetH Tryz.prog Rows.kindsSameUptoRow.laid W) (hs : W.ShapedOpen Tryz.prog) : GlobB W.heap.size W := by
  have ht := tab_of h
  have hb := bru_of h
  obtain ⟨cs0, h0, _, _⟩ := hs.1 1 (List.replicate 20 (Value.int .u64 0)).toArray 174 (of_decide_eq_true (by kernel_rfl)) (by kernel_rfl)
  obtain ⟨cs3, h3, _, _⟩ := hs.1 3 (List.replicate 64 (Value.int .u8 0)).toArray 181 (of_decide_eq_true (by kernel_rfl)) (by kernel_rfl)
  intro w1 k1 w2 k2
  have p0 : w2.heap[(1 : Nat)]? = W.heap[(1 : Nat)]? := (k2 _ _ (k1 _ _ (lt_of_heap h0) h0) (plain_of (by decide) (by decide))).trans h0.symm
  have p3 : w2.heap[(3 : Nat)]? = W.heap[(3 : Nat)]? := (k2 _ _ (k1 _ _ (lt_of_heap h3) h3) (plain_of (by decide) (by decide))).trans h3.symm
  refine ⟨?_, ?_⟩
  · unfold Tab Lib.TabIs World.var? at ht ⊢
    rw [show Tryz.prog.globalNamed "internal/strconv.uint64pow10" = some 1 by kernel_rfl] at ht ⊢
    simp only [Option.bind_some] at ht ⊢
    rw [p0]
    exact ht
  · unfold Bru World.cell? at hb ⊢
    simp only at hb ⊢
    rw [p3]
    exact hb

theorem max_of {W : World} (hs : W.ShapedOpen Tryz.prog) : ∃ m, W.cell? ⟨0, 0, none⟩ = some (.int .i64 m) := by
  obtain ⟨cs, hh, hz, hr⟩ := hs.1 0 #[.int .i64 0] 3 (of_decide_eq_true (by kernel_rfl)) (by kernel_rfl)
  obtain ⟨ts, hts, _, hall⟩ := hr (by kernel_rfl)
  rw [show Tryz.prog.cellTypes Tryz.prog.depth 3 = some [3] by kernel_rfl] at hts
  cases hts
  have h1 : 0 < cs.size := by rw [hz]; decide
  obtain ⟨u, hu', hok⟩ := hall 0 cs[0] (by simp [h1])
  have : u = 3 := by simpa using hu'.symm
  subst this
  have hcell : W.cell? ⟨0, 0, none⟩ = some cs[0] := by simp [World.cell?, hh, h1]
  rw [hcell]
  unfold Cell.ok at hok
  rw [Tryz.underlying3] at hok
  cases hv : cs[0] with
  | int k n =>
    rw [hv] at hok
    simp only at hok
    rw [hok.1]
    exact ⟨_, rfl⟩
  | _ => rw [hv] at hok; simp at hok

end Go.Proofs.YtbghpkoimbmijaaGreatDoor
