import Derived.Test.YtbghpkoimbmijaaGreatDoorKD
/- Walks: the first type that an arena lays; New. -/
namespace Go.Proofs.YtbghpkoimbmijaaGreatDoor
open Go.RowKit
set_option linter.unusedSimpArgs false

theorem leaf_text (b : Nat) (k : Int) (h1 : 1 ≤ k) (h2 : k ≤ 10) (w : World) (h : Leaf w b k ⟨#[]⟩) : TextOk b (wordS k) (fun cs => cs = leafC k (wordS k)) w := fun W hW =>
  (text_leaf b k h1 h2 W (hW.get h)).mono fun _ _ ⟨e, l, kp⟩ => ⟨e, ⟨_, l, rfl⟩, kp⟩

theorem Kept.belowB {S : Nat → Prop} {B : Nat} {w w' : World} (h : Kept S w w') (hs : ∀ x, x < B → ¬ S x) (hB : B ≤ w.heap.size) : Below B w w' :=
  ⟨h.os, h.tape, h.output, h.size, fun x hx => h.block x (by omega) (hs x hx)⟩

theorem word_ne (k : Int) : ((wordS k).toList == []) = false := by
  unfold wordS
  repeat' split
  all_goals kernel_rfl

set_option maxRecDepth 100000 in
set_option maxHeartbeats 6400000 in
theorem lay_first (B A b : Nat) (k : Int) (h1 : 1 ≤ k) (h2 : k ≤ 10) (w : World) (hA : w.heap[A]? = some (.cells #[.slice none 0 0, .map none, .map none] ArT (0, 0))) (hb : Leaf w b k ⟨#[]⟩) (hBA : B ≤ A) (hBb : B ≤ b) :
    Calls Tryz.prog 21 #[.pointer (some ⟨A, 0, none⟩), .pointer (some ⟨b, 0, none⟩)] w fun e w' => e = .returned (.int .i64 0) ∧ (∃ g tv', Ar w' B A [b] [wordS k] tv' (.map (some g))) ∧ Leaf w' b k (wordS k) ∧ LayK B A b (.slice none 0 0) w w' := by
  have HA := Lib.hid hA
  have HK := Lib.hid (And.intro h1 h2)
  have HB := Lib.hid hb
  have HBB := Lib.hid (And.intro hBA hBb)
  have hAb : A ≠ b := fun e => by
    rw [e] at hA
    rw [show w.heap[b]? = _ from hb] at hA
    injection hA with q
    injection q with _ q _
    exact absurd q (by decide)
  have a1 := cell_of hA 1
  have a4 := lt_of_heap hA
  simp only [List.getElem?_toArray, List.getElem?_cons_zero, List.getElem?_cons_succ] at a1
  obtain ⟨s, hs⟩ : ∃ s, Hid (wordS k = s) := ⟨_, rfl⟩
  have hne : Hid ((s.toList == []) = false) := by rw [← hs.out]; exact word_ne k
  have hneq : ∀ w, (binOp .eql 56 (.map none) (.map none)).run Tryz.prog w = .ok (.bool true) w := fun _ => by kernel_rfl
  have hl0 : ∀ W : World, (Instr.lookup 56 (.map none) (.string s) true).run Tryz.prog W = .ok (.tuple #[.int .i64 0, .bool false]) W := fun W =>
    (run_lookup_none (kf := Value.string) (z := .int .i64 0) Tryz.underlying56 Tryz.underlying9 strKeys (show (zeroValue 3).run Tryz.prog W = .ok (.int .i64 0) W by kernel_rfl) s).1
  have hmm := @run_makeMap Tryz.prog
  clear hA hb h1 h2 hBA hBb
  rw [hs.out]
  go_enter Tryz.func21, Tryz.ntmps21
  go_wp2_with fail
  go_region_law (first | (go_simp; go_at_call 34; refine (text_leaf b k HK.out.1 HK.out.2 _ (Up.get (w := w) uq HB.out)).mono ?_; rintro e w2 ⟨rfl, hl2, hk2⟩; rw [hs.out] at *; have hA2 := Lib.hid (hk2.get (show w.drew.heap[A]? = _ from HA.out) hAb); have f1 := ice_of hA2.out 1; have a1 := cell_of hA2.out 1; simp only [List.getElem?_toArray, List.getElem?_cons_zero, List.getElem?_cons_succ] at a1; have a4 := lt_of_heap hA2.out; have b3 := cell_of hl2 3; simp only [List.getElem?_toArray, List.getElem?_cons_zero, List.getElem?_cons_succ] at b3; have bl := lt_of_heap hl2))
  all_goals (go_wp2_with fail)
  all_goals refine wp_loop_rounds 1 ?_
  all_goals rw [rounds_succ]
  all_goals (go_upto_region 11 with (fail))
  all_goals
    refine range_named fun A2 W2 hA2' hW2 => ?_
    have hg2 : Hid (W2.heap[w2.heap.size]? = some (.map #[] 0)) := by subst hW2; exact alloc_at _ _ _ (by simp [setCell_size])
    have hh2 : Hid (W2.heap[A]? = some (.cells #[.slice none 0 0, .map (some w2.heap.size), .map none] ArT (0, 0))) := by subst hW2; exact alloc_keep (setCell_block (i := 1) hA2.out _)
    have hl3 : Hid (Leaf W2 b k s) := by subst hW2; exact alloc_keep ((setCell_other (fun e => hAb e.symm) _).trans hl2)
    have hk3 : Hid (Kept (fun x => x = A) w2 W2) := by subst hW2; exact (Kept.setCell (S := fun x => x = A) (p := ⟨A, 1, none⟩) (Kept.refl _ _) (.inl rfl) _).alloc _
    obtain ⟨g, hg⟩ : ∃ g, Hid (w2.heap.size = g) := ⟨_, rfl⟩
    rw [hg.out] at hg2 hh2 hA2'
    have hBs : B ≤ w2.heap.size := Nat.le_trans HBB.out.1 (Nat.le_of_lt (lt_of_heap hA2.out))
    have HAr : Hid (Ar W2 B A [] [] (.slice none 0 0) (.map (some g))) := {
      base := HBB.out.1
      head := hh2.out
      row := ⟨rfl, .inl ⟨rfl, rfl⟩⟩
      rowB := fun g' hg' => by cases hg'
      ids := .inr ⟨g, #[], 0, rfl, by rw [← hg.out]; exact hBs, hg2.out, rfl⟩
      len := rfl
      nodup := List.nodup_nil
      few := by simp
      said := fun i c u h1 _ => by simp at h1 }
    have HS3 : Hid (Said W2 b s) := hl3.out.said
    have hlow : Hid (Below B w W2) := Below.trans (Kept.belowB (w := w) ⟨hk2.os, hk2.tape, hk2.output, hk2.size, hk2.block⟩ (fun x hx e => by have := HBB.out.2; have e : x = b := e; omega) (Nat.le_trans HBB.out.1 (Nat.le_of_lt (lt_of_heap HA.out)))) (hk3.out.belowB (fun x hx e => by have := HBB.out.1; have e : x = A := e; omega) hBs)
    have hkk : Hid (∀ (x : Nat) (cs : Array Value) (t : TypeId) (fz : Nat × Nat), x ≠ A → x ≠ b → w.heap[x]? = some (.cells cs t fz) → W2.heap[x]? = some (.cells cs t fz)) := fun x cs t fz h1 h2 hx => hk3.out.get (hk2.get (show w.drew.heap[x]? = _ from hx) h2) h1
    obtain ⟨es', clk', hst, hE'⟩ := run_store_miss (f := numV) (P := Tryz.prog) (es := #[]) (clk := 0) (l := []) (w := W2.drew) Tryz.underlying56 Tryz.underlying9 strKeys hg2.out rfl s 0 (by simp)
    have HE' := Lib.hid hE'
    have hst : (Instr.mapUpdate 56 (.map (some g)) (.string s) (.int .i64 0)).run Tryz.prog W2.drew = .ok () (putB W2.drew g (.map es' clk')) := hst
    have a1 := cell_of HAr.out.head 1
    have a0 := cell_of HAr.out.head 0
    have f0 := ice_of HAr.out.head 0
    have a4 := lt_of_heap HAr.out.head
    simp only [List.getElem?_toArray, List.getElem?_cons_zero, List.getElem?_cons_succ] at a0 a1
    clear hE' hW2 hBs hl2 hk2
    subst hA2'
    go_region_law (first | (go_simp; go_at_call 34; refine (text_said b s hne.out _ (HS3.out.up uq).cell).mono ?_; rintro e w5 ⟨rfl, rfl⟩))
  all_goals (go_upto_region 12 with (fail))
  all_goals
    refine range_named fun A3 W3 hA3 hW3 => ?_
    have hAg : A ≠ g := fun e => by
      have q : W2.drew.heap[g]? = _ := hg2.out
      rw [← e, show W2.drew.heap[A]? = _ from HAr.out.head] at q
      cases q
    have hz3 : W3.heap.size = W2.heap.size := by subst hW3; exact putB_size _ _ _
    have hot3 : ∀ x, x ≠ g → W3.heap[x]? = W2.heap[x]? := fun x hx => by subst hW3; exact putB_other _ _ _ _ hx
    have hg3 : Hid (W3.heap[g]? = some (.map es' clk')) := by subst hW3; exact putB_same _ _ _ (lt_of_heap hg2.out)
    have hos3 : Hid (W3.os = W2.os ∧ W3.tape = W2.tape ∧ W3.output = W2.output) := by subst hW3; exact ⟨rfl, rfl, rfl⟩
    clear hW3
    subst hA3
    have hhd3 : Hid (W3.heap[A]? = some (.cells #[.slice none 0 0, .map (some g), .map none] ArT (0, 0))) := (hot3 A hAg).trans HAr.out.head
    have hrb : ∀ g', (Value.slice none 0 0).ownBlock = some g' → ∃ cur, W2.heap[g']? = some (.cells cur TpT (0, 0)) := fun g' hg' => by
      rcases HAr.out.row.2 with ⟨hv, _⟩ | ⟨g'', cap, cur, hv, _, hc, _⟩
      · rw [hv] at hg'; cases hg'
      · rw [hv] at hg'; cases hg'; exact ⟨cur, hc⟩
    have hrA : (Value.slice none 0 0).ownBlock ≠ some A := fun e => by
      obtain ⟨cur, hc⟩ := hrb A e
      rw [HAr.out.head] at hc
      injection hc with hc
      injection hc with _ hc _
      exact absurd hc (by decide)
    have hrg : (Value.slice none 0 0).ownBlock ≠ some g := fun e => by
      obtain ⟨cur, hc⟩ := hrb g e
      have q : W2.drew.heap[g]? = _ := hg2.out
      rw [show W2.drew.heap[g]? = _ from hc] at q
      cases q
    have row3 : Hid (W3.ownsRow 0 TpT 1 (.slice none 0 0) 0 []) := ownsRow_keep HAr.out.row fun g' hg' => hot3 g' (fun e => hrg (by rw [← e]; exact hg'))
    have HZ := Lib.hid (And.intro hot3 (And.intro hrA (And.intro hrg hAg)))
    have a0 := cell_of hhd3.out 0
    have f0 := ice_of hhd3.out 0
    have a4 := lt_of_heap hhd3.out
    simp only [List.getElem?_toArray, List.getElem?_cons_zero, List.getElem?_cons_succ] at a0
    clear hot3 hrb hrA hrg hAg hst
    obtain ⟨i0, hi, hz0, hz1, hz2⟩ := info_parts typ_info
    go_wp2_with (first | (at_builtin; go_must (refine wpList_append_new rfl _ _ 55 rfl TpT i0 (.pointer none) 1 8 Tryz.underlying55 hi hz0 hz1 hz2 rfl (by decide) (.slice none 0 0) 0 [] rfl (ownsRow_up row3.out uq) _ 1 1 rfl (by first | rfl | (simp; done) | omega | (trace_state; exact rfl)) rfl (by intro u hu; have hu2 : u = .pointer (some ⟨b, 0, none⟩) := (by simpa using hu); rw [hu2]; rfl) (by unfold maxLen; omega) (by omega) ?_; intro sa' cap' w7 hown' hgrow hblk; (try simp only [World.size_alloc] at hblk); have hd := Lib.hid (grown_get hgrow (Up.get (w := W3) uq hhd3.out) HZ.out.2.1); have a0 := cell_of hd.out 0; have f0 := ice_of hd.out 0; have a4 := lt_of_heap hd.out; simp only [List.getElem?_toArray, List.getElem?_cons_zero, List.getElem?_cons_succ] at a0; have HY := Lib.hid (And.intro hown' (And.intro hgrow hblk)); clear hown' hgrow hblk)))
    go_ret
    obtain ⟨⟨tv', h1⟩, ⟨cs9, h2, h3⟩, h4⟩ := lay_end (Pc := fun cs => cs = leafC k s) (bs := []) (ws := []) rfl HAr.out hl3.out HBB.out.2 (by simp) (show Kept (fun x => x = b) W2.drew W2 from ⟨rfl, rfl, rfl, Nat.le_refl _, fun _ _ _ => rfl⟩) ⟨hl3.out, rfl⟩ rfl hne.out (by simp) (by simp) (Up.refl W2) hg2.out hz3 HZ.out hg3.out hos3.out HE'.out hd.out HY.out.1 HY.out.2.1 HY.out.2.2
    subst h3
    exact ⟨rfl, ⟨g, tv', h1⟩, h2, Below.trans hlow.out h4.low, fun x cs t fz q1 q2 q3 q4 => h4.kept x cs t fz q1 q2 q3 (hkk.out x cs t fz q1 q3 q4)⟩

end Go.Proofs.YtbghpkoimbmijaaGreatDoor
