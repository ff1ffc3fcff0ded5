import Derived.Test.YtbghpkoimbmijaaGreatDoorKeep
/- Walks: types without parts: made, basic, word, text. -/
namespace Go.Proofs.YtbghpkoimbmijaaGreatDoor
open Go.RowKit
set_option linter.unusedSimpArgs false

abbrev TyT : TypeId := 73
abbrev TpT : TypeId := 63
/-- the cells of one of the ten -/
abbrev leafC (k : Int) (s : ByteArray) : Array Value := #[.int .i64 k, .int .i64 0, .string ⟨#[]⟩, .slice none 0 0, .slice none 0 0, .slice none 0 0, .int .i64 1, .string s]
def Leaf (w : World) (b : Nat) (k : Int) (s : ByteArray) : Prop := w.heap[b]? = some (.cells (leafC k s) TyT (0, 0))

def wordS (k : Int) : ByteArray :=
  if k = 1 then ⟨#[97, 110, 121]⟩ else if k = 2 then ⟨#[117, 110, 107, 110, 111, 119, 110]⟩ else if k = 3 then ⟨#[110, 101, 118, 101, 114]⟩ else if k = 4 then ⟨#[118, 111, 105, 100]⟩
  else if k = 5 then ⟨#[117, 110, 100, 101, 102, 105, 110, 101, 100]⟩ else if k = 6 then ⟨#[110, 117, 108, 108]⟩ else if k = 7 then ⟨#[110, 117, 109, 98, 101, 114]⟩ else if k = 8 then ⟨#[115, 116, 114, 105, 110, 103]⟩
  else if k = 9 then ⟨#[116, 114, 117, 101]⟩ else ⟨#[102, 97, 108, 115, 101]⟩

theorem idx_word (k : Int) (h1 : 1 ≤ k) (h2 : k ≤ 10) : ∀ w : World, (Instr.index 153 (.agg #[.string ⟨#[97, 110, 121]⟩, .string ⟨#[117, 110, 107, 110, 111, 119, 110]⟩, .string ⟨#[110, 101, 118, 101, 114]⟩, .string ⟨#[118, 111, 105, 100]⟩, .string ⟨#[117, 110, 100, 101, 102, 105, 110, 101, 100]⟩, .string ⟨#[110, 117, 108, 108]⟩, .string ⟨#[110, 117, 109, 98, 101, 114]⟩, .string ⟨#[115, 116, 114, 105, 110, 103]⟩, .string ⟨#[116, 114, 117, 101]⟩, .string ⟨#[102, 97, 108, 115, 101]⟩]) (.int .i64 (k - 1))).run Tryz.prog w = .ok (.string (wordS k)) w := by
  have hk : k = 1 ∨ k = 2 ∨ k = 3 ∨ k = 4 ∨ k = 5 ∨ k = 6 ∨ k = 7 ∨ k = 8 ∨ k = 9 ∨ k = 10 := by omega
  clear h1 h2
  intro w
  rcases hk with rfl | rfl | rfl | rfl | rfl | rfl | rfl | rfl | rfl | rfl <;> kernel_rfl

set_option maxRecDepth 100000 in
set_option maxHeartbeats 1600000 in
theorem word_any (k : Int) (h1 : 1 ≤ k) (h2 : k ≤ 10) (w : World) : Calls Tryz.prog 77 #[.int .i64 k] w fun e w' => e = .returned (.string (wordS k)) ∧ Up w w' := by
  have i0 := idx_word k h1 h2
  obtain ⟨s, hs⟩ : ∃ s, Hid (wordS k = s) := ⟨_, rfl⟩
  rw [hs.out] at i0 ⊢
  go_enter Tryz.func77, Tryz.ntmps77
  go_wp2_with fail
  go_ret
  exact ⟨rfl, uq⟩

/-- a size, reckoned -/
def sizeL (n : Nat) (l : List (Nat × Nat)) : Nat := l.foldl (fun a x => min (a + x.2) 1099511627776) n
theorem sizeL_le : ∀ (l : List (Nat × Nat)) (n : Nat), n ≤ 1099511627776 → sizeL n l ≤ 1099511627776
  | [], _, h => h
  | _ :: l, _, _ => sizeL_le l _ (Nat.min_le_right _ _)

/-- parts: a row of pointers to blocks, each with its size -/
structure Parts (w : World) (pv : Value) (ps : List (Nat × Nat)) : Prop where
  form : ∃ pa cap, pv = .slice pa ps.length cap
  at_ : ∀ (j : Nat) (x : Nat × Nat), ps[j]? = some x → ∃ g off cap, pv = .slice (some ⟨g, off, none⟩) ps.length cap ∧ g < w.heap.size ∧ w.cell? ⟨g, off + j, none⟩ = some (.pointer (some ⟨x.1, 0, none⟩)) ∧ x.1 < w.heap.size ∧ w.cell? ⟨x.1, 6, none⟩ = some (.int .i64 x.2) ∧ x.2 ≤ 1099511627776
  few : ps.length ≤ 1000000000
theorem Parts.up {w w' : World} {pv : Value} {ps : List (Nat × Nat)} (h : Parts w pv ps) (k : Up w w') : Parts w' pv ps :=
  ⟨h.form, fun j x hx => let ⟨g, off, cap, h1, h2, h3, h4, h5, h6⟩ := h.at_ j x hx; ⟨g, off, cap, h1, Nat.lt_of_lt_of_le h2 k.size, (k.cells _ _ h2).trans h3, Nat.lt_of_lt_of_le h4 k.size, (k.cells _ _ h4).trans h5, h6⟩, h.few⟩
theorem Parts.nil (w : World) : Parts w (.slice none 0 0) [] := ⟨⟨_, 0, rfl⟩, fun j x hx => by simp at hx, by simp⟩

set_option maxRecDepth 100000 in
set_option maxHeartbeats 3200000 in
theorem made_any (k n : Int) (nm : ByteArray) (pv nv mv : Value) (ps : List (Nat × Nat)) (w : World) (h : Parts w pv ps) (hn : ∃ a l c, nv = .slice a l c) (hm : ∃ a l c, mv = .slice a l c) :
    Calls Tryz.prog 26 #[.agg #[.int .i64 k, .int .i64 n, .string nm, pv, nv, mv, .int .i64 0, .string ⟨#[]⟩]] w fun e w' => ∃ b, e = .returned (.pointer (some ⟨b, 0, none⟩)) ∧ w'.heap[b]? = some (.cells #[.int .i64 k, .int .i64 n, .string nm, pv, nv, mv, .int .i64 (sizeL 1 ps), .string ⟨#[]⟩] TyT (0, 0)) ∧ w.heap.size ≤ b ∧ Up w w' := by
  obtain ⟨a1, l1, c1, rfl⟩ := hn
  obtain ⟨a2, l2, c2, rfl⟩ := hm
  have HP := Lib.hid h
  obtain ⟨pa, cap, rfl⟩ := h.form
  have hfew := h.few
  have X0 := Lib.hid (alloc_get w (.cells #[.int .i64 k, .int .i64 n, .string nm, .slice pa ps.length cap, .slice a1 l1 c1, .slice a2 l2 c2, .int .i64 0, .string ⟨#[]⟩] TyT (0, 0)))
  clear h
  obtain ⟨tot, htot⟩ : ∃ tot, Hid (sizeL 1 ps = tot) := ⟨_, rfl⟩
  rw [htot.out]
  go_enter Tryz.func26, Tryz.ntmps26
  go_wp2_with fail
  refine range_named fun A W hA hW => ?_
  have hUW : Up w W := by subst hW; exact uq
  have hb : W.heap[w.heap.size]? = some (.cells #[.int .i64 k, .int .i64 n, .string nm, .slice pa ps.length cap, .slice a1 l1 c1, .slice a2 l2 c2, .int .i64 (1 : Nat), .string ⟨#[]⟩] TyT (0, 0)) := by
    subst hW
    exact alloc_get _ _
  clear hW
  subst hA
  go_loopw [9] (fun i wr => ∃ (j m : Nat), j ≤ ps.length ∧ i = .int .i64 j ∧ m ≤ 1099511627776 ∧ Hid (sizeL m (ps.drop j) = tot) ∧ wr.heap[w.heap.size]? = some (.cells #[.int .i64 k, .int .i64 n, .string nm, .slice pa ps.length cap, .slice a1 l1 c1, .slice a2 l2 c2, .int .i64 m, .string ⟨#[]⟩] TyT (0, 0)) ∧ Up w wr) (fun i _ => ps.length - (intOf i).toNat)
  case atStart => exact ⟨0, 1, Nat.zero_le _, rfl, by omega, by unfold Hid; rw [List.drop_zero]; exact htot.out, hb, hUW⟩
  case round =>
    obtain ⟨j, m, hj, rfl, hm, hq, hbr, hup⟩ := hrel
    by_cases hlt : j < ps.length
    · have hji : (j : Int) < ps.length := by omega
      obtain ⟨x, hx⟩ : ∃ x, ps[j]? = some x := ⟨_, List.getElem?_eq_getElem hlt⟩
      obtain ⟨g, off, cap2, he, hg, hc, hxl, hs, hs2⟩ := HP.out.at_ j x hx
      cases he
      have y0 := (hup.cells _ _ hg).trans hc
      have y1 := (hup.cells _ _ hxl).trans hs
      have hcons : ps.drop j = x :: ps.drop (j + 1) := by
        rw [List.drop_eq_getElem_cons hlt, (List.getElem?_eq_some_iff.1 hx).2]
      have hnext : Hid (sizeL (min (m + x.2) 1099511627776) (ps.drop (j + 1)) = tot) := by
        unfold Hid
        rw [← hq.out, hcons]
        rfl
      have HB := Lib.hid hbr
      have b6 := cell_of hbr 6
      have f6 := ice_of hbr 6
      have hbl := lt_of_heap hbr
      simp only [List.getElem?_toArray, List.getElem?_cons_zero, List.getElem?_cons_succ] at b6
      have i1 : (m : Int) ≤ 1099511627776 := by omega
      have i2 : (x.2 : Int) ≤ 1099511627776 := by omega
      clear hx hc hs hcons hq hbr hlt
      go_wp2_with fail
      have b6 : wr.drew.cell? ⟨w.heap.size, 6, none⟩ = some (.int .i64 m) := b6
      have y1 : wr.drew.cell? ⟨x.1, 6, none⟩ = some (.int .i64 x.2) := y1
      (refine wp_region_tail 9 (by kernel_rfl) (by kernel_rfl) ?_; simp only [List.take_succ_cons, List.take_zero, List.drop_succ_cons, List.drop_zero]; (repeat still_step); refine wpStill_nil ?_)
      go_wp2_with fail
      have e : (if 1099511627776 < (m : Int) + x.2 then (1099511627776 : Int) else (m : Int) + x.2) = ((min (m + x.2) 1099511627776 : Nat) : Int) := by split <;> omega
      have q := setCell_block (i := 6) (show wr.drew.heap[w.heap.size]? = _ from HB.out) (.int .i64 ((min (m + x.2) 1099511627776 : Nat) : Int))
      exact ⟨⟨j + 1, min (m + x.2) 1099511627776, by omega, by simp, Nat.min_le_right _ _, hnext, by rw [e]; exact q, uq⟩, by simp [intOf]; omega⟩
    · obtain rfl : j = ps.length := by omega
      have hend : m = tot := by
        rw [← hq.out, List.drop_length]
        rfl
      subst hend
      clear hq hlt
      go_wp2_with fail
      refine bodyPost_eq (by (simp [results, Tryz.results26, go_sem, *]) <;> rfl) rfl rfl ?_
      exact ⟨_, rfl, hbr, Nat.le_refl _, uq⟩

end Go.Proofs.YtbghpkoimbmijaaGreatDoor
