import Derived.Test.YtbghpkoimbmijaaGreatDoorKE
/- Walk: New: an arena with the ten. -/
namespace Go.Proofs.YtbghpkoimbmijaaGreatDoor
open Go.RowKit
set_option linter.unusedSimpArgs false

def wordsL (j : Nat) : List ByteArray := (List.range j).map fun i : Nat => wordS ((i : Int) + 1)
theorem wordsL_succ (j : Nat) : wordsL (j + 1) = wordsL j ++ [wordS ((j : Int) + 1)] := by simp [wordsL, List.range_succ]
theorem word_new (j : Nat) (hj : j < 10) : wordS ((j : Int) + 1) ∉ wordsL j := by
  have h : j = 0 ∨ j = 1 ∨ j = 2 ∨ j = 3 ∨ j = 4 ∨ j = 5 ∨ j = 6 ∨ j = 7 ∨ j = 8 ∨ j = 9 := by omega
  intro hm
  have hm := List.mem_map_of_mem (f := fun s : ByteArray => s.data.toList) hm
  rcases h with rfl | rfl | rfl | rfl | rfl | rfl | rfl | rfl | rfl | rfl <;> exact absurd hm (by decide +kernel)

/-- an arena with the first j of the ten -/
structure Few (w : World) (B A : Nat) (bs : List Nat) (g : Nat) (tv : Value) (j : Nat) : Prop where
  ar : Ar w B A bs (wordsL j) tv (.map (some g))
  len : bs.length = j
  leaf : ∀ (i b : Nat), bs[i]? = some b → Leaf w b ((i : Int) + 1) (wordS ((i : Int) + 1))
theorem Few.up {w w' : World} {B A : Nat} {bs : List Nat} {g : Nat} {tv : Value} {j : Nat} (h : Few w B A bs g tv j) (k : Up w w') : Few w' B A bs g tv j := ⟨h.ar.up k, h.len, fun i b hb => k.get (h.leaf i b hb)⟩

/-- one more of the ten -/
theorem Few.next {w w' : World} {B A : Nat} {bs : List Nat} {g : Nat} {tv tv' : Value} {j b : Nat} (h : Few w B A bs g tv j) (h1 : Ar w' B A (bs ++ [b]) (wordsL j ++ [wordS ((j : Int) + 1)]) tv' (.map (some g))) (h2 : Leaf w' b ((j : Int) + 1) (wordS ((j : Int) + 1))) (h3 : LayK B A b tv w w') (hb : b ∉ bs) : Few w' B A (bs ++ [b]) g tv' (j + 1) where
  ar := by rw [wordsL_succ]; exact h1
  len := by simp [h.len]
  leaf := fun i c hc => by
    rcases Nat.lt_or_ge i bs.length with hi | hi
    · rw [List.getElem?_append_left hi] at hc
      have q := h.leaf i c hc
      refine h3.kept c _ _ _ (fun e => ?_) (fun e => ?_) (fun e => hb (by rw [← e]; exact List.mem_of_getElem? hc)) q
      · have q2 := h.ar.head
        rw [← e, show w.heap[c]? = _ from q] at q2
        injection q2 with q2
        injection q2 with _ q2 _
        exact absurd q2 (by decide)
      · rcases h.ar.row.2 with ⟨hv, _⟩ | ⟨g', cap, cur, hv, _, hc2, _⟩
        · rw [hv] at e; cases e
        · rw [hv] at e
          have e : g' = c := by simpa [Value.ownBlock] using e
          rw [e, show w.heap[c]? = _ from q] at hc2
          injection hc2 with q2
          injection q2 with _ q2 _
          exact absurd q2 (by decide)
    · have e0 : i = bs.length := by
        have := (List.getElem?_eq_some_iff.1 hc).1
        simp at this
        omega
      rw [e0, List.getElem?_append_right (Nat.le_refl _), Nat.sub_self] at hc
      simp at hc
      subst hc
      rw [e0, h.len]
      exact h2

theorem Few.old {w : World} {B A : Nat} {bs : List Nat} {g : Nat} {tv : Value} {j : Nat} (h : Few w B A bs g tv j) {b : Nat} (hb : w.heap.size ≤ b) : b ∉ bs := fun hm => by
  obtain ⟨i, hi⟩ := List.getElem?_of_mem hm
  have := lt_of_heap (h.leaf i b hi)
  omega

set_option maxRecDepth 100000 in
set_option maxHeartbeats 3200000 in
theorem New_any (w : World) : Calls Tryz.prog 7 #[] w fun e w' => ∃ A bs g tv, e = .returned (.pointer (some ⟨A, 0, none⟩)) ∧ Few w' w.heap.size A bs g tv 10 ∧ Up w w' := by
  have X0 := Lib.hid (alloc_get w (.cells #[.slice none 0 0, .map none, .map none] ArT (0, 0)))
  go_enter Tryz.func7, Tryz.ntmps7
  go_wp2_with fail
  refine range_named fun A W hA hW => ?_
  have hb : W.heap[w.heap.size]? = some (.cells #[.slice none 0 0, .map none, .map none] ArT (0, 0)) := by subst hW; exact X0.out
  have hUW : Up w W := by subst hW; exact uq
  clear hW
  subst hA
  go_loopw [2] (fun i wr => ∃ j : Nat, j ≤ 10 ∧ i = .int .i64 ((j : Int) + 1) ∧ Up w wr ∧ ((j = 0 ∧ wr.heap[w.heap.size]? = some (.cells #[.slice none 0 0, .map none, .map none] ArT (0, 0))) ∨ (0 < j ∧ ∃ bs g tv, Few wr w.heap.size w.heap.size bs g tv j))) (fun i _ => 11 - (intOf i).toNat)
  case atStart => exact ⟨0, Nat.zero_le _, rfl, hUW, .inl ⟨rfl, hb⟩⟩
  case round =>
    obtain ⟨j, hj, rfl, hup, hq⟩ := hrel
    by_cases hlt : j < 10
    · have hji : (j : Int) + 1 ≤ 10 := by omega
      have hsz := hup.size
      rcases hq with ⟨rfl, hf⟩ | ⟨hj0, bs, g, tv, hf⟩
      · have HF := Lib.hid hf
        have hal := lt_of_heap hf
        clear hf hlt
        go_wp2_with (first | (go_at_call 22; refine (basic_any _ _).mono ?_; rintro e w3 ⟨b, rfl, hb3, hl3, hu3⟩) | (go_at_call 21; refine (lay_first w.heap.size w.heap.size b _ (by decide) (by decide) _ (hu3.get HF.out) hb3 (Nat.le_refl _) (by omega)).mono ?_; rintro e w4 ⟨rfl, ⟨g, tv', h1⟩, h2, h3⟩))
        refine ⟨⟨1, by omega, by simp, Below.trans (Up.trans hup hu3) h3.low, .inr ⟨by omega, [b], g, tv', h1, rfl, fun i c hc => ?_⟩⟩, by simp [intOf]⟩
        cases i with
        | zero => simp at hc; subst hc; exact h2
        | succ i => simp at hc
      · have HF := Lib.hid hf
        have hk1 : Hid (1 ≤ (j : Int) + 1 ∧ (j : Int) + 1 ≤ 10) := ⟨by omega, hji⟩
        have hjl := hf.len
        clear hf hj0
        go_wp2_with (first | (go_at_call 22; refine (basic_any _ _).mono ?_; rintro e w3 ⟨b, rfl, hb3, hl3, hu3⟩) | (go_at_call 21; refine (lay_new w.heap.size w.heap.size b g bs (wordsL j) tv (wordS ((j : Int) + 1)) (fun cs => cs = leafC ((j : Int) + 1) (wordS ((j : Int) + 1))) (.slice none 0 0) [] _ _ (HF.out.up hu3).ar hb3 (by omega) (HF.out.old hl3) (leaf_text b _ hk1.out.1 hk1.out.2 _ hb3) (by rintro cs rfl; exact ⟨rfl, rfl⟩) (word_ne _) (word_new j hlt) (Parts.nil _) (by simp) (by intro g' off cap he; cases he) (by omega)).mono ?_; rintro e w4 ⟨rfl, ⟨tv', h1⟩, ⟨cs, h2, rfl⟩, h3⟩))
        exact ⟨⟨j + 1, by omega, by simp, Below.trans (Up.trans hup hu3) h3.low, .inr ⟨by omega, bs ++ [b], g, tv', (HF.out.up hu3).next h1 h2 h3 (HF.out.old hl3)⟩⟩, by simp [intOf]; omega⟩
    · obtain rfl : j = 10 := by omega
      rcases hq with ⟨h9, _⟩ | ⟨_, bs, g, tv, hf⟩
      · omega
      clear hlt
      go_wp2_with fail
      refine bodyPost_eq (by (simp [results, Tryz.results7, go_sem, *]) <;> rfl) rfl rfl ?_
      exact ⟨w.heap.size, bs, g, tv, rfl, hf, uq⟩

end Go.Proofs.YtbghpkoimbmijaaGreatDoor
