import Derived.Test.YtbghpkoimbmijaaGreatDoorKN
/- Walks: keep, Len, Text. -/
namespace Go.Proofs.YtbghpkoimbmijaaGreatDoor
open Go.RowKit
set_option linter.unusedSimpArgs false

theorem keep_small (A b sz : Nat) (cs : Array Value) (R : Nat → World → Prop) (w : World) (hb : w.heap[b]? = some (.cells cs TyT (0, 0))) (h6 : cs[6]? = some (.int .i64 sz)) (hsz : sz ≤ 500)
    (hlay : Calls Tryz.prog 21 #[.pointer (some ⟨A, 0, none⟩), .pointer (some ⟨b, 0, none⟩)] w fun e w' => ∃ n : Nat, e = .returned (.int .i64 n) ∧ R n w') :
    Calls Tryz.prog 25 #[.pointer (some ⟨A, 0, none⟩), .pointer (some ⟨b, 0, none⟩)] w fun e w' => ∃ n : Nat, e = .returned (.tuple #[.int .i64 n, .int .i64 0]) ∧ R n w' := by
  have a6 := (cell_of hb 6).trans h6
  have a4 := lt_of_heap hb
  have HL := Lib.hid hlay
  have h500 : (sz : Int) ≤ 500 := by omega
  clear hb h6 hlay
  go_enter Tryz.func25, Tryz.ntmps25
  go_wp2_with (first | (go_at_call 21; refine HL.out.mono ?_; rintro e w2 ⟨n, rfl, hR⟩))
  refine bodyPost_ret (v := .tuple #[.int .i64 n, .int .i64 0]) (by simp [results, Tryz.results25, go_sem]) rfl ?_
  exact ⟨n, rfl, hR⟩

theorem Len_any (B A : Nat) (bs : List Nat) (ws : List ByteArray) (tv mv : Value) (w : World) (h : Ar w B A bs ws tv mv) :
    Calls Tryz.prog 18 #[.pointer (some ⟨A, 0, none⟩)] w fun e w' => e = .returned (.int .i64 bs.length) ∧ Up w w' := by
  obtain ⟨ta, tcap, rfl⟩ := ownsRow_form h.row
  have a0 := cell_of h.head 0
  have a4 := lt_of_heap h.head
  simp only [List.getElem?_toArray, List.getElem?_cons_zero] at a0
  clear h
  go_enter Tryz.func18, Tryz.ntmps18
  go_wp2_with fail
  go_ret
  exact ⟨rfl, uq⟩

theorem Text_any (B A : Nat) (bs : List Nat) (ws : List ByteArray) (tv mv : Value) (i : Nat) (s : ByteArray) (w : World) (h : Ar w B A bs ws tv mv) (hi : ws[i]? = some s) :
    Calls Tryz.prog 19 #[.pointer (some ⟨A, 0, none⟩), .int .i64 i] w fun e w' => e = .returned (.string s) ∧ Up w w' := by
  have hil : i < bs.length := by rw [← h.len]; exact (List.getElem?_eq_some_iff.1 hi).1
  obtain ⟨b, hb⟩ : ∃ b, bs[i]? = some b := ⟨_, List.getElem?_eq_getElem hil⟩
  obtain ⟨_, hsd, hne⟩ := h.said i b s hb hi
  obtain ⟨gr, rcap, cur, rfl, hgr, hrc, hcur⟩ := row_cells_gen h.row (by omega)
  have HH := Lib.hid h.head
  have HS := Lib.hid (And.intro hsd hne)
  have y0 : w.cell? ⟨gr, i, none⟩ = some (.pointer (some ⟨b, 0, none⟩)) := by
    have q := (cell_of hgr (0 + i)).trans (hcur i (ptrV b) (by rw [List.getElem?_map, hb]; rfl))
    rw [Nat.zero_add] at q
    exact q
  have yl := lt_of_heap hgr
  have hji : (i : Int) < bs.length := by omega
  clear h hi hb hsd hne hgr hrc hcur
  go_enter Tryz.func19, Tryz.ntmps19
  go_wp2_with (first | (go_at_call 29; refine (has_yes A bs.length rcap _ _ i hil _ HH.out).mono ?_; rintro e w2 ⟨rfl, hu2⟩; have hh := hu2.get HH.out; have a0 := cell_of hh 0; have a4 := lt_of_heap hh; simp only [List.getElem?_toArray, List.getElem?_cons_zero, List.getElem?_cons_succ] at a0; have y0 := (hu2.cells _ _ yl).trans y0; clear hh) | (go_at_call 34; refine (text_said b s HS.out.2 _ (HS.out.1.up hu2).cell).mono ?_; rintro e w3 ⟨rfl, rfl⟩))
  go_ret
  exact ⟨rfl, uq⟩

end Go.Proofs.YtbghpkoimbmijaaGreatDoor
