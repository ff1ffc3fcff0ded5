import Derived.Test.YtiaepldmgighbaaGreatDoorM15
import Derived.Test.YtiaepldmgighbaaGreatDoorM12
namespace Go.Proofs.YtiaepldmgighbaaGreatDoor
open Go.RowKit
set_option linter.unusedSimpArgs false
abbrev StT : TypeId := 9
theorem str_info : (Tryz.prog.info? StT).map (fun i => (i.zero, i.size, i.bytes)) = some (some (.string ⟨#[]⟩), 1, 16) := by kernel_rfl
theorem row_cells_gen {w : World} {e : TypeId} {v : Value} {n : Nat} {vs : List Value} (h : w.ownsRow 0 e 1 v n vs) (hn : 0 < n) : ∃ g cap cur, v = .slice (some ⟨g, 0, none⟩) n cap ∧ w.heap[g]? = some (.cells cur e (0, 0)) ∧ n ≤ cap ∧ ∀ j u, vs[j]? = some u → cur[0 + j]? = some u := by
 have hl := h.1
 rcases h.2 with ⟨_, h0⟩ | ⟨g, cap, cur, hv, _, hc, hn, _, _, ht⟩
 · omega
 · refine ⟨g, cap, cur, hv, hc, hn, fun j u hu => ?_⟩
   have hj := (List.getElem?_eq_some_iff.1 hu).1
   rw [Nat.mul_one] at ht hl
   rw [← ht] at hu
   rw [List.getElem?_take, if_pos (by omega)] at hu
   rw [Nat.zero_add, ← Array.getElem?_toList]
   exact hu
set_option maxHeartbeats 1600000 in
theorem text_new (b : Nat) (s : ByteArray) (cs : Array Value) (w : World) (hb : w.heap[b]? = some (.cells cs TyT (0, 0))) (h7 : cs[7]? = some (.string ⟨#[]⟩)) (hsp : ∀ W, Up w W → Calls Tryz.prog 101 #[.pointer (some ⟨b, 0, none⟩)] W fun e W' => e = .returned (.string s) ∧ Up W W') :
   TextOk b s (fun cs' => cs' = cs.setIfInBounds 7 (.string s)) w := by
 intro W hW
 have hb' := hW.get hb
 have HB := Lib.hid hb'
 have HS := Lib.hid (hsp W hW)
 have a7 := (cell_of hb' 7).trans h7
 have f7 := ice_of hb' 7
 have a4 := lt_of_heap hb'
 have H7 := Lib.hid h7
 clear hb hb' hsp h7
 go_enter Tryz.func61, Tryz.ntmps61
 go_wp2_with (first | (go_at_call 101; refine HS.out.mono ?_; rintro e w2 ⟨rfl, hu2⟩; have HL2 := Lib.hid (hu2.get HB.out); have f7 := ice_of HL2.out 7; have a7 := (cell_of HL2.out 7).trans H7.out; have a4 := lt_of_heap HL2.out))
 go_ret
 refine ⟨by rfl, ⟨_, setCell_block (i := 7) HL2.out (.string s), rfl⟩, Kept.setCell (S := fun x => x = b) (p := ⟨b, 7, none⟩) (Kept.of_up hu2) (.inl rfl) _⟩
theorem keep_small (A b sz : Nat) (cs : Array Value) (R : Nat → World → Prop) (w : World) (hb : w.heap[b]? = some (.cells cs TyT (0, 0))) (h6 : cs[6]? = some (.int .i64 sz)) (hsz : sz ≤ 500)
   (hlay : Calls Tryz.prog 48 #[.pointer (some ⟨A, 0, none⟩), .pointer (some ⟨b, 0, none⟩)] w fun e w' => ∃ n : Nat, e = .returned (.int .i64 n) ∧ R n w') :
   Calls Tryz.prog 54 #[.pointer (some ⟨A, 0, none⟩), .pointer (some ⟨b, 0, none⟩)] w fun e w' => ∃ n : Nat, e = .returned (.tuple #[.int .i64 n, .int .i64 0]) ∧ R n w' := by
 have a6 := (cell_of hb 6).trans h6
 have a4 := lt_of_heap hb
 have HL := Lib.hid hlay
 have h500 : (sz : Int) ≤ 500 := by omega
 clear hb h6 hlay
 go_enter Tryz.func54, Tryz.ntmps54
 go_wp2_with (first | (go_at_call 48; refine HL.out.mono ?_; rintro e w2 ⟨n, rfl, hR⟩))
 refine bodyPost_ret (v := .tuple #[.int .i64 n, .int .i64 0]) (by simp [results, Tryz.results54, go_sem]) rfl ?_
 exact ⟨n, rfl, hR⟩
theorem Few.size {w : World} {B A : Nat} {bs : List Nat} {g : Nat} {tv : Value} (h : Few w B A bs g tv 10) (i : Nat) (hi : i < 10) : ∃ b, bs[i]? = some b ∧ Leaf w b ((i : Int) + 1) (wordS ((i : Int) + 1)) := by
 have hl := h.len
 exact ⟨_, List.getElem?_eq_getElem (by omega), h.leaf i _ (List.getElem?_eq_getElem (by omega))⟩
end Go.Proofs.YtiaepldmgighbaaGreatDoor
