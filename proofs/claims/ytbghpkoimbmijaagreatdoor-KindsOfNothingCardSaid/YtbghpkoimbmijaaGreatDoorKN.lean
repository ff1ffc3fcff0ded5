import Derived.Test.YtbghpkoimbmijaaGreatDoorKJ
import Derived.Test.YtbghpkoimbmijaaGreatDoorJoin
/- Walks: the text of a union. -/
namespace Go.Proofs.YtbghpkoimbmijaaGreatDoor
open Go.RowKit
set_option linter.unusedSimpArgs false

abbrev StT : TypeId := 9
theorem str_info : (Tryz.prog.info? StT).map (fun i => (i.zero, i.size, i.bytes)) = some (some (.string ⟨#[]⟩), 1, 16) := by kernel_rfl

theorem row_cells_gen {w : World} {e : TypeId} {v : Value} {n : Nat} {vs : List Value} (h : w.ownsRow 0 e 1 v n vs) (hn : 0 < n) : ∃ g cap cur, v = .slice (some ⟨g, 0, none⟩) n cap ∧ w.heap[g]? = some (.cells cur e (0, 0)) ∧ n ≤ cap ∧ ∀ j u, vs[j]? = some u → cur[0 + j]? = some u := by
  have hl := h.1
  rcases h.2 with ⟨_, h0⟩ | ⟨g, cap, cur, hv, _, hc, hn, _, _, ht⟩
  · omega
  · refine ⟨g, cap, cur, hv, hc, hn, fun j u hu => ?_⟩
    have hj := (List.getElem?_eq_some_iff.1 hu).1
    rw [Nat.mul_one] at ht hl
    rw [← ht] at hu
    rw [List.getElem?_take, if_pos (by omega)] at hu
    rw [Nat.zero_add, ← Array.getElem?_toList]
    exact hu

def barS : ByteArray := ⟨#[32, 124, 32]⟩
def joinS (l : List ByteArray) : ByteArray := ⟨(Lib.join (l.map (·.data.toList)) barS.data.toList).toArray⟩

set_option maxRecDepth 100000 in
set_option maxHeartbeats 3200000 in
theorem spelled_union (kd : Nat → Int) (tx : Nat → ByteArray) (xs : List Nat) (b g off cap : Nat) (cs : Array Value) (fz : Nat × Nat) (cb : Array Value) (w : World) (hb : w.heap[b]? = some (.cells cb TyT (0, 0))) (hb0 : cb[0]? = some (.int .i64 16)) (hb3 : cb[3]? = some (.slice (some ⟨g, off, none⟩) xs.length cap))
    (h1 : w.heap[g]? = some (.cells cs TpT fz)) (h3 : ∀ j x, xs[j]? = some x → cs[off + j]? = some (ptrV x)) (hlen : xs.length ≤ 100000) (hne : xs ≠ []) (hit : ∀ x ∈ xs, Item w x (kd x) (tx x) ∧ (tx x).size ≤ 1000000000)
    (hj : (Lib.join ((xs.map fun z => partS (kd z) (tx z)).map (·.data.toList)) barS.data.toList).length ≤ 140737488355328) :
    Calls Tryz.prog 53 #[.pointer (some ⟨b, 0, none⟩)] w fun e w' => e = .returned (.string (joinS (xs.map fun z => partS (kd z) (tx z)))) ∧ Up w w' := by
  have HI := Lib.hid hit
  have HC := Lib.hid (And.intro h1 h3)
  have HJ := Lib.hid hj
  have a0 := (cell_of hb 0).trans hb0
  have a3 := (cell_of hb 3).trans hb3
  have a4 := lt_of_heap hb
  clear h1 h3 hit hj hb hb0 hb3
  go_enter Tryz.func53, Tryz.ntmps53
  go_wp2_with fail
  go_loopw [11, 141] (fun v i wr => ∃ j : Nat, j ≤ xs.length ∧ i = .int .i64 j ∧ wr.ownsRow 0 StT 1 v j ((xs.take j).map fun z => .string (partS (kd z) (tx z))) ∧ (∀ g, v.ownBlock = some g → w.heap.size ≤ g) ∧ Up w wr) (fun _ i _ => xs.length - (intOf i).toNat)
  case atStart => exact ⟨0, Nat.zero_le _, rfl, (show w.ownsRow 0 StT 1 (.slice none 0 0) 0 [] from ⟨rfl, .inl ⟨rfl, rfl⟩⟩), (fun g hg => by simp [Value.ownBlock] at hg), uq⟩
  case round =>
    obtain ⟨j, hj, rfl, hv, hvb, hup⟩ := hrel
    by_cases hlt : j < xs.length
    · have hji : (j : Int) < xs.length := by omega
      obtain ⟨x, hx⟩ : ∃ x, xs[j]? = some x := ⟨_, List.getElem?_eq_getElem hlt⟩
      have y0 : wr.cell? ⟨g, off + j, none⟩ = some (.pointer (some ⟨x, 0, none⟩)) := (cell_of (hup.get HC.out.1) _).trans (HC.out.2 j x hx)
      have HT := Lib.hid (HI.out x (List.mem_of_getElem? hx))
      obtain ⟨va, vcap, rfl⟩ := ownsRow_form hv
      have HV := Lib.hid (And.intro hv hvb)
      have HNX : Hid ((xs.take (j + 1)).map (fun z => Value.string (partS (kd z) (tx z))) = (xs.take j).map (fun z => Value.string (partS (kd z) (tx z))) ++ [.string (partS (kd x) (tx x))]) := by
        unfold Hid
        rw [List.take_add_one, hx, List.map_append]
        rfl
      obtain ⟨vs, hvs⟩ : ∃ vs, Hid ((xs.take j).map (fun z => Value.string (partS (kd z) (tx z))) = vs) := ⟨_, rfl⟩
      rw [hvs.out] at HV HNX
      obtain ⟨pt, hpt⟩ : ∃ pt, Hid (roundS [15] (kd x) (tx x) = pt) := ⟨_, rfl⟩
      have HNX : Hid ((xs.take (j + 1)).map (fun z => Value.string (partS (kd z) (tx z))) = vs ++ [.string pt]) := by unfold Hid; rw [HNX.out, ← hpt.out]; rfl
      obtain ⟨i0, hi, hz0, hz1, hz2⟩ := info_parts str_info
      clear hx hv hvb hlt
      go_wp2_with (first | (go_at_call 51; refine (round_said [15] wr.heap.size 1 x (kd x) (tx x) _ (HT.out.1.up uq) HT.out.2 (by intro j z hz; cases j with | zero => simp at hz; subst hz; simp | succ j => simp at hz) (by simp) (by simp)).mono ?_; rintro e w2 ⟨rfl, hu2⟩; rw [hpt.out]) | (at_builtin; go_must (refine wpList_append_new rfl _ _ 23 rfl StT i0 (.string ⟨#[]⟩) 1 16 Tryz.underlying23 hi hz0 hz1 hz2 rfl (by decide) (.slice va j vcap) j vs rfl (ownsRow_up HV.out.1 uq) _ 1 1 rfl (by first | rfl | (simp; done) | omega) rfl (by intro u hu; have hu2 : u = .string pt := (by simpa using hu); rw [hu2]; rfl) (by unfold maxLen; omega) (by omega) ?_; intro sa' cap' w7 hown' hgrow hblk; have HY := Lib.hid (And.intro hown' (And.intro hgrow hblk)); clear hown' hgrow hblk)))
      refine ⟨⟨j + 1, by omega, by simp, by rw [HNX.out]; exact HY.out.1, fun g hg => ?_, ?_⟩, by simp [intOf]; omega⟩
      · rcases HY.out.2.2 with q | ⟨g', q, q2⟩
        · exact HV.out.2 g (by rw [← q]; exact hg)
        · rw [q] at hg
          cases hg
          have := hup.size
          have := hu2.size
          simp only [World.size_alloc] at this
          omega
      · refine Up.grown (W := _) ?_ HY.out.2.1 (fun r e => HV.out.2 r e)
        exact uq
    · obtain rfl : j = xs.length := by omega
      rw [List.take_length] at hv
      obtain ⟨rg, rcap, cur, rfl, hrg, hrc, hcur⟩ := row_cells_gen hv (List.length_pos_iff.2 hne)
      have HR := Lib.hid (And.intro hrg (And.intro hrc hcur))
      have hlj : Hid ((xs.map fun z => partS (kd z) (tx z)).length = xs.length) := List.length_map _
      have hJ := Tryz.strings_Join rg 0 rcap (xs.map fun z => partS (kd z) (tx z)) barS wr (fun i s hs => (cell_of hrg _).trans (hcur i (.string s) (by
        rw [List.getElem?_map] at hs
        rw [List.getElem?_map]
        cases hq : xs[i]? with
        | none => rw [hq] at hs; cases hs
        | some z => rw [hq] at hs; cases hs; rfl))) (lt_of_heap hrg) (by rw [hlj.out]; omega) (by rw [hlj.out]; exact hrc) HJ.out
      rw [hlj.out] at hJ
      obtain ⟨js, hjs⟩ : ∃ js, Hid (joinS (xs.map fun z => partS (kd z) (tx z)) = js) := ⟨_, rfl⟩
      have HJ2 : Hid (Calls Tryz.prog 74 #[.slice (some ⟨rg, 0, none⟩) xs.length rcap, .string barS] wr fun e w' => e = .returned (.string js) ∧ Below wr.heap.size wr w') := by
        unfold Hid
        rw [← hjs.out]
        exact hJ
      clear hlt hv hvb hrg hrc hcur hJ
      go_wp2_with (first | (go_at_call 74; refine HJ2.out.mono ?_; rintro e w2 ⟨rfl, hu2⟩; have hu2 : Up wr w2 := hu2))
      refine bodyPost_ret (v := .string js) (by simp [results, Tryz.results53, go_sem]) rfl ?_
      exact ⟨by rw [hjs.out], uq⟩

set_option maxHeartbeats 1600000 in
/-- of a type whose text was not asked for yet -/
theorem text_new (b : Nat) (s : ByteArray) (cs : Array Value) (w : World) (hb : w.heap[b]? = some (.cells cs TyT (0, 0))) (h7 : cs[7]? = some (.string ⟨#[]⟩)) (hsp : ∀ W, Up w W → Calls Tryz.prog 53 #[.pointer (some ⟨b, 0, none⟩)] W fun e W' => e = .returned (.string s) ∧ Up W W') :
    TextOk b s (fun cs' => cs' = cs.setIfInBounds 7 (.string s)) w := by
  intro W hW
  have hb' := hW.get hb
  have HB := Lib.hid hb'
  have HS := Lib.hid (hsp W hW)
  have a7 := (cell_of hb' 7).trans h7
  have f7 := ice_of hb' 7
  have a4 := lt_of_heap hb'
  have H7 := Lib.hid h7
  clear hb hb' hsp h7
  go_enter Tryz.func34, Tryz.ntmps34
  go_wp2_with (first | (go_at_call 53; refine HS.out.mono ?_; rintro e w2 ⟨rfl, hu2⟩; have HL2 := Lib.hid (hu2.get HB.out); have f7 := ice_of HL2.out 7; have a7 := (cell_of HL2.out 7).trans H7.out; have a4 := lt_of_heap HL2.out))
  go_ret
  refine ⟨by rfl, ⟨_, setCell_block (i := 7) HL2.out (.string s), rfl⟩, Kept.setCell (S := fun x => x = b) (p := ⟨b, 7, none⟩) (Kept.of_up hu2) (.inl rfl) _⟩

end Go.Proofs.YtbghpkoimbmijaaGreatDoor
