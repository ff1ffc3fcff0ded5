import Derived.Test.YtbghpkoimbmijaaGreatDoorKF
/- Walks: an arena's has, all, Len, Text. -/
namespace Go.Proofs.YtbghpkoimbmijaaGreatDoor
open Go.RowKit
set_option linter.unusedSimpArgs false

theorem has_yes (A n tcap : Nat) (ta : Option Addr) (mv : Value) (z : Nat) (hz : z < n) (w : World) (hA : w.heap[A]? = some (.cells #[.slice ta n tcap, mv, .map none] ArT (0, 0))) :
    Calls Tryz.prog 29 #[.pointer (some ⟨A, 0, none⟩), .int .i64 z] w fun e w' => e = .returned (.bool true) ∧ Up w w' := by
  have a0 := cell_of hA 0
  have a4 := lt_of_heap hA
  simp only [List.getElem?_toArray, List.getElem?_cons_zero, List.getElem?_cons_succ] at a0
  have hzi : (z : Int) < n := by omega
  clear hA
  go_enter Tryz.func29, Tryz.ntmps29
  go_wp2_with fail
  (try go_quiet (fail))
  (try go_wp2_with fail)
  go_ret
  exact ⟨rfl, uq⟩

set_option maxRecDepth 100000 in
set_option maxHeartbeats 3200000 in
theorem all_any (A : Nat) (tv mv : Value) (bs zs : List Nat) (a : Option Addr) (cap : Nat) (w : World) (hA : w.heap[A]? = some (.cells #[tv, mv, .map none] ArT (0, 0))) (hrow : w.ownsRow 0 TpT 1 tv bs.length (bs.map ptrV))
    (hz : ∀ (j z : Nat), zs[j]? = some z → ∃ b off, a = some ⟨b, off, none⟩ ∧ b < w.heap.size ∧ w.cell? ⟨b, off + j, none⟩ = some (.int .i64 z)) (hr : ∀ z ∈ zs, z < bs.length) (hf : zs.length ≤ 1000000) :
    Calls Tryz.prog 23 #[.pointer (some ⟨A, 0, none⟩), .slice a zs.length cap] w fun e w' => ∃ v, e = .returned (.tuple #[v, .bool true]) ∧ w'.ownsRow 0 TpT 1 v zs.length (zs.map fun z => ptrV (bs.getD z 0)) ∧ (∀ g, v.ownBlock = some g → w.heap.size ≤ g) ∧ Up w w' := by
  obtain ⟨ta, tcap, rfl⟩ := ownsRow_form hrow
  have HA := Lib.hid hA
  have HZ := Lib.hid hz
  have HR := Lib.hid hr
  have HW := Lib.hid hrow
  clear hA hz hr hrow
  go_enter Tryz.func23, Tryz.ntmps23
  go_wp2_with fail
  go_loopw [6, 11] (fun v i wr => ∃ j : Nat, j ≤ zs.length ∧ i = .int .i64 j ∧ wr.ownsRow 0 TpT 1 v j ((zs.take j).map fun z => ptrV (bs.getD z 0)) ∧ (∀ g, v.ownBlock = some g → w.heap.size ≤ g) ∧ Up w wr) (fun _ i _ => zs.length - (intOf i).toNat)
  case atStart => exact ⟨0, Nat.zero_le _, rfl, (show w.ownsRow 0 TpT 1 (.slice none 0 0) 0 [] from ⟨rfl, .inl ⟨rfl, rfl⟩⟩), (fun g hg => by simp [Value.ownBlock] at hg), uq⟩
  case round =>
    obtain ⟨j, hj, rfl, hv, hvb, hup⟩ := hrel
    by_cases hlt : j < zs.length
    · have hji : (j : Int) < zs.length := by omega
      obtain ⟨z, hzj⟩ : ∃ z, zs[j]? = some z := ⟨_, List.getElem?_eq_getElem hlt⟩
      obtain ⟨b, off, rfl, hbl, hc⟩ := HZ.out j z hzj
      have hzl := HR.out z (List.mem_of_getElem? hzj)
      have y0 := (hup.cells _ _ hbl).trans hc
      obtain ⟨va, vcap, rfl⟩ := ownsRow_form hv
      have HV := Lib.hid (And.intro hv hvb)
      have HH := Lib.hid (hup.get HA.out)
      have a0 := cell_of HH.out 0
      have a4 := lt_of_heap HH.out
      simp only [List.getElem?_toArray, List.getElem?_cons_zero, List.getElem?_cons_succ] at a0
      obtain ⟨tg, rfl, htg, hpt⟩ : ∃ tg, ta = some ⟨tg, 0, none⟩ ∧ tg < wr.heap.size ∧ wr.cell? ⟨tg, z, none⟩ = some (ptrV (bs.getD z 0)) := by
        rcases HW.out.2 with ⟨_, h0⟩ | ⟨g, cap', cur, hv', _, hg, _⟩
        · omega
        · cases hv'
          have hl := lt_of_heap hg
          refine ⟨g, rfl, Nat.lt_of_lt_of_le hl hup.size, (hup.cells _ _ hl).trans ?_⟩
          have q := HW.out.cells (g := g) rfl z (ptrV (bs.getD z 0)) (by simp [List.getD, List.getElem?_eq_getElem hzl])
          rw [Addr.add_lit] at q
          simpa using q
      have hpt : wr.cell? ⟨tg, z, none⟩ = some (.pointer (some ⟨bs.getD z 0, 0, none⟩)) := hpt
      obtain ⟨p, hp⟩ : ∃ p, Hid (bs.getD z 0 = p) := ⟨_, rfl⟩
      rw [hp.out] at hpt
      have hzi : (z : Int) < bs.length := by omega
      have HNX : Hid ((zs.take (j + 1)).map (fun z => ptrV (bs.getD z 0)) = (zs.take j).map (fun z => ptrV (bs.getD z 0)) ++ [.pointer (some ⟨p, 0, none⟩)]) := by
        unfold Hid
        rw [List.take_add_one, hzj, List.map_append, ← hp.out]
        rfl
      obtain ⟨i0, hi, hz0, hz1, hz2⟩ := info_parts typ_info
      clear hzj hc hv hvb
      go_wp2_with (first | (go_at_call 29; refine (has_yes A bs.length tcap _ _ z hzl _ (Up.get (w := wr) uq HH.out)).mono ?_; rintro e w2 ⟨rfl, hu2⟩; have hh := hu2.get HH.out; have a0 := cell_of hh 0; have a4 := lt_of_heap hh; simp only [List.getElem?_toArray, List.getElem?_cons_zero, List.getElem?_cons_succ] at a0; have hpt := (hu2.cells _ _ htg).trans hpt; clear hh) | (at_builtin; go_must (refine wpList_append_new rfl _ _ 55 rfl TpT i0 (.pointer none) 1 8 Tryz.underlying55 hi hz0 hz1 hz2 rfl (by decide) (.slice va j vcap) j ((zs.take j).map fun z => ptrV (bs.getD z 0)) rfl (ownsRow_up HV.out.1 uq) _ 1 1 rfl (by first | rfl | (simp; done) | omega) rfl (by intro u hu; have hu2 : u = .pointer (some ⟨p, 0, none⟩) := (by simpa using hu); rw [hu2]; rfl) (by unfold maxLen; omega) (by omega) ?_; intro sa' cap' w7 hown' hgrow hblk; have HY := Lib.hid (And.intro hown' (And.intro hgrow hblk)); clear hown' hgrow hblk)))
      refine ⟨⟨j + 1, by omega, by simp, by rw [HNX.out]; exact HY.out.1, fun g hg => ?_, ?_⟩, by simp [intOf]; omega⟩
      · rcases HY.out.2.2 with q | ⟨g', q, q2⟩
        · exact HV.out.2 g (by rw [← q]; exact hg)
        · rw [q] at hg
          cases hg
          have := hup.size
          have := hu2.size
          omega
      · refine Up.grown (W := _) ?_ HY.out.2.1 (fun r e => HV.out.2 r e)
        exact uq
    · obtain rfl : j = zs.length := by omega
      rw [List.take_length] at hv
      clear hlt
      go_wp2_with fail
      refine bodyPost_ret (v := .tuple #[_, .bool true]) (by simp [results, Tryz.results23, go_sem]; rfl) rfl ?_
      exact ⟨_, rfl, hv, hvb, uq⟩

end Go.Proofs.YtbghpkoimbmijaaGreatDoor
