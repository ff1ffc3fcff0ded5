import Derived.Test.YtbghpkoimbmijaaGreatDoorKeep
import Derived.Deep.QuietTactic
import Derived.BigQuiet
/- Walk: heavy of one step. -/
namespace Go.Proofs.YtbghpkoimbmijaaGreatDoor
open Go.RowKit
set_option linter.unusedSimpArgs false

abbrev StepT : TypeId := 44
/-- a step, as it came in -/
structure StepV where
  K : Int
  tk : Int
  tn : Int
  ts : ByteArray
  pa : Option Addr
  pl : Nat
  pc : Nat
  na : Option Addr
  nl : Nat
  nc : Nat
  ma : Option Addr
  ml : Nat
  mc : Nat
  id : Int
  ia : Option Addr
  il : Nat
  ic : Nat
  node : Int
  va : Option Addr
  vl : Nat
  vc : Nat
  la : Option Addr
  ll : Nat
  lc : Nat
abbrev StepV.arr (x : StepV) : Array Value := #[.int .i64 x.K, .int .i64 x.tk, .int .i64 x.tn, .string x.ts, .slice x.pa x.pl x.pc, .slice x.na x.nl x.nc, .slice x.ma x.ml x.mc, .int .i64 x.id, .slice x.ia x.il x.ic, .int .i64 x.node, .slice x.va x.vl x.vc, .slice x.la x.ll x.lc]
/-- what is asked of it: that it is within reach, and that its names and pieces are there -/
structure StepV.Ok (x : StepV) (w : World) : Prop where
  ts : x.ts.size ≤ 140737488351232
  pl : x.pl ≤ 140737488351232
  nl : x.nl ≤ 140737488351232
  ml : x.ml ≤ 140737488351232
  il : x.il ≤ 140737488351232
  vl : x.vl ≤ 140737488351232
  ll : x.ll ≤ 140737488351232
  names : ∀ k, k < x.nl → ∃ b off s, x.na = some ⟨b, off, none⟩ ∧ b < w.heap.size ∧ w.cell? ⟨b, off + k, none⟩ = some (.string s) ∧ s.size ≤ 140737488351232
  pieces : ∀ k, k < x.ll → ∃ b off s, x.la = some ⟨b, off, none⟩ ∧ b < w.heap.size ∧ w.cell? ⟨b, off + k * 3, none⟩ = some (.string s) ∧ s.size ≤ 140737488351232
theorem StepV.Ok.up {x : StepV} {w w' : World} (h : x.Ok w) (k : Up w w') : x.Ok w' :=
  { h with
    names := fun j hj => let ⟨b, off, s, h1, h2, h3, h4⟩ := h.names j hj; ⟨b, off, s, h1, Nat.lt_of_lt_of_le h2 k.size, (k.cells _ _ h2).trans h3, h4⟩
    pieces := fun j hj => let ⟨b, off, s, h1, h2, h3, h4⟩ := h.pieces j hj; ⟨b, off, s, h1, Nat.lt_of_lt_of_le h2 k.size, (k.cells _ _ h2).trans h3, h4⟩ }

def SomeBool (w : World) (e : Ending) (w' : World) : Prop := ∃ b : Bool, e = .returned (.bool b) ∧ Up w w'

set_option maxRecDepth 100000 in
set_option maxHeartbeats 6400000 in
theorem heavy_one (x : StepV) (g : Nat) (w : World) (hg : w.heap[g]? = some (.cells x.arr StepT (0, 0))) (hx : x.Ok w) :
    Calls Tryz.prog 13 #[.slice (some ⟨g, 0, none⟩) 1 1] w (SomeBool w) := by
  have HX := Lib.hid hx
  have HG := Lib.hid hg
  have i1 : (x.ts.size : Int) ≤ 140737488351232 := by have := hx.ts; omega
  have i2 : (x.pl : Int) ≤ 140737488351232 := by have := hx.pl; omega
  have i3 : (x.nl : Int) ≤ 140737488351232 := by have := hx.nl; omega
  have i4 : (x.ml : Int) ≤ 140737488351232 := by have := hx.ml; omega
  have i5 : (x.il : Int) ≤ 140737488351232 := by have := hx.il; omega
  have i6 : (x.vl : Int) ≤ 140737488351232 := by have := hx.vl; omega
  have i7 : (x.ll : Int) ≤ 140737488351232 := by have := hx.ll; omega
  have c0 := cell_of hg 0
  have c1 := cell_of hg 1
  have c2 := cell_of hg 2
  have c3 := cell_of hg 3
  have c4 := cell_of hg 4
  have c5 := cell_of hg 5
  have c6 := cell_of hg 6
  have c7 := cell_of hg 7
  have c8 := cell_of hg 8
  have c9 := cell_of hg 9
  have c10 := cell_of hg 10
  have c11 := cell_of hg 11
  have gl := lt_of_heap hg
  simp only [List.getElem?_toArray, List.getElem?_cons_zero, List.getElem?_cons_succ] at c0 c1 c2 c3 c4 c5 c6 c7 c8 c9 c10 c11
  clear hg hx
  go_enter Tryz.func13, Tryz.ntmps13
  go_wp2_with fail
  refine wp_loop_rounds 2 ?_
  rw [rounds_succ]
  go_wp2_with fail
  go_loopw [3, 6] (fun n k wr => ∃ (m : Int) (j : Nat), j ≤ x.nl ∧ k = .int .i64 j ∧ n = .int .i64 m ∧ 0 ≤ m ∧ m ≤ 4503599627370496 ∧ wr.heap[w.heap.size]? = some (.cells x.arr StepT (0, 0)) ∧ Up w wr) (fun _ k _ => x.nl - (intOf k).toNat)
  case atStart => exact ⟨_, 0, Nat.zero_le _, rfl, rfl, by omega, by omega, alloc_get _ _, uq⟩
  case round =>
    obtain ⟨m, j, hj, rfl, rfl, hm0, hm, hb, hup⟩ := hrel
    have b5 := cell_of hb 5
    have b11 := cell_of hb 11
    have bl := lt_of_heap hb
    have HB := Lib.hid hb
    simp only [List.getElem?_toArray, List.getElem?_cons_zero, List.getElem?_cons_succ] at b5 b11
    clear hb
    by_cases hgo : j < x.nl ∧ m ≤ 6000
    · obtain ⟨hjn, hm6⟩ := hgo
      have hji : (j : Int) < x.nl := by omega
      obtain ⟨b, off, s, hna, hbl, hc, hs⟩ := HX.out.names j hjn
      have HNA := Lib.hid hna
      rw [hna] at b5
      have y0 := (hup.cells _ _ hbl).trans hc
      have i8 : (s.size : Int) ≤ 140737488351232 := by omega
      clear hna hc hjn
      go_wp2_with fail
      go_roundw
      case rel => exact ⟨_, j + 1, by omega, by simp, rfl, by omega, by omega, HB.out, uq⟩
      case measure => simp [intOf]; omega
    · have hstop : (¬ (j : Int) < x.nl) ∨ ((j : Int) < x.nl ∧ ¬ m ≤ 6000) := by omega
      clear hgo
      rcases hstop with h | ⟨h, h'⟩
      all_goals
        go_wp2_with fail
        go_loopw [3, 7] (fun n k wr => ∃ (m : Int) (j : Nat), j ≤ x.ll ∧ k = .int .i64 j ∧ n = .int .i64 m ∧ 0 ≤ m ∧ m ≤ 4503599627370496 ∧ wr.heap[w.heap.size]? = some (.cells x.arr StepT (0, 0)) ∧ Up w wr) (fun _ k _ => x.ll - (intOf k).toNat)
        case atStart => exact ⟨_, 0, Nat.zero_le _, rfl, rfl, hm0, hm, HB.out, hup⟩
        case round =>
          obtain ⟨m, j, hj, rfl, rfl, hm0, hm, hb, hup⟩ := hrel
          have b11 := cell_of hb 11
          have bl := lt_of_heap hb
          have HB := Lib.hid hb
          simp only [List.getElem?_toArray, List.getElem?_cons_zero, List.getElem?_cons_succ] at b11
          clear hb
          by_cases hgo : j < x.ll ∧ m ≤ 6000
          · obtain ⟨hjn, hm6⟩ := hgo
            have hji : (j : Int) < x.ll := by omega
            obtain ⟨b, off, s, hna, hbl, hc, hs⟩ := HX.out.pieces j hjn
            have HNA := Lib.hid hna
            rw [hna] at b11
            have y0 := (hup.cells _ _ hbl).trans hc
            have i8 : (s.size : Int) ≤ 140737488351232 := by omega
            clear hna hc hjn
            go_wp2_with fail
            go_roundw
            case rel => exact ⟨_, j + 1, by omega, by simp, rfl, by omega, by omega, HB.out, uq⟩
            case measure => simp [intOf]; omega
          · have hstop : (¬ (j : Int) < x.ll) ∨ ((j : Int) < x.ll ∧ ¬ m ≤ 6000) := by omega
            clear hgo
            rcases hstop with h | ⟨h, h'⟩
            all_goals
              by_cases hbig : 6000 < m
              · clear HX HG
                go_wp2_with fail
                refine bodyPost_eq (by (simp [results, Tryz.results13, go_sem, *]) <;> rfl) rfl rfl ?_
                exact ⟨_, rfl, uq⟩
              · first
                | (exfalso; omega)
                | (clear HX HG
                   go_wp2_with fail
                   rw [rounds_succ]
                   go_wp2_with fail
                   refine bodyPost_eq (by (simp [results, Tryz.results13, go_sem, *]) <;> rfl) rfl rfl ?_
                   exact ⟨_, rfl, uq⟩)

end Go.Proofs.YtbghpkoimbmijaaGreatDoor
