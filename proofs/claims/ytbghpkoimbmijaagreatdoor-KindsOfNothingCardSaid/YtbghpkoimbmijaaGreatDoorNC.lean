import Derived.Test.YtbghpkoimbmijaaGreatDoorKQ
import Derived.Test.YtbghpkoimbmijaaGreatDoorNA
import Derived.Test.YtbghpkoimbmijaaGreatDoorNB
/- Walk: KindsOfNothing. -/
namespace Go.Proofs.YtbghpkoimbmijaaGreatDoor
open Go.RowKit
set_option linter.unusedSimpArgs false

set_option maxRecDepth 100000 in
set_option maxHeartbeats 6400000 in
theorem nothing_any (id : Int) (x : StepV) (w : World) (hx : x.Ok w) :
    Calls Tryz.prog 4 #[.int .i64 id, .agg x.arr] w fun e w' => e = .returned (.bool true) ∧ Up w w' := by
  have HX := Lib.hid hx
  clear hx
  obtain ⟨K, tk, tn, ts, pa, pl, pc, na, nl, nc, ma, ml, mc, sid, ia, il, ic, node, va, vl, vc, la, ll, lc⟩ := x
  have HO : Hid (Calls Tryz.prog 13 #[.slice (some ⟨w.heap.size + 1, 0, none⟩) 1 1] ((w.alloc (.cells #[.int .i64 K, .int .i64 tk, .int .i64 tn, .string ts, .slice pa pl pc, .slice na nl nc, .slice ma ml mc, .int .i64 sid, .slice ia il ic, .int .i64 node, .slice va vl vc, .slice la ll lc] StepT)).alloc (.cells #[.int .i64 K, .int .i64 tk, .int .i64 tn, .string ts, .slice pa pl pc, .slice na nl nc, .slice ma ml mc, .int .i64 sid, .slice ia il ic, .int .i64 node, .slice va vl vc, .slice la ll lc] StepT)) (SomeBool ((w.alloc (.cells #[.int .i64 K, .int .i64 tk, .int .i64 tn, .string ts, .slice pa pl pc, .slice na nl nc, .slice ma ml mc, .int .i64 sid, .slice ia il ic, .int .i64 node, .slice va vl vc, .slice la ll lc] StepT)).alloc (.cells #[.int .i64 K, .int .i64 tk, .int .i64 tn, .string ts, .slice pa pl pc, .slice na nl nc, .slice ma ml mc, .int .i64 sid, .slice ia il ic, .int .i64 node, .slice va vl vc, .slice la ll lc] StepT)))) :=
    heavy_one _ _ _ (alloc_at _ _ _ (by simp)) (HX.out.up uq)
  go_enter Tryz.func4, Tryz.ntmps4
  go_wp2_with fail
  refine HO.out.mono ?_
  rintro e w2 ⟨b, rfl, hu2⟩
  have s0 := hu2.get (Up.get (w := w.alloc _) uq (alloc_get w _))
  have hw2 : Hid (Up w w2) := Up.trans (show Up w ((w.alloc _).alloc _) from uq) hu2
  clear hu2 HO HX
  have S0 := Lib.hid s0
  cases b
  · have x1 := cell_of s0 1; have x2 := cell_of s0 2; have x3 := cell_of s0 3; have x4 := cell_of s0 4; have x5 := cell_of s0 5; have x6 := cell_of s0 6; have x8 := cell_of s0 8; have x10 := cell_of s0 10; have x11 := cell_of s0 11; have xl := lt_of_heap s0; simp only [List.getElem?_toArray, List.getElem?_cons_zero, List.getElem?_cons_succ] at x1 x2 x3 x4 x5 x6 x8 x10 x11; clear s0
    go_wp2_with fail
    refine (Find_nil _ _ _ _ _ _ _ _ _ _ _ _ _).mono ?_
    rintro e w3 ⟨rfl, hu3⟩
    have s0 := hu3.get S0.out; have x1 := cell_of s0 1; have x2 := cell_of s0 2; have x3 := cell_of s0 3; have x4 := cell_of s0 4; have x5 := cell_of s0 5; have x6 := cell_of s0 6; have x8 := cell_of s0 8; have x10 := cell_of s0 10; have x11 := cell_of s0 11; have xl := lt_of_heap s0; simp only [List.getElem?_toArray, List.getElem?_cons_zero, List.getElem?_cons_succ] at x1 x2 x3 x4 x5 x6 x8 x10 x11; clear s0
    go_wp2_with fail
    refine (Union_nil _ _ _ _).mono ?_
    rintro e w4 ⟨rfl, hu4⟩
    have s0 := Up.get (w := w2) (w' := w4) uq S0.out; have x1 := cell_of s0 1; have x2 := cell_of s0 2; have x3 := cell_of s0 3; have x4 := cell_of s0 4; have x5 := cell_of s0 5; have x6 := cell_of s0 6; have x8 := cell_of s0 8; have x10 := cell_of s0 10; have x11 := cell_of s0 11; have xl := lt_of_heap s0; simp only [List.getElem?_toArray, List.getElem?_cons_zero, List.getElem?_cons_succ] at x1 x2 x3 x4 x5 x6 x8 x10 x11; clear s0
    go_wp2_with fail
    refine (Subst_nil _ _ _ _ _ _ _ _).mono ?_
    rintro e w5 ⟨rfl, hu5⟩
    have s0 := Up.get (w := w2) (w' := w5) uq S0.out; have x1 := cell_of s0 1; have x2 := cell_of s0 2; have x3 := cell_of s0 3; have x4 := cell_of s0 4; have x5 := cell_of s0 5; have x6 := cell_of s0 6; have x8 := cell_of s0 8; have x10 := cell_of s0 10; have x11 := cell_of s0 11; have xl := lt_of_heap s0; simp only [List.getElem?_toArray, List.getElem?_cons_zero, List.getElem?_cons_succ] at x1 x2 x3 x4 x5 x6 x8 x10 x11; clear s0
    go_wp2_with fail
    refine (Widen_nil _ _).mono ?_
    rintro e w6 ⟨rfl, hu6⟩
    have s0 := Up.get (w := w2) (w' := w6) uq S0.out; have x1 := cell_of s0 1; have x2 := cell_of s0 2; have x3 := cell_of s0 3; have x4 := cell_of s0 4; have x5 := cell_of s0 5; have x6 := cell_of s0 6; have x8 := cell_of s0 8; have x10 := cell_of s0 10; have x11 := cell_of s0 11; have xl := lt_of_heap s0; simp only [List.getElem?_toArray, List.getElem?_cons_zero, List.getElem?_cons_succ] at x1 x2 x3 x4 x5 x6 x8 x10 x11; clear s0
    go_wp2_with fail
    refine (At_nil _ _).mono ?_
    rintro e w7 ⟨rfl, hu7⟩
    have s0 := Up.get (w := w2) (w' := w7) uq S0.out; have x1 := cell_of s0 1; have x2 := cell_of s0 2; have x3 := cell_of s0 3; have x4 := cell_of s0 4; have x5 := cell_of s0 5; have x6 := cell_of s0 6; have x8 := cell_of s0 8; have x10 := cell_of s0 10; have x11 := cell_of s0 11; have xl := lt_of_heap s0; simp only [List.getElem?_toArray, List.getElem?_cons_zero, List.getElem?_cons_succ] at x1 x2 x3 x4 x5 x6 x8 x10 x11; clear s0
    have hw7 : Up w2 w7 := uq
    have T7 : Hid (((w7.alloc (.cells #[.int .i64 0, .int .i64 0, .string ⟨#[]⟩, .slice none 0 0, .slice none 0 0, .slice none 0 0] 38))).heap[w7.heap.size]? = some (.cells #[.int .i64 0, .int .i64 0, .string ⟨#[]⟩, .slice none 0 0, .slice none 0 0, .slice none 0 0] 38 (0, 0))) := alloc_get _ _
    go_wp2_with fail
    refine (Pieces_nil _ _).mono ?_
    rintro e w8 ⟨rfl, hu8⟩
    have T8 := Lib.hid (hu8.get T7.out)
    have t0 := cell_of T8.out 0
    have tl := lt_of_heap T8.out
    simp only [List.getElem?_toArray, List.getElem?_cons_zero] at t0
    have s0 := Up.get (w := w2) (w' := w8) uq S0.out; have x1 := cell_of s0 1; have x2 := cell_of s0 2; have x3 := cell_of s0 3; have x4 := cell_of s0 4; have x5 := cell_of s0 5; have x6 := cell_of s0 6; have x8 := cell_of s0 8; have x10 := cell_of s0 10; have x11 := cell_of s0 11; have xl := lt_of_heap s0; simp only [List.getElem?_toArray, List.getElem?_cons_zero, List.getElem?_cons_succ] at x1 x2 x3 x4 x5 x6 x8 x10 x11; clear s0
    go_wp2_with fail
    refine (Define_nil _ _ _ _ _ _ _ _).mono ?_
    rintro e w9 ⟨rfl, hu9⟩
    have t0 := (hu9.cells _ _ tl).trans t0
    go_wp2_with fail
    refine (Len_nil _).mono ?_
    rintro e w10 ⟨rfl, hu10⟩
    go_wp2_with fail
    refine (Text_nil _ _).mono ?_
    rintro e w11 ⟨rfl, hu11⟩
    go_wp2_with fail
    have hz : Hid (ZeroA (w11.alloc (.cells #[.slice none 0 0, .map none, .map none] 59)) w11.heap.size) := alloc_get _ _
    refine (At_zero _ _ _ hz.out).mono ?_
    rintro e w12 ⟨rfl, hu12⟩
    go_wp2_with fail
    refine (Widen_zero _ _ _ (hz.out.up uq)).mono ?_
    rintro e w13 ⟨rfl, hu13⟩
    go_wp2_with fail
    refine (Pieces_zero _ _ _ (hz.out.up uq)).mono ?_
    rintro e w14 ⟨rfl, hu14⟩
    go_wp2_with fail
    refine (Len_zero _ _ (hz.out.up uq)).mono ?_
    rintro e w15 ⟨rfl, hu15⟩
    go_wp2_with fail
    refine (Text_zero _ _ _ (hz.out.up uq)).mono ?_
    rintro e w16 ⟨rfl, hu16⟩
    go_wp2_with fail
    refine (known_any _).mono ?_
    rintro e w17 ⟨rfl, hu17⟩
    go_wp2_with fail
    go_ret
    exact ⟨rfl, Up.trans hw2.out uq⟩
  · go_wp2_with (first | (go_at_call 6; refine (known_any _).mono ?_; rintro e w3 ⟨rfl, hu3⟩))
    go_ret
    exact ⟨rfl, Up.trans hw2.out uq⟩

end Go.Proofs.YtbghpkoimbmijaaGreatDoor
