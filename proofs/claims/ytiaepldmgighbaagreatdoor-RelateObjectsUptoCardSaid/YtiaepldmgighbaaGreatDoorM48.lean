import Derived.Test.YtiaepldmgighbaaGreatDoorM43
namespace Go.Proofs.YtiaepldmgighbaaGreatDoor
open Go.RowKit
set_option linter.unusedSimpArgs false
set_option linter.unusedVariables false
theorem Sta.uni {w0 W w' : World} {A : Nat} {bs : List Nat} {ts : List Ty} {tv mv : Value} (h : Sta w0 W A bs ts tv mv) {c : Ty} {n : Nat} (hn : c.nodes ≤ n) (h5 : n ≤ 500) {e : Ending} (hR : UniR w0.heap.size A bs ts tv mv (.map none) W c e w') : UnionQ w0 A bs ts c n e w' := by
 obtain ⟨u, w2, hv, hc, hm, hK⟩ := hR
 have hun : u.nodes ≤ n := by rw [← Ty.nodes_canon, hc]; exact hn
 obtain ⟨i, bs', ts', tv', mv', x, rfl, k1, k2, k3, k4, k5, k6, k7⟩ := hK.done hv (by omega)
 exact ⟨i, bs', ts', tv', mv', x, rfl, h.step k1 ((LayM.of_memo hm).trans k2), by omega, k4, k5, k6.trans hc, by omega⟩
abbrev arrT (t : Ty) : Ty := .mk 13 0 ⟨#[]⟩ [t] [] []
theorem find_arr_sta {w0 W : World} {A : Nat} {bs : List Nat} {ts : List Ty} {tv mv : Value} (h : Sta w0 W A bs ts tv mv) (hb : bs.length ≤ 100000) {z : Nat} {t : Ty} (hz : ts[z]? = some t) {n : Nat} (hn : t.nodes + 1 ≤ n) (h5 : n ≤ 500) {a : Option Addr} {cap : Nat} (hids : IdsAt W a [z]) {m : Int} (hm : w0.cell? ⟨0, 0, none⟩ = some (.int .i64 m)) :
   Calls Tryz.prog 25 #[.pointer (some ⟨A, 0, none⟩), typV 13 0 ⟨#[]⟩ (.slice a 1 cap) (.slice none 0 0) (.slice none 0 0)] W (UnionQ w0 A bs ts (arrT t.canon) n) := by
 have hmW := (h.up.cells _ _ (cell_lt5 hm)).trans hm
 have hzs : [z].map (fun z => ts[z]?) = [t].map some := by simp [hz]
 have hv := (h.are.good t (List.mem_of_getElem? hz)).1
 refine (Find_gen False (fun _ => True) w0.heap.size A bs ts tv mv (.map none) [z] [t] a cap 13 0 ⟨#[]⟩ (.slice none 0 0) (.slice none 0 0) [] [] m W ⟨h.are, hids, hzs, fit_of h.are hzs (by simp [sumN]; omega), h.glob, by omega, RowV.nil _ _, RowV.nil _ _, by simp, by simp, (fun s hs => by cases hs), by decide, hmW⟩ (fun W' vv hW hr => ?_)).mono ?_
 · obtain ⟨sa, sc, rfl⟩ := ownsRow_form hr
   obtain ⟨ia, il, ic, e⟩ : ∃ ia il ic, Value.slice a [z].length cap = .slice ia il ic := ⟨_, _, _, rfl⟩
   refine (may_arr a [z].length cap sa sc W').mono ?_
   rintro e w' ⟨rfl, hu⟩
   exact ⟨⟨true, rfl, fun _ => .arr hv, fun e => by cases e⟩, hu⟩
 · rintro e w' (⟨h0, _⟩ | ⟨hvv, w2, hm2, hK⟩)
   · exact h0.elim
   · refine h.uni (c := arrT t.canon) (n := n) ?_ h5 ⟨_, w2, hvv, ?_, hm2, hK⟩
     · rw [Ty.nodes_mk]
       simp [Ty.nodes_canon]
       omega
     · rw [Ty.canon_mk, if_neg (by decide)]
       rfl
theorem asked_sta {w0 W : World} {A : Nat} {bs : List Nat} {ts : List Ty} {tv mv : Value} (h : Sta w0 W A bs ts tv mv) (hb : bs.length ≤ 1000000) {i j : Nat} {x y : Ty} (hi : ts[i]? = some x) (hj : ts[j]? = some y) :
   Calls Tryz.prog 26 #[.pointer (some ⟨A, 0, none⟩), .int .i64 i, .int .i64 j] W fun e w' => ∃ (b ok : Bool), e = .returned (.tuple #[.bool b, .bool ok]) ∧ Sta w0 w' A bs ts tv mv ∧ (ok = true → (b = true ↔ Sub x.canon y.canon)) := by
 have H := Lib.hid (And.intro h (And.intro hi hj))
 have HB := Lib.hid hb
 clear h hi hj hb
 go_enter Tryz.func26, Tryz.ntmps26
 go_wp2_with (first | (go_at_call 16; refine (assign_sta (H.out.1.later (show Up W _ from uq)) HB.out H.out.2.1 H.out.2.2).mono ?_; rintro e w2 ⟨b, er, rfl, hS, hq⟩; have HS := Lib.hid hS; have HQ := Lib.hid hq; clear hS hq))
 refine bodyPost_ret (v := .tuple #[.bool b, .bool (er == 0)]) (by simp [results, Tryz.results26, go_sem, *]; try rfl) rfl ?_
 refine ⟨b, _, rfl, HS.out, fun e => ?_⟩
 rcases HQ.out with ⟨_, h2⟩ | ⟨h1, _⟩
 · exact h2
 · rw [h1] at e
   exact absurd e (by decide)
end Go.Proofs.YtiaepldmgighbaaGreatDoor
