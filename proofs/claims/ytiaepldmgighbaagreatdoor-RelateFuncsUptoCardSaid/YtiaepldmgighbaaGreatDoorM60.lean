import Derived.Test.YtiaepldmgighbaaGreatDoorM48
import Derived.Test.YtiaepldmgighbaaGreatDoorM51
namespace Go.Proofs.YtiaepldmgighbaaGreatDoor
open Go.RowKit
set_option linter.unusedSimpArgs false
set_option linter.unusedVariables false
set_option maxRecDepth 100000 in
set_option maxHeartbeats 4000000 in
theorem optional_one (g mc : Nat) (w : World) (hc : w.cell? ⟨g, 0, none⟩ = some (.bool false)) :
   Calls Tryz.prog 100 #[.slice (some ⟨g, 0, none⟩) 1 mc] w fun e w' => e = .returned (.bool true) ∧ Up w w' := by
 have hg := cell_lt5 hc
 have HC := Lib.hid hc
 clear hc
 go_enter Tryz.func100, Tryz.ntmps100
 go_wp2_with fail
 go_loopw [6] (fun i wr => (i = .int .i64 0 ∨ i = .int .i64 1) ∧ Up w wr) (fun i _ => 1 - (intOf i).toNat)
 case atStart => exact ⟨.inl rfl, uq⟩
 case round =>
   obtain ⟨rfl | rfl, hup⟩ := hrel
   · have y0 := (hup.cells _ _ hg).trans HC.out
     have yl := Nat.lt_of_lt_of_le hg hup.size
     go_wp2_with fail
     exact ⟨⟨.inr rfl, uq⟩, by simp [intOf]⟩
   · go_wp2_with fail
     go_ret
     exact ⟨rfl, uq⟩
set_option maxRecDepth 100000 in
set_option maxHeartbeats 4000000 in
theorem may_fn1 (ia pa : Option Addr) (g il ic mc pc : Nat) (w : World) (hc : w.cell? ⟨g, 0, none⟩ = some (.bool false)) :
   Calls Tryz.prog 56 #[typV 15 0 ⟨#[]⟩ (.slice ia il ic) (.slice none 0 0) (.slice (some ⟨g, 0, none⟩) 1 mc), .slice pa 2 pc] w fun e w' => e = .returned (.bool true) ∧ Up w w' := by
 have ht : ((⟨#[]⟩ : ByteArray).toList == []) = true := by decide +kernel
 have HO := Lib.hid (fun W (hW : Up w W) => optional_one g mc W ((hW.cells _ _ (cell_lt5 hc)).trans hc))
 clear hc
 go_enter Tryz.func56, Tryz.ntmps56
 go_wp2_with fail
 go_quiet (fail)
 go_wp2_with (first | (go_at_call 100; refine (HO.out _ (show Up w _ from uq)).mono ?_; rintro e w2 ⟨rfl, hu2⟩))
 all_goals (try go_quiet (fail))
 all_goals (try go_wp2_with (first | (go_at_call 100; refine (HO.out _ (show Up w _ from uq)).mono ?_; rintro e w2 ⟨rfl, hu2⟩)))
 all_goals go_ret
 all_goals refine ⟨?_, uq⟩
 all_goals rfl
theorem text_sta {w0 W : World} {A : Nat} {bs : List Nat} {ts : List Ty} {tv mv : Value} (h : Sta w0 W A bs ts tv mv) {i : Nat} {t : Ty} (hi : ts[i]? = some t) :
   Calls Tryz.prog 27 #[.pointer (some ⟨A, 0, none⟩), .int .i64 i] W fun e w' => e = .returned (.string t.text) ∧ Up w0 w' :=
 (Text_in (.map none) w0.heap.size A bs ts tv mv i t W h.are hi h.glob).mono fun e w' ⟨he, hm⟩ => ⟨he, Below.trans h.up (hm.below h.are.lt)⟩
abbrev voidS : ByteArray := ⟨#[118, 111, 105, 100]⟩
theorem text_void {t : Ty} (h : t.Valid) : (t.text.toList == voidS.toList) = true ↔ t.canon.kind = 4 := by
 have hv : (basicT 4).Valid := .basic (by decide) (by decide)
 have e4 : (basicT 4).text = voidS := by decide +kernel
 rw [Ty.canon_kind]
 constructor
 · intro e
   have e : t.text.toList = voidS.toList := by simpa using e
   have e := (toList_inj e).trans e4.symm
   have := congrArg Ty.kind (text_inj h hv e)
   rw [Ty.canon_kind, Ty.canon_kind] at this
   exact this
 · intro e
   have := valid_ten h (by omega) (by omega)
   rw [this, e, e4]
   simp
abbrev fnT (p r : Ty) : Ty := .mk 15 0 ⟨#[]⟩ [p, r] [] [false]
theorem fnT_valid {p r : Ty} (hp : p.Valid) (hr : r.Valid) : (fnT p r).Valid := .fn [(p, false)] r (List.pairwise_singleton _ _) (fun x hx => by rw [List.mem_singleton.1 hx]; exact hp) hr
theorem rowV_lit {w : World} {T : TypeId} {g cap : Nat} {us : List Value} {f : Nat × Nat} (h : w.heap[g]? = some (.cells us.toArray T f)) (hc : us.length ≤ cap) (hl : us.length ≤ 1000) : RowV (fun _ => True) w (.slice (some ⟨g, 0, none⟩) us.length cap) us :=
 ⟨T, _, cap, rfl, hc, by omega, fun j u hj => ⟨g, 0, us.toArray, f, rfl, trivial, h, by rw [Nat.zero_add, List.getElem?_toArray]; exact hj⟩⟩
theorem find_fn_sta {w0 W : World} {A : Nat} {bs : List Nat} {ts : List Ty} {tv mv : Value} (h : Sta w0 W A bs ts tv mv) (hb : bs.length ≤ 100000) {z z2 : Nat} {t t2 : Ty} (hz : ts[z]? = some t) (hz2 : ts[z2]? = some t2) {n : Nat} (hn : t.nodes + t2.nodes + 1 ≤ n) (h5 : n ≤ 500) {a : Option Addr} {g cap mc : Nat} {f : Nat × Nat} {T : TypeId} (hids : IdsAt W a [z, z2]) (hg : W.heap[g]? = some (.cells #[.bool false] T f)) {m : Int} (hm : w0.cell? ⟨0, 0, none⟩ = some (.int .i64 m)) :
   Calls Tryz.prog 25 #[.pointer (some ⟨A, 0, none⟩), typV 15 0 ⟨#[]⟩ (.slice a 2 cap) (.slice none 0 0) (.slice (some ⟨g, 0, none⟩) 1 (mc + 1))] W (UnionQ w0 A bs ts (fnT t.canon t2.canon) n) := by
 have hmW := (h.up.cells _ _ (cell_lt5 hm)).trans hm
 have hzs : [z, z2].map (fun z => ts[z]?) = [t, t2].map some := by simp [hz, hz2]
 have hv := (h.are.good t (List.mem_of_getElem? hz)).1
 have hv2 := (h.are.good t2 (List.mem_of_getElem? hz2)).1
 refine (Find_gen False (fun _ => True) w0.heap.size A bs ts tv mv (.map none) [z, z2] [t, t2] a cap 15 0 ⟨#[]⟩ (.slice none 0 0) (.slice (some ⟨g, 0, none⟩) 1 (mc + 1)) [] [false] m W ⟨h.are, hids, hzs, fit_of h.are hzs (by simp [sumN]; omega), h.glob, by omega, RowV.nil _ _, rowV_lit (us := [.bool false]) hg (by simp) (by simp), by simp, by simp, (fun s hs => by cases hs), by decide, hmW⟩ (fun W' vv hW hr => ?_)).mono ?_
 · obtain ⟨sa, sc, rfl⟩ := ownsRow_form hr
   refine (may_fn1 a sa g [z, z2].length cap (mc + 1) sc W' ((hW.cells _ _ (lt_of_heap hg)).trans (cell_of hg 0))).mono ?_
   rintro e w' ⟨rfl, hu⟩
   exact ⟨⟨true, rfl, fun _ => fnT_valid hv hv2, fun e => by cases e⟩, hu⟩
 · rintro e w' (⟨h0, _⟩ | ⟨hvv, w2, hm2, hK⟩)
   · exact h0.elim
   · refine h.uni (c := fnT t.canon t2.canon) (n := n) ?_ h5 ⟨_, w2, hvv, ?_, hm2, hK⟩
     · rw [Ty.nodes_mk]
       simp [Ty.nodes_canon]
       omega
     · rw [Ty.canon_mk, if_neg (by decide)]
       rfl
end Go.Proofs.YtiaepldmgighbaaGreatDoor
