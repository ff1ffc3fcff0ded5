import Derived.Test.YtiaepldmgighbaaGreatDoorM48
import Derived.Test.YtiaepldmgighbaaGreatDoorM55
namespace Go.Proofs.YtiaepldmgighbaaGreatDoor
open Go.RowKit
set_option linter.unusedSimpArgs false
set_option linter.unusedVariables false
def abL : List ByteArray := [aS, bS]
set_option maxRecDepth 100000 in
theorem Reserved_ab (s : ByteArray) (hs : s = aS ∨ s = bS) (m : Int) (w : World) (hm : w.cell? ⟨0, 0, none⟩ = some (.int .i64 m)) : Calls Tryz.prog 114 #[.string s] w fun e w' => e = .returned (.bool false) ∧ w' = w := by
 rcases hs with rfl | rfl
 all_goals (
   simp only [aS, bS]
   go_enter Tryz.func114, Tryz.ntmps114
   go_wp2_with (first | (go_at_call 163; refine (Tryz.strings_Contains _ _ m _ (of_decide_eq_true (by kernel_rfl)) hm).mono ?_; rintro e w2 ⟨rfl, rfl⟩))
   go_ret
   exact ⟨congrArg Ending.returned (congrArg Value.bool (by decide +kernel)), rfl⟩)
set_option maxHeartbeats 2000000 in
theorem Name_ab (s : ByteArray) (hs : s = aS ∨ s = bS) (m : Int) (w : World) (hm : w.cell? ⟨0, 0, none⟩ = some (.int .i64 m)) : Calls Tryz.prog 74 #[.string s] w fun e w' => e = .returned (.bool true) ∧ Up w w' := by
 have hR := Reserved_ab s hs m w hm
 have hd1 : dgB 97 = false := by decide
 have hl1 : ltB 97 = true := by decide
 have hd2 : dgB 98 = false := by decide
 have hl2 : ltB 98 = true := by decide
 clear hm
 rcases hs with rfl | rfl
 all_goals (
   simp only [aS, bS] at hR ⊢
   go_enter Tryz.func74, Tryz.ntmps74
   go_wp2_with (first | (go_at_call 113; refine (Digit_any _ _).mono ?_; rintro e w2 ⟨rfl, rfl⟩) | (go_at_call 114; refine hR.mono ?_; rintro e w2 ⟨rfl, rfl⟩))
   go_loopw [17] (fun i wr => (i = .int .i64 0 ∨ i = .int .i64 1) ∧ Up w2 wr) (fun i _ => 1 - (intOf i).toNat)
   case atStart => exact ⟨.inl rfl, uq⟩
   case round =>
     obtain ⟨rfl | rfl, hup⟩ := hrel
     · go_wp2_with (first | (go_at_call 115; refine (Letter_any _ _).mono ?_; rintro e w3 ⟨rfl, rfl⟩))
       go_roundw
       case rel => exact ⟨.inr rfl, uq⟩
       case measure => simp [intOf]
     · go_wp2_with fail
       go_ret
       exact ⟨rfl, uq⟩)
set_option maxRecDepth 100000 in
set_option maxHeartbeats 4000000 in
theorem named_ab (L : Nat) (hL : L ≤ 2) (na : Option Addr) (nc : Nat) (m : Int) (w : World) (hm : w.cell? ⟨0, 0, none⟩ = some (.int .i64 m)) (hc : ∀ j s, (abL.take L)[j]? = some s → ∃ g, na = some ⟨g, 0, none⟩ ∧ g < w.heap.size ∧ w.cell? ⟨g, j, none⟩ = some (.string s)) :
   Calls Tryz.prog 99 #[.slice na L nc] w fun e w' => e = .returned (.bool true) ∧ Up w w' := by
 have HN := Lib.hid (fun s (hs : s = aS ∨ s = bS) W (hW : Up w W) => Name_ab s hs m W ((hW.cells _ _ (cell_lt5 hm)).trans hm))
 have HC := Lib.hid hc
 have c1 : Op.bytesLess bS.toList aS.toList = false := by decide +kernel
 have c2 : (bS.toList == aS.toList) = false := by decide +kernel
 clear hm hc
 have h3 : L = 0 ∨ L = 1 ∨ L = 2 := by omega
 rcases h3 with rfl | rfl | rfl
 · go_enter Tryz.func99, Tryz.ntmps99
   go_wp2_with fail
   go_loopw [7] (fun i wr => i = .int .i64 0 ∧ Up w wr) (fun i _ => 0)
   case atStart => exact ⟨rfl, uq⟩
   case round =>
     obtain ⟨rfl, hup⟩ := hrel
     go_wp2_with fail
     go_ret
     exact ⟨rfl, uq⟩
 · obtain ⟨g, rfl, hg, h0⟩ := HC.out 0 aS rfl
   go_enter Tryz.func99, Tryz.ntmps99
   go_wp2_with fail
   go_loopw [7] (fun i wr => (i = .int .i64 0 ∨ i = .int .i64 1) ∧ Up w wr) (fun i _ => 1 - (intOf i).toNat)
   case atStart => exact ⟨.inl rfl, uq⟩
   case round =>
     obtain ⟨rfl | rfl, hup⟩ := hrel
     · have y0 := (hup.cells _ _ hg).trans h0
       have yl := Nat.lt_of_lt_of_le hg hup.size
       go_wp2_with (first | (go_at_call 74; refine (HN.out _ (.inl rfl) _ (show Up w _ from uq)).mono ?_; rintro e w2 ⟨rfl, hu2⟩))
       exact ⟨⟨.inr rfl, uq⟩, by simp [intOf]⟩
     · go_wp2_with fail
       go_ret
       exact ⟨rfl, uq⟩
 · obtain ⟨g, rfl, hg, h0⟩ := HC.out 0 aS rfl
   obtain ⟨g', e', hg', h1⟩ := HC.out 1 bS rfl
   cases e'
   go_enter Tryz.func99, Tryz.ntmps99
   go_wp2_with fail
   go_loopw [7] (fun i wr => (i = .int .i64 0 ∨ i = .int .i64 1 ∨ i = .int .i64 2) ∧ Up w wr) (fun i _ => 2 - (intOf i).toNat)
   case atStart => exact ⟨.inl rfl, uq⟩
   case round =>
     obtain ⟨rfl | rfl | rfl, hup⟩ := hrel
     · have y0 := (hup.cells _ _ hg).trans h0
       have yl := Nat.lt_of_lt_of_le hg hup.size
       go_wp2_with (first | (go_at_call 74; refine (HN.out _ (.inl rfl) _ (show Up w _ from uq)).mono ?_; rintro e w2 ⟨rfl, hu2⟩))
       exact ⟨⟨.inr (.inl rfl), uq⟩, by simp [intOf]⟩
     · have y0 := (hup.cells _ _ hg).trans h0
       have y1 := (hup.cells _ _ hg).trans h1
       have yl := Nat.lt_of_lt_of_le hg hup.size
       go_wp2_with (first | (go_at_call 74; refine (HN.out _ (.inr rfl) _ (show Up w _ from uq)).mono ?_; rintro e w2 ⟨rfl, hu2⟩; have y0 := (hu2.cells _ _ yl).trans y0; have y1 := (hu2.cells _ _ yl).trans y1))
       exact ⟨⟨.inr (.inr rfl), uq⟩, by simp [intOf]⟩
     · go_wp2_with fail
       go_ret
       exact ⟨rfl, uq⟩
set_option maxRecDepth 100000 in
set_option maxHeartbeats 8000000 in
theorem may_ob (L : Nat) (hL : L ≤ 2) (ia na ma pa : Option Addr) (il ic nc mc pc : Nat) (m : Int) (w : World) (hm : w.cell? ⟨0, 0, none⟩ = some (.int .i64 m)) (hc : ∀ j s, (abL.take L)[j]? = some s → ∃ g, na = some ⟨g, 0, none⟩ ∧ g < w.heap.size ∧ w.cell? ⟨g, j, none⟩ = some (.string s)) :
   Calls Tryz.prog 56 #[typV 14 0 ⟨#[]⟩ (.slice ia il ic) (.slice na L nc) (.slice ma L mc), .slice pa L pc] w fun e w' => e = .returned (.bool true) ∧ Up w w' := by
 have ht : ((⟨#[]⟩ : ByteArray).toList == []) = true := by decide +kernel
 have HO := Lib.hid (fun W (hW : Up w W) => named_ab L hL na nc m W ((hW.cells _ _ (cell_lt5 hm)).trans hm) (fun j s hj => by
   obtain ⟨g, h1, h2, h3⟩ := hc j s hj
   exact ⟨g, h1, Nat.lt_of_lt_of_le h2 hW.size, (hW.cells _ _ h2).trans h3⟩))
 clear hc hm
 have h3 : L = 0 ∨ L = 1 ∨ L = 2 := by omega
 clear hL
 rcases h3 with rfl | rfl | rfl
 all_goals (
   go_enter Tryz.func56, Tryz.ntmps56
   go_wp2_with fail
   go_quiet (fail)
   go_wp2_with (first | (go_at_call 99; refine (HO.out _ (show Up w _ from uq)).mono ?_; rintro e w2 ⟨rfl, hu2⟩))
   all_goals (try go_quiet (fail))
   all_goals (try go_wp2_with (first | (go_at_call 99; refine (HO.out _ (show Up w _ from uq)).mono ?_; rintro e w2 ⟨rfl, hu2⟩)))
   all_goals go_ret
   all_goals refine ⟨?_, uq⟩
   all_goals rfl)
theorem reach_bare {ts : List Ty} {p : Pr} (e : (queOf ts p).pairs = []) : (reachL (queOf ts) 2000 p).length ≤ 2000 := by
 unfold reachL
 rw [reachN]
 simp only [List.getElem?_cons_zero]
 rw [e, addP]
 rw [show (2000 + 1 : Nat) = 2000 + 1 from rfl, reachN]
 simp
theorem bare_objects {ts : List Ty} {i j : Nat} {x y : Ty} (hi : ts[i]? = some x) (hj : ts[j]? = some y) (hx : x.kind = 14) (hy : y.kind = 14) (h : x.parts = [] ∨ y.parts = []) : (queOf ts (i, j)).pairs = [] := by
 have e1 : tyOf ts i = x := by unfold tyOf; rw [List.getD_eq_getElem?_getD, hi]; rfl
 have e2 : tyOf ts j = y := by unfold tyOf; rw [List.getD_eq_getElem?_getD, hj]; rfl
 unfold queOf asksQ
 simp only [e1, e2]
 by_cases hij : i = j
 · rw [if_pos (.inl hij)]; rfl
 · rw [if_neg (by omega), if_neg (by omega), if_neg (by omega), if_neg (by omega), if_neg (by omega), if_neg (by omega), if_neg (by unfold smallK; rw [hx, hy]; simp), if_neg (by omega), if_neg (by omega), if_pos ⟨hx, hy⟩]
   refine List.eq_nil_iff_forall_not_mem.2 fun p hp => ?_
   refine memG_pairs (P := fun _ => False) _ [] (fun p hp => by cases hp) (fun a ha b hb => ?_) p hp
   rcases h with h | h
   · unfold memsOf at ha
     rw [h] at ha
     simp at ha
   · unfold memsOf at hb
     rw [h] at hb
     simp at hb
theorem asked_bare {w0 W : World} {A : Nat} {bs : List Nat} {ts : List Ty} {tv mv : Value} (h : Sta w0 W A bs ts tv mv) (hb : bs.length ≤ 1000000) {i j : Nat} {x y : Ty} (hi : ts[i]? = some x) (hj : ts[j]? = some y) (hx : x.kind = 14) (hy : y.kind = 14) (hp : x.parts = [] ∨ y.parts = []) :
   Calls Tryz.prog 26 #[.pointer (some ⟨A, 0, none⟩), .int .i64 i, .int .i64 j] W fun e w' => ∃ (b : Bool), e = .returned (.tuple #[.bool b, .bool true]) ∧ Sta w0 w' A bs ts tv mv ∧ (b = true ↔ Sub x.canon y.canon) := by
 have H := Lib.hid (And.intro h (And.intro hi (And.intro hj (reach_bare (bare_objects hi hj hx hy hp)))))
 have HB := Lib.hid hb
 clear h hi hj hb hx hy hp
 go_enter Tryz.func26, Tryz.ntmps26
 go_wp2_with (first | (go_at_call 16; refine (Assignable_over (H.out.1.later (show Up W _ from uq)).are HB.out H.out.2.1 H.out.2.2.1).mono ?_; rintro e w2 ⟨b, er, rfl, hu2, hq⟩; have HQ := Lib.hid hq; clear hq))
 have he : er = 0 ∧ (b = true ↔ Sub x.canon y.canon) := by
   rcases HQ.out with ⟨h1, h2⟩ | ⟨_, _, h3⟩
   · exact ⟨h1, h2⟩
   · have := H.out.2.2.2
     omega
 have HE := Lib.hid he.2
 obtain ⟨rfl, _⟩ := he
 refine bodyPost_ret (v := .tuple #[.bool b, .bool true]) (by simp [results, Tryz.results26, go_sem, *]; try rfl) rfl ?_
 exact ⟨b, rfl, H.out.1.later (show Up W _ from uq), HE.out⟩
theorem rowV_lit {w : World} {T : TypeId} {g cap : Nat} {us : List Value} {f : Nat × Nat} (h : w.heap[g]? = some (.cells us.toArray T f)) (hc : us.length ≤ cap) (hl : us.length ≤ 1000) : RowV (fun _ => True) w (.slice (some ⟨g, 0, none⟩) us.length cap) us :=
 ⟨T, _, cap, rfl, hc, by omega, fun j u hj => ⟨g, 0, us.toArray, f, rfl, trivial, h, by rw [Nat.zero_add, List.getElem?_toArray]; exact hj⟩⟩
abbrev obT (us : List Ty) (ms : List Bool) : Ty := .mk 14 0 ⟨#[]⟩ us (abL.take us.length) ms
theorem name_a : NameOk aS := ⟨⟨97, [], rfl, by decide⟩, fun c hc => by
  simp only [show tb aS = [97] from rfl, List.mem_singleton] at hc
  subst hc
  decide⟩
theorem name_b : NameOk bS := ⟨⟨98, [], rfl, by decide⟩, fun c hc => by
  simp only [show tb bS = [98] from rfl, List.mem_singleton] at hc
  subst hc
  decide⟩
theorem obT_valid {us : List Ty} {ms : List Bool} (h2 : us.length ≤ 2) (hm : ms.length = us.length) (hv : ∀ u ∈ us, u.Valid) : (obT us ms).Valid := by
 have hlt : ltS aS bS = true := by decide +kernel
 match us, ms, h2, hm with
 | [], [], _, _ => exact .obj [] (fun x hx => by cases hx) List.Pairwise.nil (fun x hx => by cases hx)
 | [u], [b], _, _ => exact .obj [(aS, b, u)] (fun x hx => by rw [List.mem_singleton.1 hx]; exact name_a) (List.pairwise_singleton _ _) (fun x hx => by rw [List.mem_singleton.1 hx]; exact hv u (by simp))
 | [u, v], [b, c], _, _ =>
   refine .obj [(aS, b, u), (bS, c, v)] (fun x hx => ?_) ?_ (fun x hx => ?_)
   · simp only [List.mem_cons, List.not_mem_nil, or_false] at hx
     rcases hx with rfl | rfl
     · exact name_a
     · exact name_b
   · exact List.Pairwise.cons (fun x hx => by rw [List.mem_singleton.1 hx]; exact hlt) (List.pairwise_singleton _ _)
   · simp only [List.mem_cons, List.not_mem_nil, or_false] at hx
     rcases hx with rfl | rfl
     · exact hv u (by simp)
     · exact hv v (by simp)
theorem find_ob_sta {w0 W : World} {A : Nat} {bs : List Nat} {ts : List Ty} {tv mv : Value} (h : Sta w0 W A bs ts tv mv) (hb : bs.length ≤ 100000) {zs : List Nat} {us : List Ty} {ms : List Bool} (hz : zs.map (fun z => ts[z]?) = us.map some) (h2 : us.length ≤ 2) (hms : ms.length = us.length) {n : Nat} (hn : sumN us + 1 ≤ n) (h5 : n ≤ 500) {a na ma : Option Addr} {cap nc mc L : Nat} (hL : zs.length = L) (hids : IdsAt W a zs) (hnr : RowV (fun _ => True) W (.slice na L nc) ((abL.take L).map .string)) (hn0 : ∀ j s, (abL.take L)[j]? = some s → ∃ g, na = some ⟨g, 0, none⟩ ∧ g < W.heap.size ∧ W.cell? ⟨g, j, none⟩ = some (.string s)) (hmr : RowV (fun _ => True) W (.slice ma L mc) (ms.map .bool)) {m : Int} (hm : w0.cell? ⟨0, 0, none⟩ = some (.int .i64 m)) :
   Calls Tryz.prog 25 #[.pointer (some ⟨A, 0, none⟩), typV 14 0 ⟨#[]⟩ (.slice a L cap) (.slice na L nc) (.slice ma L mc)] W (UnionQ w0 A bs ts (obT (us.map Ty.canon) ms) n) := by
 have hmW := (h.up.cells _ _ (cell_lt5 hm)).trans hm
 have hlu : zs.length = us.length := by have := congrArg List.length hz; simpa using this
 subst hL
 have hv : ∀ u ∈ us, u.Valid := fun u hu => (h.are.good u (ids_mem hz u hu)).1
 refine (Find_gen False (fun _ => True) w0.heap.size A bs ts tv mv (.map none) zs us a cap 14 0 ⟨#[]⟩ (.slice na zs.length nc) (.slice ma zs.length mc) (abL.take zs.length) ms m W ⟨h.are, hids, hz, fit_of h.are hz (by omega), h.glob, by omega, hnr, hmr, by rw [List.length_take]; simp [abL]; omega, by omega, (fun s hs => by
   have := List.mem_of_mem_take hs
   simp only [abL, List.mem_cons, List.not_mem_nil, or_false] at this
   rcases this with rfl | rfl <;> decide), by decide, hmW⟩ (fun W' vv hW hr => ?_)).mono ?_
 · obtain ⟨sa, sc, rfl⟩ := ownsRow_form hr
   refine (may_ob zs.length (by omega) a na ma sa zs.length cap nc mc sc m W' ((hW.cells _ _ (cell_lt5 hmW)).trans hmW) (fun j s hj => ?_)).mono ?_
   · obtain ⟨g, q1, q2, q3⟩ := hn0 j s hj
     exact ⟨g, q1, Nat.lt_of_lt_of_le q2 hW.size, (hW.cells _ _ q2).trans q3⟩
   · rintro e w' ⟨rfl, hu⟩
     refine ⟨⟨true, rfl, fun _ => ?_, fun e => by cases e⟩, hu⟩
     rw [hlu]
     exact obT_valid h2 hms hv
 · rintro e w' (⟨h0, _⟩ | ⟨hvv, w2, hm2, hK⟩)
   · exact h0.elim
   · refine h.uni (c := obT (us.map Ty.canon) ms) (n := n) ?_ h5 ⟨_, w2, hvv, ?_, hm2, hK⟩
     · rw [Ty.nodes_mk, List.map_map, show (Ty.nodes ∘ Ty.canon) = Ty.nodes from funext Ty.nodes_canon]
       unfold sumN at hn
       omega
     · rw [Ty.canon_mk, if_neg (by decide), hlu]
       simp only [obT, List.length_map]
end Go.Proofs.YtiaepldmgighbaaGreatDoor
