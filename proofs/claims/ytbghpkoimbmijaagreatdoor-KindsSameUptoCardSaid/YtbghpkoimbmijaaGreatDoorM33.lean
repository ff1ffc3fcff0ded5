import Derived.LaidEqlPtr
import Derived.Test.YtbghpkoimbmijaaGreatDoorM32
import Derived.Test.YtbghpkoimbmijaaGreatDoorM30
/- YtbghpkoimbmijaaGreatDoorM33: lemmas of the proof, in order: UO, UP, UQ, UR. -/
/- Walk: what is done to the parts of a type, by subst (printed by gen_thru.py). -/
namespace Go.Proofs.YtbghpkoimbmijaaGreatDoor
open Go.RowKit
set_option linter.unusedSimpArgs false
set_option linter.unusedVariables false

set_option maxRecDepth 100000 in
set_option maxHeartbeats 6400000 in
theorem through_subst (bx : Nat) (X : (Nat → Prop) → World → Prop) (B : Nat) (f : Ty → Ty) (t : Ty) (hX : ∀ N N' w w', X N w → Memo none1 B w w' → (∀ x, N x → x < w.heap.size → N' x) → X N' w') (hv : t.Valid) (hs : Sm t) (hd : ∀ p ∈ t.parts, DoAny 45 #[.pointer (some ⟨bx, 0, none⟩)] X B f p) (hcv : CV t.canon) (hfit : t.kind = 16 → ∀ us : List Ty, us.map Ty.canon = t.parts.map (fun p => f p.canon) → (∀ u ∈ us, u.Valid) → Fit us)
    (hcase : t.kind = 20 → ∀ p ∈ t.parts, f p.canon = p.canon) (N : Nat → Prop) (b : Nat) (w : World) (hN : Open N w) (ht : TyAt N B w b t) (hG : Glob w) (hB : B ≤ w.heap.size) (hXN : X N w) :
    Calls Tryz.prog 44 #[.pointer (some ⟨b, 0, none⟩), .func (.func 45) #[] #[.pointer (some ⟨bx, 0, none⟩)]] w (DoR N B w (throughC f t.canon)) := by
  cases t with
  | mk k n nm ps ns ms =>
    obtain ⟨pv, nv, mv, qs, V⟩ := ht.view
    obtain ⟨pa, pcap, rfl, _, _⟩ := V.parts
    obtain ⟨na, nl, ncap, rfl⟩ : ∃ na nl ncap, nv = .slice na nl ncap := by obtain ⟨a, cap, e, _⟩ := V.hn; exact ⟨_, _, _, e⟩
    obtain ⟨ma, ml, mcap, rfl⟩ : ∃ ma ml mcap, mv = .slice ma ml mcap := by obtain ⟨a, cap, e, _⟩ := V.hm; exact ⟨_, _, _, e⟩
    have HV := Lib.hid (And.intro V (And.intro ht (And.intro hG (And.intro hB (And.intro hXN hN)))))
    have HP := Lib.hid (And.intro hv (And.intro hs (And.intro hd (And.intro hcv (And.intro hfit (And.intro hcase hX))))))
    have a0 := V.c0
    have a3 := V.c3
    have al := V.lt
    have hpl := hs.length
    clear ht hG hB hXN hN hv hs hd hcv hfit hcase hX V
    by_cases hp0 : ps = []
    · have hl0 : ps.length = 0 := by rw [hp0]; rfl
      have hp0 := Lib.hid hp0
      rw [hl0] at a3
      clear hl0
      go_enter Tryz.func44, Tryz.ntmps44
      go_wp2_with fail
      refine bodyPost_ret (v := .pointer (some ⟨b, 0, none⟩)) (by simp [results, Tryz.results44, go_sem]) rfl ?_
      refine ⟨b, _, rfl, HV.out.2.1.up uq, HP.out.1, ?_, Memo.of_up _ _ uq⟩
      have hk16 : k ≠ 16 := fun e => by
        subst e
        exact union_parts HP.out.1 rfl hp0.out
      exact (throughC_same f (by rw [show (Ty.mk k n nm ps ns ms).parts = ps from rfl, hp0.out]; rfl) HP.out.2.2.2.1).symm
    · have hl0 : 0 < ps.length := List.length_pos_iff.2 hp0
      have hl0i : ¬ (ps.length : Int) = 0 := by omega
      have hp0 := Lib.hid hp0
      clear hl0
      obtain ⟨i0, hi, hz0, hz1, hz2⟩ := info_parts typ_info
      go_enter Tryz.func44, Tryz.ntmps44
      go_wp2_with fail
      go_loopw [5, 6, 22] (fun lv sv i wr => ThruJ N B f w ps qs lv sv i wr) (fun _ _ i _ => ps.length - (intOf i).toNat)
      case atStart => exact ⟨0, true, [], [], Nat.zero_le _, rfl, rfl, HV.out.2.2.2.1, Memo.of_up _ _ uq, rfl, rfl, (show World.ownsRow _ 0 TpT 1 (.slice none 0 0) 0 [] from ⟨rfl, .inl ⟨rfl, rfl⟩⟩), (fun g hg => by simp [Value.ownBlock] at hg), (fun i c u h _ => by simp at h), (fun u h => by cases h), rfl, fun _ => rfl⟩
      case round =>
        obtain ⟨j, same, cs, us, hj, rfl, rfl, hS⟩ := hrel
        obtain ⟨la, lcap, rfl⟩ := ownsRow_form hS.row
        by_cases hlt : j < ps.length
        · have hji : (j : Int) < ps.length := by omega
          obtain ⟨p, hp⟩ : ∃ p, ps[j]? = some p := ⟨_, List.getElem?_eq_getElem hlt⟩
          obtain ⟨q, hqj⟩ : ∃ q, qs[j]? = some q := ⟨_, List.getElem?_eq_getElem (by have := HV.out.1.hl; omega)⟩
          obtain ⟨a', cap', e, _, _, hrows⟩ := HV.out.1.hp
          injection e with e1 e2 e3
          obtain ⟨g, off, ct, fz, f1, f2, f3, f4⟩ := hrows j (ptrV q) (by rw [List.getElem?_map, hqj]; rfl)
          have y0 : wr.cell? ⟨g, off + j, none⟩ = some (.pointer (some ⟨q, 0, none⟩)) := (cell_of (hS.memo.cells f3 (by decide) (fun e => e)) _).trans f4
          have hgl := lt_of_heap (hS.memo.cells f3 (by decide) (fun e => e))
          have hpa : pa = some ⟨g, off, none⟩ := e1.trans f1
          have hq := HV.out.1.hq j q p hqj hp
          have HD := Lib.hid (fun W (hW : Up wr W) => HP.out.2.2.1 p (List.mem_of_getElem? hp) (fun x => N x ∧ (Value.slice la j lcap).ownBlock ≠ some x) q W ((hS.open_ HV.out.2.2.2.2.2).up hW) ((hS.part hq).up hW) (HV.out.2.2.1.memo (hS.memo.up hW)) (Nat.le_trans HV.out.2.2.2.1 (hS.memo.up hW).size) (HP.out.2.2.2.2.2.2 _ _ _ _ HV.out.2.2.2.2.1 (hS.memo.up hW) hS.free))
          have HS := Lib.hid (And.intro hS (And.intro hp hqj))
          clear hS hp hqj hlt e1 e2 e3 hrows f1 f2 f3 f4 hq
          subst hpa
          go_wp2_with (first
            | (go_at_call 45; refine (HD.out _ (show Up wr _ from uq)).mono ?_; rintro e w3 ⟨c, u, rfl, hc, hcv, hcn, hm3⟩; have HC := Lib.hid (And.intro hc (And.intro hcv (And.intro hcn hm3))); obtain ⟨s, hsq, hpe⟩ := ptr_eq ((HV.out.1.hq j q p HS.out.2.2 HS.out.2.1).memo ((HS.out.1.memo.up (show Up wr _ from uq)).trans hm3)) hc; have HSQ := Lib.hid hsq; clear hc hcv hcn hm3 hsq)
            | (at_builtin; go_must (refine wpList_append_new rfl _ _ 55 rfl TpT i0 (.pointer none) 1 8 Tryz.underlying55 hi hz0 hz1 hz2 rfl (by decide) (.slice la j lcap) j (cs.map ptrV) rfl (ownsRow_up (ownsRow_memo HS.out.1.row (by decide) ((Memo.of_up none1 B (show Up wr _ from uq)).trans HC.out.2.2.2)) uq) _ 1 1 rfl (by first | rfl | (simp; done) | omega) rfl (by intro u hu; have hu2 : u = .pointer (some ⟨c, 0, none⟩) := (by simpa using hu); rw [hu2]; rfl) (by unfold maxLen; omega) (by omega) ?_; intro sa' cap' w7 hown' hgrow hblk; (try simp only [World.size_alloc] at hblk); have HY := Lib.hid (And.intro hown' (And.intro hgrow hblk)); clear hown' hgrow hblk)))
          all_goals
            refine ⟨⟨_, _, _, _, _, ?_, rfl, rfl, rfl, rfl, rfl⟩, by simp [intOf]; omega⟩
            refine ⟨j + 1, _, cs ++ [c], us ++ [u], by omega, by simp, rfl, HS.out.1.next HS.out.2.1 HS.out.2.2 (show Up wr _ from uq) HC.out.1 HC.out.2.1 HC.out.2.2.1 HC.out.2.2.2 (show Up w3 _ from uq) HY.out.1 HY.out.2.1 HY.out.2.2 _ ?_⟩
            first
              | exact fun h => ⟨by first | rfl | assumption, HSQ.out h⟩
              | exact fun h => by cases h
        · obtain rfl : j = ps.length := by omega
          have hcan : Hid (us.map Ty.canon = ps.map fun p => f p.canon) := by have := hS.canon; rw [List.take_length] at this; exact this
          have hVr := HV.out.1.memo hS.memo
          have b0 := hVr.c0
          have b1 := hVr.c1
          have b2 := hVr.c2
          have b4 := hVr.c4
          have b5 := hVr.c5
          have bl := hVr.lt
          have hcl : Hid (cs.length = us.length) := hS.len.trans hS.lenU.symm
          have htys : Hid (∀ W, Up wr W → ∀ (i c : Nat) (u : Ty), cs[i]? = some c → us[i]? = some u → TyAt N B W c u) := fun W hW i c u h1 h2 => ((hS.ty i c u h1 h2).up hW).weaken fun x hx _ => hx.1
          have HS := Lib.hid hS
          clear hlt hS
          cases same with
          | true =>
            have hcs : cs = qs := by have := HS.out.same rfl; rw [← HV.out.1.hl, List.take_length] at this; exact this
            have hus : us = ps := by
              apply List.ext_getElem?
              intro i
              rcases Nat.lt_or_ge i ps.length with hi | hi
              · obtain ⟨p, hp1⟩ : ∃ p, ps[i]? = some p := ⟨_, List.getElem?_eq_getElem hi⟩
                obtain ⟨u, hu1⟩ : ∃ u, us[i]? = some u := ⟨_, List.getElem?_eq_getElem (by have := HS.out.lenU; omega)⟩
                obtain ⟨q, hq1⟩ : ∃ q, qs[i]? = some q := ⟨_, List.getElem?_eq_getElem (by have := HV.out.1.hl; omega)⟩
                rw [hp1, hu1, (htys.out wr (Up.refl _) i q u (by rw [hcs]; exact hq1) hu1).unique ((HV.out.1.hq i q p hq1 hp1).memo HS.out.memo)]
              · rw [List.getElem?_eq_none hi, List.getElem?_eq_none (by have := HS.out.lenU; omega)]
            have hsm : Hid (throughC f (Ty.mk k n nm ps ns ms).canon = (Ty.mk k n nm ps ns ms).canon) := throughC_same f (by have := hcan.out; rw [hus] at this; exact this.symm) HP.out.2.2.2.1
            clear hcs hus
            go_wp2_with fail
            refine bodyPost_ret (v := .pointer (some ⟨b, 0, none⟩)) (by simp [results, Tryz.results44, go_sem]) rfl ?_
            exact ⟨b, _, rfl, (HV.out.2.1.memo HS.out.memo).up uq, HP.out.1, hsm.out.symm, HS.out.memo.up uq⟩
          | false =>
            by_cases hk : k = 16
            · have hfu : Hid (Fit us) := HP.out.2.2.2.2.1 hk us hcan.out HS.out.val
              have HU : Hid (∀ W, Up wr W → Calls Tryz.prog 33 #[.slice la ps.length lcap] W (DoR N B W (unionC (us.map Ty.canon)))) := fun W hW => by
                have hrow := ownsRow_rowOf (ownsRow_up HS.out.row hW) (by rw [List.length_map, HS.out.len]) (by have := hpl; omega)
                have q := union_tree N B la lcap cs us W (by rw [HS.out.len]; exact hrow) hcl.out (htys.out W hW) hfu.out (Nat.le_trans HV.out.2.2.2.1 (HS.out.memo.up hW).size) (HV.out.2.2.1.memo (HS.out.memo.up hW)) (HV.out.2.2.2.2.2.memo (HS.out.memo.up hW))
                rw [HS.out.len] at q
                exact q
              subst hk
              go_wp2_with (first | (go_at_call 33; refine (HU.out _ (show Up wr _ from uq)).mono ?_; rintro e w5 ⟨c, u, rfl, hc, hv, hcn, hm5⟩; have HC := Lib.hid (And.intro hc (And.intro hv (And.intro hcn ((HS.out.memo.up (show Up wr _ from uq)).trans hm5)))); clear hc hv hcn hm5))
              refine bodyPost_ret (v := .pointer (some ⟨c, 0, none⟩)) (by simp [results, Tryz.results44, go_sem]) rfl ?_
              exact ⟨c, u, rfl, HC.out.1, HC.out.2.1, by rw [HC.out.2.2.1, hcan.out, Ty.canon_mk, throughC, if_pos rfl, List.map_map]; rfl, HC.out.2.2.2⟩
            · have HM : Hid (∀ W, Up wr W → Calls Tryz.prog 26 #[.agg #[.int .i64 k, .int .i64 n, .string nm, .slice la ps.length lcap, .slice na nl ncap, .slice ma ml mcap, .int .i64 0, .string ⟨#[]⟩]] W fun e w' => ∃ b, e = .returned (.pointer (some ⟨b, 0, none⟩)) ∧ TyAt N B w' b (.mk k n nm us ns ms) ∧ W.heap.size ≤ b ∧ Up W w') := fun W hW => by
                have hVW := HV.out.1.memo (HS.out.memo.up hW)
                have hrow := ownsRow_rowG (N := N) (ownsRow_up HS.out.row hW) (fun g hg => HV.out.2.2.2.2.2 g (HS.out.rowB g hg)) (by rw [List.length_map, HS.out.len]) (by have := hpl; omega)
                exact made_tree N B k n nm cs us ns ms _ _ _ W (Nat.le_trans HV.out.2.2.2.1 (HS.out.memo.up hW).size) hrow hVW.hn hVW.hm hcl.out (htys.out W hW)
              have hkb : (k == 16) = false := by simp [hk]
              go_wp2_with fail
              go_region_held3 (fun X => X.cell? ⟨b, 0, none⟩ = some (.int .i64 k) ∧ X.cell? ⟨b, 1, none⟩ = some (.int .i64 n) ∧ X.cell? ⟨b, 2, none⟩ = some (.string nm) ∧ X.cell? ⟨b, 4, none⟩ = some (.slice na nl ncap) ∧ X.cell? ⟨b, 5, none⟩ = some (.slice ma ml mcap)) (((try dsimp only); (repeat' apply And.intro); all_goals (first | go_keep | assumption))) (first | (go_at_call 26; refine (HM.out _ (show Up wr _ from uq)).mono ?_; rintro e w5 ⟨c, rfl, hc, hl5, hu5⟩; have hm5 := (HS.out.memo.up (show Up wr _ from uq)).up hu5; have HC := Lib.hid (And.intro hc hm5); have hV5 := HV.out.1.memo hm5; have b0 := hV5.c0; have b1 := hV5.c1; have b2 := hV5.c2; have b4 := hV5.c4; have b5 := hV5.c5; have bl := hV5.lt; clear hc hl5 hV5 hm5))
              all_goals (go_wp2_with fail)
              all_goals refine bodyPost_ret (v := .pointer (some ⟨c, 0, none⟩)) (by simp [results, Tryz.results44, go_sem]) rfl ?_
              refine ⟨c, _, rfl, HC.out.1.up (show Up w5 _ from uq), HP.out.1.with hk (by rw [HS.out.lenU]) HS.out.val (fun h20 => ?_), ?_, HC.out.2.up (show Up w5 _ from uq)⟩
              · rw [hcan.out]
                exact List.map_congr_left fun p hp => HP.out.2.2.2.2.2.1 h20 p hp
              · rw [Ty.canon_mk, Ty.canon_mk, throughC, if_neg hk, hcan.out, List.map_map]
                rfl

end Go.Proofs.YtbghpkoimbmijaaGreatDoor

/- Walk: a type widened. -/
namespace Go.Proofs.YtbghpkoimbmijaaGreatDoor
open Go.RowKit
set_option linter.unusedSimpArgs false
set_option linter.unusedVariables false

abbrev noX : (Nat → Prop) → World → Prop := fun _ _ => True
theorem widen_canon_id {k n : Int} {nm : ByteArray} {ps : List Ty} {ns : List ByteArray} {ms : List Bool} (h : k ≠ 9 ∧ k ≠ 10 ∧ k ≠ 11 ∧ k ≠ 12 ∧ k ≠ 13 ∧ k ≠ 14 ∧ k ≠ 16 ∧ k ≠ 20) : widenC (Ty.mk k n nm ps ns ms).canon = (Ty.mk k n nm ps ns ms).canon := by
  rw [Ty.canon_mk, widen_id h]
theorem case_one {n : Int} {nm : ByteArray} {ps : List Ty} {ns : List ByteArray} {ms : List Bool} (hv : (Ty.mk 20 n nm ps ns ms).Valid) : ∃ p, ps = [p] := by
  cases hv with
  | case => exact ⟨_, rfl⟩
  | basic h1 h2 => omega
  | named hk => omega
/-- what is fit when the parts of a union were widened -/
theorem fit_widen {t : Ty} (hv : t.Valid) (h5 : t.nodes ≤ 500) (hn : t.namesLe 2000000) {us : List Ty} (hc : us.map Ty.canon = t.parts.map (fun p => widenC p.canon)) (hu : ∀ u ∈ us, u.Valid) : Fit us := by
  have hl : us.length = t.parts.length := by have := congrArg List.length hc; simpa using this
  have hsum : (t.parts.map Ty.nodes).sum ≤ 500 := by
    cases t with
    | mk k n nm ps ns ms => rw [Ty.nodes_mk] at h5; show (ps.map Ty.nodes).sum ≤ 500; omega
  have hnod : ∀ l : List Ty, (l.map (fun p => (widenC p.canon).nodes)).sum ≤ 3 * (l.map Ty.nodes).sum := by
    intro l
    induction l with
    | nil => simp
    | cons p r ih =>
      have := widenC_nodes p.canon
      rw [Ty.nodes_canon] at this
      simp only [List.map_cons, List.sum_cons]
      omega
  have e1 : (us.map Ty.nodes).sum = (t.parts.map (fun p => (widenC p.canon).nodes)).sum := by
    have := congrArg (fun l : List Ty => (l.map Ty.nodes).sum) hc
    simp only [List.map_map] at this
    rw [show (Ty.nodes ∘ Ty.canon) = Ty.nodes from funext Ty.nodes_canon] at this
    exact this
  refine ⟨hu, fun u hu' => ?_, ?_, ?_⟩
  · have hm : u.canon ∈ us.map Ty.canon := List.mem_map_of_mem hu'
    rw [hc] at hm
    obtain ⟨p, hp, e⟩ := List.mem_map.1 hm
    rw [← Ty.namesLe_canon, ← e]
    exact widenC_names _ ((Ty.namesLe_canon p).2 (Ty.namesLe_part hn p hp))
  · rw [e1]
    have := hnod t.parts
    omega
  · rw [hl]
    have : t.parts.length ≤ (t.parts.map Ty.nodes).sum := by
      have key : ∀ l : List Ty, l.length ≤ (l.map Ty.nodes).sum := by
        intro l
        induction l with
        | nil => simp
        | cons p r ih => have := p.nodes_pos; simp only [List.length_cons, List.map_cons, List.sum_cons]; omega
      exact key _
    omega

set_option maxRecDepth 100000 in
set_option maxHeartbeats 6400000 in
theorem widened_do (B : Nat) : ∀ (m : Nat) (t : Ty), t.nodes ≤ m → t.Valid → t.nodes ≤ 500 → t.namesLe 2000000 → DoAny 30 #[] noX B widenC t := by
  intro m
  induction m with
  | zero => intro t h; have := t.nodes_pos; omega
  | succ m ih =>
    intro t hm hv h5 hn N b w hN ht hG hB _
    have hsm : Sm t := ⟨by omega, hn⟩
    have hparts : Hid (∀ p ∈ t.parts, DoAny 30 #[] noX B widenC p) := fun p hp => by
      have h3 : p.nodes < t.nodes := by
        cases t with
        | mk k n nm ps ns ms => exact Ty.part_nodes hp
      exact ih p (by omega) (hv.parts p hp) (by omega) (Ty.namesLe_part hn p hp)
    have hthru : Hid (t.kind = 16 ∨ t.kind = 13 ∨ t.kind = 14 → ∀ W, Up w W → Calls Tryz.prog 44 #[.pointer (some ⟨b, 0, none⟩), .func (.func 30) #[] #[]] W (DoR N B W (widenC t.canon))) := fun hk W hW => by
      have q := through_widened noX B widenC t (fun _ _ _ _ _ _ _ => trivial) hv hsm hparts.out (CV.of hv) (fun _ us hc hu => fit_widen hv h5 hn hc hu) (fun h20 => by omega) N b W (hN.up hW) (ht.up hW) (hG.up hW) (Nat.le_trans hB hW.size) trivial
      have e : throughC widenC t.canon = widenC t.canon := by
        cases t with
        | mk k n nm ps ns ms =>
          have hk : k = 16 ∨ k = 13 ∨ k = 14 := hk
          rw [Ty.canon_mk, throughC]
          rcases hk with rfl | rfl | rfl
          · rw [if_pos rfl, widen_un]
          · rw [if_neg (by decide), widen_in (.inl rfl)]
          · rw [if_neg (by decide), widen_in (.inr rfl)]
      rw [e] at q
      exact q
    cases t with
    | mk k n nm ps ns ms =>
      obtain ⟨pv, nv, mv, qs, V⟩ := ht.view
      have HH := Lib.hid (And.intro ht (And.intro hv (And.intro hB (And.intro hG (And.intro hN (And.intro V (And.intro h5 hn)))))))
      have a0 := V.c0
      have al := V.lt
      by_cases k11 : k = 11
      · subst k11
        clear ht hv hB hG hN V h5 hn hm ih hsm hparts hthru
        go_enter Tryz.func30, Tryz.ntmps30
        go_wp2_with (first | (go_at_call 22; refine (basic_any 7 _).mono ?_; rintro e w2 ⟨c, rfl, hlf, hcl, hu2⟩; have HC := Lib.hid (And.intro hlf hcl); clear hlf hcl))
        refine bodyPost_ret (v := .pointer (some ⟨c, 0, none⟩)) (by simp [results, Tryz.results30, go_sem]) rfl ?_
        exact ⟨c, basicT 7, rfl, leaf_ty HC.out.1 (Nat.le_trans HH.out.2.2.1 HC.out.2), .basic (by decide) (by decide), by rw [Ty.canon_mk, widen_num, (CV.basic (k := 7) (by decide) (by decide)).same], Memo.of_up _ _ (show Up w _ from uq)⟩
      by_cases k12 : k = 12
      · subst k12
        clear ht hv hB hG hN V h5 hn hm ih hsm hparts hthru
        go_enter Tryz.func30, Tryz.ntmps30
        go_wp2_with (first | (go_at_call 22; refine (basic_any 8 _).mono ?_; rintro e w2 ⟨c, rfl, hlf, hcl, hu2⟩; have HC := Lib.hid (And.intro hlf hcl); clear hlf hcl))
        refine bodyPost_ret (v := .pointer (some ⟨c, 0, none⟩)) (by simp [results, Tryz.results30, go_sem]) rfl ?_
        exact ⟨c, basicT 8, rfl, leaf_ty HC.out.1 (Nat.le_trans HH.out.2.2.1 HC.out.2), .basic (by decide) (by decide), by rw [Ty.canon_mk, widen_str, (CV.basic (k := 8) (by decide) (by decide)).same], Memo.of_up _ _ (show Up w _ from uq)⟩
      by_cases k910 : k = 9 ∨ k = 10
      · clear ht hv hB hG hN V h5 hn hm ih hsm hparts hthru
        rcases k910 with rfl | rfl
        all_goals
          go_enter Tryz.func30, Tryz.ntmps30
          go_wp2_with fail
          refine (basic_any 10 _).mono ?_
          rintro e w2 ⟨c1, rfl, hlf1, hcl1, hu2⟩
          have HC1 := Lib.hid (And.intro hlf1 hcl1)
          clear hlf1 hcl1
          go_wp2_with fail
          refine (basic_any 9 _).mono ?_
          rintro e w3 ⟨c2, rfl, hlf2, hcl2, hu3⟩
          have HC2 := Lib.hid (And.intro hlf2 hcl2)
          have hw3 : Hid (Up w w3) := uq
          have hlf1 := Lib.hid (Up.get (w := w2) (w' := w3) uq HC1.out.1)
          clear hlf2 hcl2
          have HU : Hid (Calls Tryz.prog 33 #[.slice (some ⟨w3.heap.size, 0, none⟩) 2 2] (w3.alloc (.cells #[.pointer (some ⟨c1, 0, none⟩), .pointer (some ⟨c2, 0, none⟩)] TpT)) (DoR N B (w3.alloc (.cells #[.pointer (some ⟨c1, 0, none⟩), .pointer (some ⟨c2, 0, none⟩)] TpT)) boolT)) := by
            have hA : (w3.alloc (.cells #[.pointer (some ⟨c1, 0, none⟩), .pointer (some ⟨c2, 0, none⟩)] TpT)).heap[w3.heap.size]? = some (.cells #[.pointer (some ⟨c1, 0, none⟩), .pointer (some ⟨c2, 0, none⟩)] TpT (0, 0)) := alloc_get _ _
            have hup : Up w (w3.alloc (.cells #[.pointer (some ⟨c1, 0, none⟩), .pointer (some ⟨c2, 0, none⟩)] TpT)) := hw3.out.trans (show Up w3 _ from uq)
            have q := union_tree N B (some ⟨w3.heap.size, 0, none⟩) 2 [c1, c2] [basicT 10, basicT 9] (w3.alloc (.cells #[.pointer (some ⟨c1, 0, none⟩), .pointer (some ⟨c2, 0, none⟩)] TpT)) ⟨some ⟨w3.heap.size, 0, none⟩, 2, rfl, by simp, by simp, fun j u hj => ⟨w3.heap.size, 0, _, (0, 0), rfl, trivial, hA, by rw [Nat.zero_add, List.getElem?_toArray]; exact hj⟩⟩ rfl (fun j c t h1 h2 => by
              match j, h1, h2 with
              | 0, h1, h2 => simp at h1 h2; subst h1 h2; exact (leaf_ty hlf1.out (Nat.le_trans HH.out.2.2.1 HC1.out.2)).up (show Up w3 _ from uq)
              | 1, h1, h2 => simp at h1 h2; subst h1 h2; exact (leaf_ty HC2.out.1 (Nat.le_trans (Nat.le_trans HH.out.2.2.1 (show w.heap.size ≤ w2.heap.size from Up.size uq)) HC2.out.2)).up (show Up w3 _ from uq)
              | j + 2, h1, h2 => simp at h1) ⟨fun t ht => by
                simp only [List.mem_cons, List.not_mem_nil, or_false] at ht
                rcases ht with rfl | rfl <;> exact .basic (by decide) (by decide), fun t ht => by
                simp only [List.mem_cons, List.not_mem_nil, or_false] at ht
                rcases ht with rfl | rfl <;> exact basicT_names _ _, by simp [basicT_nodes], by simp⟩ (Nat.le_trans HH.out.2.2.1 hup.size) (HH.out.2.2.2.1.up hup) (HH.out.2.2.2.2.1.up hup)
            simp only [List.map_cons, List.map_nil, (CV.basic (k := 10) (by decide) (by decide)).same, (CV.basic (k := 9) (by decide) (by decide)).same] at q
            exact q
          go_wp2_with (first | (go_at_call 33; refine HU.out.mono ?_; rintro e w5 ⟨c, u, rfl, hc, hv, hcn, hm5⟩; have HC := Lib.hid (And.intro hc (And.intro hv (And.intro hcn ((Memo.of_up none1 B (hw3.out.trans (show Up w3 _ from uq))).trans hm5)))); clear hc hv hcn hm5))
          refine bodyPost_ret (v := .pointer (some ⟨c, 0, none⟩)) (by simp [results, Tryz.results30, go_sem]) rfl ?_
          exact ⟨c, u, rfl, HC.out.1, HC.out.2.1, by rw [HC.out.2.2.1, Ty.canon_mk, widen_bool (by decide)], HC.out.2.2.2⟩
      by_cases k20 : k = 20
      · subst k20
        obtain ⟨p, rfl⟩ := case_one hv
        obtain ⟨q, g, off, cap', e, hcap, hgl, y0, hq, _⟩ := V.part (j := 0) (p := p) rfl
        have a3 := V.c3
        rw [e] at a3
        rw [Nat.add_zero] at y0
        have hp1 : (([p] : List Ty).length : Int) = 1 := rfl
        simp only [List.length_cons, List.length_nil, Nat.zero_add] at a3
        have HQ := Lib.hid (And.intro hq (hv.parts p (List.mem_singleton.2 rfl)))
        clear ht hv hB hG hN V h5 hn hm ih hsm hparts hthru hq e hcap hp1
        go_enter Tryz.func30, Tryz.ntmps30
        go_wp2_with fail
        refine bodyPost_ret (v := .pointer (some ⟨q, 0, none⟩)) (by simp [results, Tryz.results30, go_sem]) rfl ?_
        exact ⟨q, p, rfl, HQ.out.1.up (show Up w _ from uq), HQ.out.2, by rw [Ty.canon_mk, widen_case]; rfl, Memo.of_up _ _ (show Up w _ from uq)⟩
      by_cases k16 : k = 16 ∨ k = 13 ∨ k = 14
      · have HT := Lib.hid (hthru.out k16)
        clear ht hv hB hG hN V h5 hn hm ih hsm hparts hthru
        rcases k16 with rfl | rfl | rfl
        all_goals
          go_enter Tryz.func30, Tryz.ntmps30
          go_wp2_with (first | (go_at_call 44; refine (HT.out _ (show Up w _ from uq)).mono ?_; rintro e w5 ⟨c, u, rfl, hc, hv, hcn, hm5⟩; have HC := Lib.hid (And.intro hc (And.intro hv (And.intro hcn ((Memo.of_up none1 B (show Up w _ from uq)).trans hm5)))); clear hc hv hcn hm5))
          refine bodyPost_ret (v := .pointer (some ⟨c, 0, none⟩)) (by simp [results, Tryz.results30, go_sem]) rfl ?_
          exact ⟨c, u, rfl, HC.out.1, HC.out.2.1, HC.out.2.2.1, HC.out.2.2.2⟩
      · have hid := Lib.hid (widen_canon_id (n := n) (nm := nm) (ps := ps) (ns := ns) (ms := ms) (k := k) (by omega))
        have k9 : ¬ k = 9 := by omega
        have k10 : ¬ k = 10 := by omega
        have k13 : ¬ k = 13 := by omega
        have k14 : ¬ k = 14 := by omega
        have k16' : ¬ k = 16 := by omega
        clear ht hv hB hG hN V h5 hn hm ih hsm hparts hthru k910 k16
        go_enter Tryz.func30, Tryz.ntmps30
        go_wp2_with fail
        refine bodyPost_ret (v := .pointer (some ⟨b, 0, none⟩)) (by simp [results, Tryz.results30, go_sem]) rfl ?_
        exact ⟨b, _, rfl, HH.out.1.up (show Up w _ from uq), HH.out.2.1, hid.out.symm, Memo.of_up _ _ (show Up w _ from uq)⟩

end Go.Proofs.YtbghpkoimbmijaaGreatDoor

/- Walk: a type substituted in: one parameter by itself, or none. -/
namespace Go.Proofs.YtbghpkoimbmijaaGreatDoor
open Go.RowKit
set_option linter.unusedSimpArgs false
set_option linter.unusedVariables false

abbrev MtT : TypeId := 77
abbrev varT (v : Int) : Ty := .mk 18 v ⟨#[84]⟩ [] [] []
def fT (ov : Option Int) : Int → Option Ty := fun n => if ov = some n then some (varT n) else none
theorem fT_some {ov : Option Int} {n : Int} {u : Ty} (h : fT ov n = some u) : ov = some n ∧ u = varT n := by
  unfold fT at h
  split at h
  · rename_i e
    injection h with h
    exact ⟨e, h.symm⟩
  · cases h
theorem nameT_ok : NameOk ⟨#[84]⟩ := ⟨⟨84, [], rfl, by decide⟩, fun c hc => by
  have hc : c ∈ [(84 : UInt8)] := hc
  rw [List.mem_singleton.1 hc]
  decide⟩
theorem varT_cv {v : Int} (h0 : 0 ≤ v) (h1 : v ≤ 9223372036854775807) : CV (varT v) := ⟨.named (.inl rfl) h0 h1 nameT_ok, by rw [Ty.canon_mk]; rfl⟩

/-- a table of at most one parameter, by itself -/
def SubAt (N : Nat → Prop) (B : Nat) (W : World) (mb : Nat) (ov : Option Int) : Prop :=
  ∃ es clk l, W.heap[mb]? = some (.map es clk) ∧ Entries es (Value.int .i64) ptrV l ∧ ((ov = none ∧ l = []) ∨ ∃ v c, ov = some v ∧ l = [(v, c)] ∧ TyAt N B W c (varT v))
theorem SubAt.memo {N N' : Nat → Prop} {B : Nat} {W W' : World} {mb : Nat} {ov : Option Int} (h : SubAt N B W mb ov) (k : Memo none1 B W W') (hN : ∀ x, N x → x < W.heap.size → N' x) : SubAt N' B W' mb ov := by
  obtain ⟨es, clk, l, h1, h2, h3⟩ := h
  refine ⟨es, clk, l, k.obj _ _ h1 (fun _ _ e => by cases e) (fun e => e), h2, h3.imp id fun ⟨v, c, e1, e2, ht⟩ => ⟨v, c, e1, e2, ?_⟩⟩
  exact (k.ty _ _ _ (fun _ _ e => e) ht.there).weaken fun x hx _ => hN x hx.1 hx.2
theorem SubAt.look {N : Nat → Prop} {B : Nat} {W : World} {mb : Nat} {ov : Option Int} (h : SubAt N B W mb ov) (n : Int) :
    (fT ov n = none ∧ ∀ W', W'.heap[mb]? = W.heap[mb]? → (Instr.lookup MtT (.map (some mb)) (.int .i64 n) false).run Tryz.prog W' = .ok (.pointer none) W') ∨ ∃ c, fT ov n = some (varT n) ∧ TyAt N B W c (varT n) ∧ ∀ W', W'.heap[mb]? = W.heap[mb]? → (Instr.lookup MtT (.map (some mb)) (.int .i64 n) false).run Tryz.prog W' = .ok (.pointer (some ⟨c, 0, none⟩)) W' := by
  obtain ⟨es, clk, l, h1, h2, h3⟩ := h
  have hz : ∀ W', (zeroValue TpT).run Tryz.prog W' = .ok (.pointer none) W' := fun W' => by kernel_rfl
  rcases h3 with ⟨rfl, rfl⟩ | ⟨v, c, rfl, rfl, ht⟩
  · exact .inl ⟨rfl, fun W' e => (run_lookup_miss (f := ptrV) Tryz.underlying77 Tryz.underlying3 (intKeys .i64) (hz W') (e.trans h1) h2 n (fun x hx => by cases hx)).2⟩
  · by_cases e : v = n
    · subst e
      exact .inr ⟨c, by unfold fT; rw [if_pos rfl], ht, fun W' e => (run_lookup_hit (f := ptrV) Tryz.underlying77 Tryz.underlying3 (intKeys .i64) (e.trans h1) h2 v c 0 rfl (by simp)).2⟩
    · exact .inl ⟨by unfold fT; rw [if_neg (fun h => e (by injection h))], fun W' e' => (run_lookup_miss (f := ptrV) Tryz.underlying77 Tryz.underlying3 (intKeys .i64) (hz W') (e'.trans h1) h2 n (fun x hx => by rw [List.mem_singleton.1 hx]; exact e)).2⟩

/-- what is fit when in the parts of a union something was substituted -/
theorem fit_subst {ov : Option Int} {t : Ty} (h5 : t.nodes ≤ 500) (hn : t.namesLe 2000000) {us : List Ty} (hc : us.map Ty.canon = t.parts.map (fun p => substC (fT ov) p.canon)) (hu : ∀ u ∈ us, u.Valid) : Fit us := by
  have hf1 : ∀ n u, fT ov n = some u → u.nodes ≤ 1 := fun n u h => by rw [(fT_some h).2, Ty.nodes_mk]; simp
  have hf2 : ∀ n u, fT ov n = some u → u.namesLe 2000000 := fun n u h => by rw [(fT_some h).2]; exact Ty.namesLe_mk.2 ⟨by decide, by simp, by simp⟩
  have hl : us.length = t.parts.length := by have := congrArg List.length hc; simpa using this
  have hsum : (t.parts.map Ty.nodes).sum ≤ 500 := by
    cases t with
    | mk k n nm ps ns ms => rw [Ty.nodes_mk] at h5; show (ps.map Ty.nodes).sum ≤ 500; omega
  have hnod : ∀ l : List Ty, (l.map (fun p => (substC (fT ov) p.canon).nodes)).sum ≤ (l.map Ty.nodes).sum := by
    intro l
    induction l with
    | nil => simp
    | cons p r ih =>
      have := substC_nodes hf1 p.canon
      rw [Ty.nodes_canon] at this
      simp only [List.map_cons, List.sum_cons]
      omega
  have e1 : (us.map Ty.nodes).sum = (t.parts.map (fun p => (substC (fT ov) p.canon).nodes)).sum := by
    have := congrArg (fun l : List Ty => (l.map Ty.nodes).sum) hc
    simp only [List.map_map] at this
    rw [show (Ty.nodes ∘ Ty.canon) = Ty.nodes from funext Ty.nodes_canon] at this
    exact this
  refine ⟨hu, fun u hu' => ?_, ?_, ?_⟩
  · have hm : u.canon ∈ us.map Ty.canon := List.mem_map_of_mem hu'
    rw [hc] at hm
    obtain ⟨p, hp, e⟩ := List.mem_map.1 hm
    rw [← Ty.namesLe_canon, ← e]
    exact substC_names hf2 _ ((Ty.namesLe_canon p).2 (Ty.namesLe_part hn p hp))
  · rw [e1]
    have := hnod t.parts
    omega
  · rw [hl]
    have : t.parts.length ≤ (t.parts.map Ty.nodes).sum := by
      have key : ∀ l : List Ty, l.length ≤ (l.map Ty.nodes).sum := by
        intro l
        induction l with
        | nil => simp
        | cons p r ih => have := p.nodes_pos; simp only [List.length_cons, List.map_cons, List.sum_cons]; omega
      exact key _
    omega
/-- a part of a case is no parameter -/
theorem case_part {f : Int → Option Ty} {t : Ty} (hv : t.Valid) (hk : t.kind = 20) : ∀ p ∈ t.parts, substC f p.canon = p.canon := by
  revert hk
  cases hv with
  | case h1 h2 hn h1' h2' hn' =>
    intro _ p hp
    have hp : p ∈ [_] := hp
    rw [List.mem_singleton.1 hp, Ty.canon_mk, subst_in (by decide) (by decide)]
    rfl
  | basic => intro h; exact absurd h (by simp only [Ty.kind]; omega)
  | num => intro h; exact absurd h (by simp only [Ty.kind]; omega)
  | str => intro h; exact absurd h (by simp only [Ty.kind]; omega)
  | arr => intro h; exact absurd h (by simp only [Ty.kind]; omega)
  | obj => intro h; exact absurd h (by simp only [Ty.kind]; omega)
  | fn => intro h; exact absurd h (by simp only [Ty.kind]; omega)
  | un => intro h; exact absurd h (by simp only [Ty.kind]; omega)
  | ref => intro h; exact absurd h (by simp only [Ty.kind]; omega)
  | named hk => intro h; exact absurd h (by simp only [Ty.kind]; omega)

abbrev SubX (B mb : Nat) (ov : Option Int) : (Nat → Prop) → World → Prop := fun N W => SubAt N B W mb ov
abbrev BoxX (B bx mb : Nat) (ov : Option Int) : (Nat → Prop) → World → Prop := fun N W => W.heap[bx]? = some (.cells #[.map (some mb)] MtT (0, 0)) ∧ SubAt N B W mb ov

set_option maxHeartbeats 1600000 in
/-- the function that is done to each part -/
theorem subst1_do (B bx mb : Nat) (ov : Option Int) (p : Ty) (h : DoAny 31 #[.map (some mb)] (SubX B mb ov) B (substC (fT ov)) p) : DoAny 45 #[.pointer (some ⟨bx, 0, none⟩)] (BoxX B bx mb ov) B (substC (fT ov)) p := by
  intro N b w hN ht hG hB hX
  have HH := Lib.hid (fun W (hW : Up w W) => h N b W (hN.up hW) (ht.up hW) (hG.up hW) (Nat.le_trans hB hW.size) (hX.2.memo (Memo.of_up _ _ hW) (fun _ h _ => h)))
  have a0 := cell_of hX.1 0
  have al := lt_of_heap hX.1
  simp only [List.getElem?_toArray, List.getElem?_cons_zero] at a0
  clear h hN ht hG hB hX
  go_enter Tryz.func45, Tryz.ntmps45
  go_wp2_with (first | (go_at_call 31; refine (HH.out _ (show Up w _ from uq)).mono ?_; rintro e w5 ⟨c, u, rfl, hc, hv, hcn, hm5⟩; have HC := Lib.hid (And.intro hc (And.intro hv (And.intro hcn ((Memo.of_up none1 B (show Up w _ from uq)).trans hm5)))); clear hc hv hcn hm5))
  refine bodyPost_ret (v := .pointer (some ⟨c, 0, none⟩)) (by simp [results, Tryz.results45, go_sem]) rfl ?_
  exact ⟨c, u, rfl, HC.out.1, HC.out.2.1, HC.out.2.2.1, HC.out.2.2.2⟩

set_option maxRecDepth 100000 in
set_option maxHeartbeats 6400000 in
theorem subst_do (B mb : Nat) (ov : Option Int) : ∀ (m : Nat) (t : Ty), t.nodes ≤ m → t.Valid → t.nodes ≤ 500 → t.namesLe 2000000 → DoAny 31 #[.map (some mb)] (SubX B mb ov) B (substC (fT ov)) t := by
  intro m
  induction m with
  | zero => intro t h; have := t.nodes_pos; omega
  | succ m ih =>
    intro t hm hv h5 hn N b w hN ht hG hB hX
    have hsm : Sm t := ⟨by omega, hn⟩
    have hparts : Hid (∀ bx, ∀ p ∈ t.parts, DoAny 45 #[.pointer (some ⟨bx, 0, none⟩)] (BoxX B bx mb ov) B (substC (fT ov)) p) := fun bx p hp => by
      have h3 : p.nodes < t.nodes := by
        cases t with
        | mk k n nm ps ns ms => exact Ty.part_nodes hp
      exact subst1_do B bx mb ov p (ih p (by omega) (hv.parts p hp) (by omega) (Ty.namesLe_part hn p hp))
    have hthru : Hid (t.kind ≠ 18 → ∀ W bx, Up w W → W.heap[bx]? = some (.cells #[.map (some mb)] MtT (0, 0)) → Calls Tryz.prog 44 #[.pointer (some ⟨b, 0, none⟩), .func (.func 45) #[] #[.pointer (some ⟨bx, 0, none⟩)]] W (DoR N B W (substC (fT ov) t.canon))) := fun hk W bx hW hbx => by
      have q := through_subst bx (BoxX B bx mb ov) B (substC (fT ov)) t (fun N N' w w' h1 h2 h3 => ⟨h2.cells h1.1 (by decide) (fun e => e), h1.2.memo h2 h3⟩) hv hsm (hparts.out bx) (CV.of hv) (fun _ us hc hu => fit_subst h5 hn hc hu) (fun h20 => case_part hv h20) N b W (hN.up hW) (ht.up hW) (hG.up hW) (Nat.le_trans hB hW.size) ⟨hbx, hX.memo (Memo.of_up _ _ hW) (fun _ h _ => h)⟩
      have e : throughC (substC (fT ov)) t.canon = substC (fT ov) t.canon := by
        cases t with
        | mk k n nm ps ns ms =>
          have hk : k ≠ 18 := hk
          rw [Ty.canon_mk, throughC]
          by_cases h16 : k = 16
          · subst h16
            rw [if_pos rfl, subst_un]
          · rw [if_neg h16, subst_in hk h16]
      rw [e] at q
      exact q
    cases t with
    | mk k n nm ps ns ms =>
      obtain ⟨pv, nv, mv, qs, V⟩ := ht.view
      have HH := Lib.hid (And.intro ht (And.intro hv (And.intro hB (And.intro hG (And.intro hN (And.intro V (And.intro h5 hn)))))))
      have a0 := V.c0
      have a1 := V.c1
      have al := V.lt
      have HX := Lib.hid hX
      by_cases k18 : k = 18
      · subst k18
        have hcan : Hid ((Ty.mk 18 n nm ps ns ms).canon = .mk 18 n nm (ps.map Ty.canon) ns ms) := by unfold Hid; rw [Ty.canon_mk]; rfl
        have hnb : Hid (0 ≤ n ∧ n ≤ 9223372036854775807) := by
          cases hv with
          | named hk h1 h2 => exact ⟨h1, h2⟩
          | basic h1 h2 => omega
        clear ht hv hB hG hN V h5 hn hm ih hsm hparts hthru hX
        go_enter Tryz.func31, Tryz.ntmps31
        go_upto_region 1 with (fail)
        refine range_named fun A2 W2 hA2 hW2 => ?_
        have hu0 : Hid (Up w W2) := by subst hW2; exact uq
        obtain ⟨q, hq⟩ : ∃ q, Hid (w.heap.size = q) := ⟨_, rfl⟩
        have HQ : Hid (W2.heap[q]? = some (.cells #[.map (some mb)] MtT (0, 0))) := by subst hW2; rw [← hq.out]; exact alloc_at _ _ _ rfl
        rw [hq.out] at hA2
        clear hW2
        subst hA2
        have x0 := cell_of HQ.out 0
        have xl := lt_of_heap HQ.out
        simp only [List.getElem?_toArray, List.getElem?_cons_zero] at x0
        have a0 := (hu0.out.cells _ _ al).trans a0
        have a1 := (hu0.out.cells _ _ al).trans a1
        have al := Nat.lt_of_lt_of_le al hu0.out.size
        rcases (HX.out.memo (Memo.of_up none1 B hu0.out) (fun _ h _ => h)).look n with ⟨hf, hlk⟩ | ⟨c, hf, hc, hlk⟩
        · have HF := Lib.hid hf
          have hlk := fun nq : Nat => hlk (W2.drewN nq) rfl
          clear hf
          go_wp2_with fail
          go_quiet (fail)
          go_wp2_with fail
          refine bodyPost_ret (v := .pointer (some ⟨b, 0, none⟩)) (by simp [results, Tryz.results31, go_sem]) rfl ?_
          exact ⟨b, _, rfl, HH.out.1.up (hu0.out.trans (show Up W2 _ from uq)), HH.out.2.1, by rw [hcan.out, subst_var, HF.out]; rfl, Memo.of_up _ _ (hu0.out.trans (show Up W2 _ from uq))⟩
        · have HF := Lib.hid (And.intro hf hc)
          have hlk := fun nq : Nat => hlk (W2.drewN nq) rfl
          clear hf hc
          go_wp2_with fail
          go_quiet (fail)
          go_wp2_with fail
          refine bodyPost_ret (v := .pointer (some ⟨c, 0, none⟩)) (by simp [results, Tryz.results31, go_sem]) rfl ?_
          exact ⟨c, _, rfl, HF.out.2.up (show Up W2 _ from uq), (varT_cv hnb.out.1 hnb.out.2).valid, by rw [hcan.out, subst_var, HF.out.1, (varT_cv hnb.out.1 hnb.out.2).same]; rfl, Memo.of_up _ _ (hu0.out.trans (show Up W2 _ from uq))⟩
      · have HT := Lib.hid (hthru.out k18)
        clear ht hv hB hG hN V h5 hn hm ih hsm hparts hthru hX
        go_enter Tryz.func31, Tryz.ntmps31
        go_upto_region 1 with (fail)
        refine range_named fun A2 W2 hA2 hW2 => ?_
        have hu0 : Hid (Up w W2) := by subst hW2; exact uq
        obtain ⟨q, hq⟩ : ∃ q, Hid (w.heap.size = q) := ⟨_, rfl⟩
        have HQ : Hid (W2.heap[q]? = some (.cells #[.map (some mb)] MtT (0, 0))) := by subst hW2; rw [← hq.out]; exact alloc_at _ _ _ rfl
        rw [hq.out] at hA2
        clear hW2
        subst hA2
        have a0 := (hu0.out.cells _ _ al).trans a0
        have al := Nat.lt_of_lt_of_le al hu0.out.size
        go_wp2_with (first | (go_at_call 44; refine (HT.out _ q (hu0.out.trans (show Up W2 _ from uq)) (Up.get (w := W2) uq HQ.out)).mono ?_; rintro e w5 ⟨c, u, rfl, hc, hv, hcn, hm5⟩; have HC := Lib.hid (And.intro hc (And.intro hv (And.intro hcn ((Memo.of_up none1 B (hu0.out.trans (show Up W2 _ from uq))).trans hm5)))); clear hc hv hcn hm5))
        refine bodyPost_ret (v := .pointer (some ⟨c, 0, none⟩)) (by simp [results, Tryz.results31, go_sem]) rfl ?_
        exact ⟨c, u, rfl, HC.out.1, HC.out.2.1, HC.out.2.2.1, HC.out.2.2.2⟩

end Go.Proofs.YtbghpkoimbmijaaGreatDoor

/- Walks: the table of what is put in the place of parameters: of one, of none. -/
namespace Go.Proofs.YtbghpkoimbmijaaGreatDoor
open Go.RowKit
set_option linter.unusedSimpArgs false
set_option linter.unusedVariables false

theorem Up.putB {a w : World} {g : Nat} {o : Obj} (h : Up a w) (hg : a.heap.size ≤ g) : Up a (putB w g o) :=
  ⟨h.os, h.tape, h.output, by rw [putB_size]; exact h.size, fun b hb => by rw [putB_other _ _ _ _ (by omega)]; exact h.block b hb⟩

set_option maxHeartbeats 1600000 in
theorem table_none (la : Option Addr) (ln lc : Nat) (w : World) : Calls Tryz.prog 32 #[.slice none 0 0, .slice la ln lc] w fun e w' => ∃ mb, e = .returned (.map (some mb)) ∧ (∀ N B, SubAt N B w' mb none) ∧ Up w w' := by
  have hmm := @run_makeMap Tryz.prog
  go_enter Tryz.func32, Tryz.ntmps32
  go_wp2_with fail
  refine range_named fun A2 W2 hA2 hW2 => ?_
  have hu0 : Hid (Up w W2) := by subst hW2; exact uq
  obtain ⟨q, hq⟩ : ∃ q, Hid (w.heap.size = q) := ⟨_, rfl⟩
  have HQ : Hid (W2.heap[q]? = some (.map #[] 0)) := by subst hW2; rw [← hq.out]; exact alloc_at _ _ _ rfl
  rw [hq.out] at hA2
  clear hW2
  subst hA2
  go_loopw [11] (fun i wr => i = .int .i64 0 ∧ Up W2 wr) (fun i _ => 1 - (intOf i).toNat)
  case atStart => exact ⟨rfl, Up.refl _⟩
  case round =>
    obtain ⟨rfl, hup⟩ := hrel
    go_wp2_with fail
    refine bodyPost_ret (v := .map (some q)) (by simp [results, Tryz.results32, go_sem]) rfl ?_
    exact ⟨q, rfl, fun N B => ⟨#[], 0, [], (hup.trans (show Up wr _ from uq)).get HQ.out, rfl, .inl ⟨rfl, rfl⟩⟩, hu0.out.trans (hup.trans (show Up wr _ from uq))⟩

/-- while the table is filled -/
def TabJ (w W2 : World) (q : Nat) (v : Int) (c : Nat) (i : Value) (wr : World) : Prop :=
  (i = .int .i64 0 ∧ Up W2 wr) ∨ (i = .int .i64 1 ∧ Up w wr ∧ ∃ es clk, wr.heap[q]? = some (.map es clk) ∧ Entries es (Value.int .i64) ptrV [(v, c)])

set_option maxHeartbeats 3200000 in
theorem table_one (N : Nat → Prop) (B : Nat) (qa vc g lc : Nat) (v : Int) (c : Nat) (w : World) (h0 : w.cell? ⟨qa, 0, none⟩ = some (.int .i64 v)) (h1 : w.cell? ⟨g, 0, none⟩ = some (.pointer (some ⟨c, 0, none⟩))) (ht : TyAt N B w c (varT v)) :
    Calls Tryz.prog 32 #[.slice (some ⟨qa, 0, none⟩) 1 vc, .slice (some ⟨g, 0, none⟩) 1 lc] w fun e w' => ∃ mb, e = .returned (.map (some mb)) ∧ SubAt N B w' mb (some v) ∧ Up w w' := by
  have hmm := @run_makeMap Tryz.prog
  have HC := Lib.hid (And.intro h0 (And.intro h1 ht))
  have ql := cell_lt5 h0
  have gl := cell_lt5 h1
  clear h0 h1 ht
  go_enter Tryz.func32, Tryz.ntmps32
  go_wp2_with fail
  refine range_named fun A2 W2 hA2 hW2 => ?_
  have hu0 : Hid (Up w W2) := by subst hW2; exact uq
  obtain ⟨q, hq⟩ : ∃ q, Hid (w.heap.size = q) := ⟨_, rfl⟩
  have HQ : Hid (W2.heap[q]? = some (.map #[] 0)) := by subst hW2; rw [← hq.out]; exact alloc_at _ _ _ rfl
  rw [hq.out] at hA2
  clear hW2 hmm
  subst hA2
  go_loopw [11] (fun i wr => TabJ w W2 q v c i wr) (fun i _ => 1 - (intOf i).toNat)
  case atStart => exact .inl ⟨rfl, Up.refl _⟩
  case round =>
    rcases hrel with ⟨rfl, hup⟩ | ⟨rfl, hup, es, clk, hm, hE⟩
    · have HU := Lib.hid (hu0.out.trans hup)
      have y0 := (HU.out.cells _ _ ql).trans HC.out.1
      have y1 := (HU.out.cells _ _ gl).trans HC.out.2.1
      have ql := Nat.lt_of_lt_of_le ql HU.out.size
      have gl := Nat.lt_of_lt_of_le gl HU.out.size
      have hm := hup.get HQ.out
      have hlk : (Instr.lookup MtT (.map (some q)) (.int .i64 v) false).run Tryz.prog wr = .ok (.pointer none) wr := (run_lookup_miss (f := ptrV) (l := []) Tryz.underlying77 Tryz.underlying3 (intKeys .i64) (show (zeroValue TpT).run Tryz.prog wr = .ok (.pointer none) wr by kernel_rfl) hm rfl v (fun x hx => by cases hx)).2
      obtain ⟨es', clk', hst, hE⟩ := run_store_miss (f := ptrV) (l := []) (P := Tryz.prog) (w := wr) Tryz.underlying77 Tryz.underlying3 (intKeys .i64) hm rfl v c (fun x hx => by cases hx)
      have HE := Lib.hid (And.intro hE hm)
      have hst : (Instr.mapUpdate MtT (.map (some q)) (.int .i64 v) (.pointer (some ⟨c, 0, none⟩))).run Tryz.prog wr = .ok () (putB wr q (.map es' clk')) := hst
      clear hE hm
      go_wp2_with fail
      refine ⟨?_, by simp [intOf]⟩
      exact .inr ⟨rfl, HU.out.putB (by rw [hq.out]; exact Nat.le_refl _), es', clk', putB_same _ _ _ (lt_of_heap HE.out.2), HE.out.1⟩
    · have HE := Lib.hid (And.intro hm hE)
      clear hm hE
      go_wp2_with fail
      refine bodyPost_ret (v := .map (some q)) (by simp [results, Tryz.results32, go_sem]) rfl ?_
      exact ⟨q, rfl, ⟨es, clk, [(v, c)], (show Up wr _ from uq).get HE.out.1, HE.out.2, .inr ⟨v, c, rfl, rfl, HC.out.2.2.up (hup.trans (show Up wr _ from uq))⟩⟩, hup.trans (show Up wr _ from uq)⟩

end Go.Proofs.YtbghpkoimbmijaaGreatDoor
