import Derived.Test.YtmbipadiaggolaaGreatDoorShowC
/- The parts of a thing: the iterator's contract. -/
namespace Go.Proofs.YtmbipadiaggolaaGreatDoor
open Go.RowKit
set_option linter.unusedSimpArgs false
attribute [local go_sem] Oper.semAt_some ta_aa ta_ao ta_an ta_oa ta_oo ta_on

def partsOf (t : Thing) : List Part := if t.kind = 2 then arrParts t.vals else objParts t.slots

theorem flat_at : ∀ (vals : List Val) (k : Nat) (v : Val), vals[k]? = some v → (vals.flatMap Val.cells)[k * 3]? = some (.int .i64 v.k) ∧ (vals.flatMap Val.cells)[k * 3 + 1]? = some (.int .i64 v.n) ∧ (vals.flatMap Val.cells)[k * 3 + 2]? = some (.string v.s)
  | [], k, v, h => by simp at h
  | u :: l, 0, v, h => by simp at h; subst h; simp [Val.cells]
  | u :: l, k + 1, v, h => by
    have h1 := flat_at l k v (by simpa using h)
    have e : ∀ i, (List.flatMap Val.cells (u :: l))[(k + 1) * 3 + i]? = (List.flatMap Val.cells l)[k * 3 + i]? := fun i => by
      rw [List.flatMap_cons, List.getElem?_append_right (by simp [Val.cells]; omega)]
      congr 1
      simp [Val.cells]; omega
    exact ⟨by rw [← h1.1]; exact e 0, by rw [← h1.2.1]; exact e 1, by rw [← h1.2.2]; exact e 2⟩

theorem ThingIs.skeep {w w' : World} {own : Own} {tvs : List Value} {i : Nat} {t : Thing} {v : Value} (h : ThingIs w own tvs i t v) (hk : ∀ b o, own b ≠ none → w.heap[b]? = some o → (o.isCells = true ∨ o.isWalk = true) → w'.heap[b]? = some o) : ThingIs w' own tvs i t v := by
  have hrow : ∀ {m e size v n xs}, Row w own m e size v n xs → Row w' own m e size v n xs := by
    rintro m e size v n xs ⟨⟨h1, h2⟩, h3⟩
    refine ⟨⟨h1, ?_⟩, h3⟩
    rcases h2 with h2 | ⟨g, cap, cur, hv, hg, hc, r⟩
    · exact Or.inl h2
    · exact Or.inr ⟨g, cap, cur, hv, hg, hk g _ (by rw [h3 g (by rw [hv]; rfl)]; simp) hc (Or.inl rfl), r⟩
  cases h with
  | arr vals b av hb hc hr => exact ThingIs.arr vals b av hb (hk b _ (by rw [hb]; simp) hc (Or.inl rfl)) (hrow hr)
  | obj k p l b mv kv hk' hp hpi hb hc hm hr hn =>
    refine ThingIs.obj k p l b mv kv hk' hp hpi hb (hk b _ (by rw [hb]; simp) hc (Or.inl rfl)) ?_ (hrow hr) hn
    rcases hm with h | ⟨g, es, clk, hv, ho, hg, r⟩
    · exact Or.inl h
    · exact Or.inr ⟨g, es, clk, hv, ho, hk g _ (by rw [ho]; simp) hg (Or.inr rfl), r⟩

theorem row_at {w : World} {own : Own} {m : Nat × Nat} {e : TypeId} {size : Nat} {sa : Option Addr} {n cap : Nat} {xs : List Value} (h : Row w own m e size (.slice sa n cap) n xs) (j : Nat) (x : Value) (hx : xs[j]? = some x) :
    ∃ g, sa = some ⟨g, 0, none⟩ ∧ w.cell? ⟨g, j, none⟩ = some x := by
  rcases h.1.2 with ⟨h2, h0⟩ | ⟨g, cap', cur, hv, hg, hc, r⟩
  · exfalso
    have h3 := h.1.1
    subst h0
    have : xs = [] := List.eq_nil_of_length_eq_zero (by simpa using h3)
    subst this
    simp at hx
  · injection hv with h1 h2 h3
    subst h1
    refine ⟨g, rfl, ?_⟩
    have := h.1.cells (g := g) rfl j x hx
    rw [Addr.add_lit, Nat.zero_add] at this
    exact this

theorem parts_stops (t : Thing) (tv : Value) (own : Own) (tvs : List Value) (i tb sb B : Nat) (w : World) (hti : ThingIs w own tvs i t tv) (htb : w.heap[tb]? = some (.cells #[tv] 79 (0, 0)))
    (hB : ∀ b m, own b = some m → b < B) (hsb : sb < w.heap.size) (hsB : B ≤ sb) (hbuf : ∀ x, bufOf w sb = some x → B ≤ x ∧ x < w.heap.size) (hlen : (partsOf t).length ≤ 1048576) (hpv : ∀ p : Int, p < i → protoV tvs p = .nilIface ∨ ∃ T y, protoV tvs p = .iface T y) (okP : Part → Prop) (hok : ∀ x ∈ partsOf t, okP x) :
    SeqStopsK Fence.wide 1 Tryz.prog 74 #[.pointer (some ⟨tb, 0, none⟩)] (fun x : { x : Part // okP x } => x.1.encs) (SKeep sb) (fun xs => xs.map (·.1) = partsOf t) (fun xs => xs.map (·.1) <+: partsOf t) (partsOf t).length w := by
  intro l J0 Jx0 W hW hJ0 hJx0 hY0 h00
  -- the lists of parts that are sound, as lists of parts
  have hJ : AbidesFrom W.heap.size (fun (pre : List Part) W' => ∃ q : List { x : Part // okP x }, q.map (·.1) = pre ∧ J0 q W') := fun s A C row hs hg hr => by
    obtain ⟨q, hq, hj⟩ := hs
    exact ⟨q, hq, hJ0 q A C row hj hg hr⟩
  have hY : ∀ pre x W1, okP x → (∃ q : List { x : Part // okP x }, q.map (·.1) = pre ∧ J0 q W1) → pre.length < (partsOf t).length → YieldAt Fence.wide 0 Tryz.prog l (Part.encs x) W1 fun e W' =>
      (e = .returned (.bool true) ∧ (∃ q : List { x : Part // okP x }, q.map (·.1) = pre ++ [x] ∧ J0 q W') ∧ SKeep sb W1 W') ∨ (e = .returned (.bool false) ∧ (∃ q : List { x : Part // okP x }, q.map (·.1) = pre ++ [x] ∧ Jx0 q W')) := fun pre x W1 hx hj hl => by
    obtain ⟨q, rfl, hj⟩ := hj
    obtain ⟨fn, tmps, assign, body, hy, hR⟩ := hY0 q ⟨x, hx⟩ W1 hj (by simpa using hl)
    refine ⟨fn, tmps, assign, body, hy, hR.mono ?_⟩
    rintro e W' (⟨rfl, h1, h2⟩ | ⟨rfl, h1⟩)
    · exact Or.inl ⟨rfl, ⟨_, by simp, h1⟩, h2⟩
    · exact Or.inr ⟨rfl, _, by simp, h1⟩
  have h0 : ∃ q : List { x : Part // okP x }, q.map (·.1) = [] ∧ J0 q W := ⟨[], rfl, h00⟩
  refine CallsIn.mono (R := fun e W' => (∃ v, e = .returned v) ∧ ((∃ xs, xs = partsOf t ∧ ∃ q : List { x : Part // okP x }, q.map (·.1) = xs ∧ J0 q W') ∨ (∃ pre, pre <+: partsOf t ∧ ∃ q : List { x : Part // okP x }, q.map (·.1) = pre ∧ Jx0 q W'))) ?_ ?_
  rotate_left
  · rintro e W' ⟨hv, ⟨xs, rfl, q, hq, hj⟩ | ⟨pre, hp, q, rfl, hj⟩⟩
    · exact ⟨hv, Or.inl ⟨q, hq, hj⟩⟩
    · exact ⟨hv, Or.inr ⟨q, hp, hj⟩⟩
  clear hY0 hJ0 h00 hJx0
  have hU : Up w W := hW
  have hbW : bufOf W sb = bufOf w sb := bufOf_up (hU.block sb hsb)
  have hkeep : ∀ W', SKeep sb W W' → ThingIs W' own tvs i t tv := fun W' hs => by
    refine (hti.up hU).skeep fun b o ho hb hc => hs.same b o hb hc (fun e => ?_) (fun e => ?_)
    · obtain ⟨m, hm⟩ := Option.ne_none_iff_exists'.1 ho
      have := hB b m hm; omega
    · obtain ⟨m, hm⟩ := Option.ne_none_iff_exists'.1 ho
      have := hB b m hm
      rw [hbW] at e
      have := hbuf b e; omega
  have htW := cell_of (hU.get htb) 0
  simp only [List.getElem?_toArray, List.getElem?_cons_zero] at htW
  cases hti with
  | arr vals b av hb hc hr =>
    obtain ⟨sa, cap, rfl, _⟩ := ThingIs.arrow hr
    have hcb := cell_of (hU.get hc) 0
    simp only [List.getElem?_toArray, List.getElem?_cons_zero] at hcb
    simp only [partsOf, if_true] at hlen hY hok ⊢
    refine parts_arr l tb sb b sa cap vals (by simpa [arrParts] using hlen) _ _ W okP hok hJ (by simpa [arrParts] using hY) htW hcb ?_ (Nat.lt_of_lt_of_le hsb hU.size) h0
    intro W' hs k v hv
    have h1 := hkeep W' hs
    obtain ⟨f0, f1, f2⟩ := flat_at vals k v hv
    cases h1 with
    | arr _ _ av' hb' hc' hr' =>
      have e : av' = .slice sa vals.length cap := by
        have h2 := hs.same b _ (hU.get hc) (.inl rfl) (fun e => by have := hB b _ hb; omega) (fun e => by rw [hbW] at e; have := hB b _ hb; have := hbuf b e; omega)
        rw [hc'] at h2
        simpa using h2
      subst e
      obtain ⟨g, hg, r0⟩ := row_at hr' _ _ f0
      obtain ⟨g', hg', r1⟩ := row_at hr' _ _ f1
      obtain ⟨g'', hg'', r2⟩ := row_at hr' _ _ f2
      rw [hg] at hg' hg''
      cases hg'
      cases hg''
      exact ⟨g, hg, r0, r1, r2⟩
  | obj k p ms b mv kv hk hp hpi hb hc hm hr hn =>
    have hk2 : k ≠ 2 := by omega
    simp only [partsOf, if_neg hk2] at hlen hY hok ⊢
    obtain ⟨sa, cap, rfl⟩ := ownsRow_form hr.1
    refine parts_obj l tb sb b k _ mv ?_ sa cap ms (by simpa [objParts] using hlen) _ _ W okP hok hJ (by simpa [objParts] using hY) htW ?_ (Nat.lt_of_lt_of_le hsb hU.size) (fun x e => by rw [hbW] at e; exact Nat.lt_of_lt_of_le (hbuf x e).2 hU.size) h0
    · exact hpv p hpi
    intro W' hs
    have h1 := hkeep W' hs
    cases h1 with
    | obj _ _ _ _ mv' kv' _ _ _ hb' hc' hm' hr' hn' =>
      have e : mv' = mv ∧ kv' = .slice sa ms.length cap := by
        have h2 := hs.same b _ (hU.get hc) (.inl rfl) (fun e => by have := hB b _ hb; omega) (fun e => by rw [hbW] at e; have := hB b _ hb; have := hbuf b e; omega)
        rw [hc'] at h2
        simpa using h2
      obtain ⟨rfl, rfl⟩ := e
      have c0 := cell_of hc' 0
      have c1 := cell_of hc' 1
      simp only [List.getElem?_toArray, List.getElem?_cons_zero, List.getElem?_cons_succ] at c0 c1
      refine ⟨c0, c1, fun k s v hv => ?_⟩
      obtain ⟨g, hg, r0⟩ := row_at hr' k (.string s) (by simp [keysOf, hv])
      refine ⟨g, hg, r0, ?_⟩
      rcases hm' with ⟨rfl, rfl⟩ | ⟨g, es, clk, rfl, _, hg, hes⟩
      · simp at hv
      · exact (run_lookup_hit Tryz.underlying91 Tryz.underlying9 strKeys hg hes s v k hv hn).2

end Go.Proofs.YtmbipadiaggolaaGreatDoor
