import Derived.Test.YtbghpkoimbmijaaGreatDoorM05
/- YtbghpkoimbmijaaGreatDoorM06: lemmas of the proof, in order: SZ, ST. -/
/- Walk: symMerge of two rows that are sorted. -/
namespace Go.Proofs.YtbghpkoimbmijaaGreatDoor
open Go.RowKit
set_option linter.unusedSimpArgs false

/-- what stands when the rows were turned about -/
def StageA (I : World → Prop) (g off : Nat) (p a b q : List Nat) (w : World) : Prop := RowAt w g off (p ++ a ++ b ++ q) ∧ I w
/-- what stands when the left one was merged -/
def StageB (I : World → Prop) (g off : Nat) (cf : Nat → Nat → Int) (p t b q : List Nat) (w : World) : Prop := ∃ z, z.Perm t ∧ SortL.Sorted (ltC cf) z ∧ RowAt w g off (p ++ z ++ b ++ q) ∧ I w

theorem stage_end {I : World → Prop} {g off : Nat} {cf : Nat → Nat → Int} (ho : SortL.Swo (ltC cf)) {p q u v u1 u2 v1 v2 z1 z2 : List Nat} {w : World} (eu : u = u1 ++ u2) (ev : v = v1 ++ v2) (hu : SortL.Sorted (ltC cf) u) (hv : SortL.Sorted (ltC cf) v) (h1 : SortL.Sorted (ltC cf) z1) (h2 : SortL.Sorted (ltC cf) z2) (p1 : z1.Perm (u1 ++ v1)) (p2 : z2.Perm (u2 ++ v2))
    (hc : ∀ x ∈ u1, ∀ y ∈ v2, ltC cf y x = false) (hd : ∀ y ∈ v1, ∀ x ∈ u2, ltC cf y x = true) (hr : RowAt w g off (p ++ z1 ++ z2 ++ q)) (hi : I w) : Merged I g off cf p (u ++ v) q (.returned (.tuple #[])) w := by
  subst eu ev
  refine ⟨rfl, ⟨z1 ++ z2, ?_, SortL.glue ho hu hv h1 h2 p1 p2 hc hd, by rw [← List.append_assoc]; exact hr⟩, hi⟩
  refine (p1.append p2).trans ?_
  simp only [List.append_assoc]
  refine List.Perm.append_left u1 ?_
  rw [← List.append_assoc, ← List.append_assoc]
  exact List.Perm.append_right v2 List.perm_append_comm

/-- what the halves owe to one another, of the two that meet -/
theorem halves {cf : Nat → Nat → Int} (ho : SortL.Swo (ltC cf)) {u v : List Nat} (hu : SortL.Sorted (ltC cf) u) (hv : SortL.Sorted (ltC cf) v) {i j : Nat}
    (h1 : i = 0 ∨ v.length ≤ j ∨ ∃ x y, u[i - 1]? = some x ∧ v[j]? = some y ∧ ltC cf y x = false) (h2 : u.length ≤ i ∨ j = 0 ∨ ∃ x y, u[i]? = some x ∧ v[j - 1]? = some y ∧ ltC cf y x = true) :
    (∀ x ∈ u.take i, ∀ y ∈ v.drop j, ltC cf y x = false) ∧ ∀ y ∈ v.take j, ∀ x ∈ u.drop i, ltC cf y x = true := by
  constructor
  · intro x hx y hy
    obtain ⟨s, hs⟩ := List.getElem?_of_mem hx
    obtain ⟨t, ht⟩ := List.getElem?_of_mem hy
    rw [List.getElem?_take] at hs
    rw [List.getElem?_drop] at ht
    split at hs
    · rename_i hsi
      have hl := (List.getElem?_eq_some_iff.1 ht).1
      rcases h1 with h1 | h1 | ⟨x', y', hx', hy', hc⟩
      · omega
      · omega
      · have q1 := SortL.sorted_le ho hu (show s ≤ i - 1 by omega) hs hx'
        have q2 := SortL.sorted_le ho hv (show j ≤ j + t by omega) hy' ht
        exact ho.le_trans q1 (ho.le_trans hc q2)
    · cases hs
  · intro y hy x hx
    obtain ⟨s, hs⟩ := List.getElem?_of_mem hy
    obtain ⟨t, ht⟩ := List.getElem?_of_mem hx
    rw [List.getElem?_take] at hs
    rw [List.getElem?_drop] at ht
    split at hs
    · rename_i hsj
      have hl := (List.getElem?_eq_some_iff.1 ht).1
      rcases h2 with h2 | h2 | ⟨x', y', hx', hy', hc⟩
      · omega
      · omega
      · have q1 := SortL.sorted_le ho hv (show s ≤ j - 1 by omega) hs hy'
        have q2 := SortL.sorted_le ho hu (show i ≤ i + t by omega) hx' ht
        exact ho.lt_le (ho.le_lt q1 hc) q2
    · cases hs

set_option maxRecDepth 100000 in
set_option maxHeartbeats 12800000 in
theorem symMerge_big (I : World → Prop) (g off n cap b : Nat) (S : Nat → Prop) (cf : Nat → Nat → Int) (ho : SortL.Swo (ltC cf)) (hI : Inv g I) (hC : Cmp I g b S cf) (hb : n ≤ 1000000) (hcap : n ≤ cap) (p q u v : List Nat) (w : World) (hu : SortL.Sorted (ltC cf) u) (hv : SortL.Sorted (ltC cf) v) (hul : 2 ≤ u.length) (hvl : 2 ≤ v.length) (hS : ∀ z ∈ u ++ v, S z) (h : RowAt w g off (p ++ u ++ v ++ q)) (hn : (p ++ u ++ v ++ q).length = n) (hi : I w)
    (IH : ∀ (p q u' v' : List Nat) (w : World), u'.length + v'.length < u.length + v.length → u' ≠ [] → v' ≠ [] → SortL.Sorted (ltC cf) u' → SortL.Sorted (ltC cf) v' → (∀ z ∈ u' ++ v', S z) → RowAt w g off (p ++ u' ++ v' ++ q) → (p ++ u' ++ v' ++ q).length = n → I w → ∀ (a0 m0 e0 : Int), a0 = p.length → m0 = (p.length + u'.length : Nat) → e0 = (p.length + u'.length + v'.length : Nat) →
      Calls Tryz.prog 98 #[.slice (some ⟨g, off, none⟩) n cap, .int .i64 a0, .int .i64 m0, .int .i64 e0, cmpV b] w (Merged I g off cf p (u' ++ v') q))
    (a0 m0 e0 : Int) (ea : a0 = p.length) (em : m0 = (p.length + u.length : Nat)) (ee : e0 = (p.length + u.length + v.length : Nat)) :
    Calls Tryz.prog 98 #[.slice (some ⟨g, off, none⟩) n cap, .int .i64 a0, .int .i64 m0, .int .i64 e0, cmpV b] w (Merged I g off cf p (u ++ v) q) := by
  obtain ⟨a, ha⟩ : ∃ a, Hid (p.length = a) := ⟨_, rfl⟩
  obtain ⟨m, hm⟩ : ∃ m, Hid (p.length + u.length = m) := ⟨_, rfl⟩
  obtain ⟨el, hel⟩ : ∃ el, Hid (p.length + u.length + v.length = el) := ⟨_, rfl⟩
  have ea' : a0 = (a : Int) := by rw [ea, ha.out]
  have em' : m0 = (m : Int) := by rw [em, hm.out]
  have ee' : e0 = (el : Int) := by rw [ee, hel.out]
  subst ea' em' ee'
  have HN : Hid (el + q.length = n ∧ a + u.length = m ∧ m + v.length = el) := by
    unfold Hid
    have h1 := ha.out
    have h2 := hel.out
    have h3 := hm.out
    simp only [List.length_append] at hn
    omega
  have H := Lib.hid (And.intro h (And.intro hI (And.intro hi (And.intro hC (And.intro ho (And.intro hS (And.intro hu hv)))))))
  have HI := Lib.hid IH
  have hb2 : el ≤ n := by have := HN.out; omega
  have hb3 : a + 2 ≤ m := by have := HN.out; omega
  have hb4 : m + 2 ≤ el := by have := HN.out; omega
  have hq : ((m : Int) - a == 1) = false := by simp only [beq_eq_false_iff_ne, ne_eq]; omega
  have hq2 : ((el : Int) - m == 1) = false := by simp only [beq_eq_false_iff_ne, ne_eq]; omega
  obtain ⟨mid, hmid⟩ : ∃ mid, Hid (mid = (a + el) / 2) := ⟨_, rfl⟩
  have hmd1 : 2 * mid ≤ a + el := by have := hmid.out; omega
  have hmd2 : a + el < 2 * mid + 2 := by have := hmid.out; omega
  have e1 : ((a : Int) + el) / 2 = (mid : Int) := by have := hmid.out; omega
  obtain ⟨P, hP⟩ : ∃ P, Hid (P + 1 = mid + m) := ⟨mid + m - 1, by unfold Hid; omega⟩
  have e2 : (mid : Int) + m - 1 = P := by have := hP.out; omega
  have hn0 := Lib.hid hn
  -- where the search begins and ends
  obtain ⟨st, r0, hst⟩ : ∃ st r0 : Nat, Hid ((mid < m → st + el = mid + m ∧ r0 = mid) ∧ (m ≤ mid → st = a ∧ r0 = m)) := by
    rcases Nat.lt_or_ge mid m with q | q
    · exact ⟨mid + m - el, mid, fun _ => ⟨by omega, rfl⟩, fun q' => by omega⟩
    · exact ⟨a, m, fun q' => by omega, fun _ => ⟨rfl, rfl⟩⟩
  have hst1 : a ≤ st ∧ st ≤ r0 ∧ r0 ≤ m ∧ r0 ≤ mid ∧ mid + m ≤ st + el := by
    have := hst.out
    rcases Nat.lt_or_ge mid m with q | q
    · have := this.1 q; omega
    · have := this.2 q; omega
  obtain ⟨s1, s2, s3, s4, s5⟩ := hst1
  have hrow0 := Lib.hid (And.intro h hi)
  clear h hI hi hC ho hS hn ea em ee hu hv hul hvl IH
  by_cases hmm : mid < m
  all_goals
    first
    | (have e6 : (mid : Int) + m - el = (st : Int) := by have := (hst.out.1 hmm).1; omega
       have hmi : (mid : Int) < m := by omega
       have hr0 : r0 = mid := (hst.out.1 hmm).2
       have HR := Lib.hid hr0
       clear hr0)
    | (have hmi : ¬ (mid : Int) < m := by omega
       have hr0 : st = a ∧ r0 = m := hst.out.2 (by omega)
       have HR := Lib.hid hr0
       clear hr0)
    clear hmm
    go_enter Tryz.func98, Tryz.ntmps98
    go_wp2_with fail
    go_loopw [20, 21] (fun sv rv wr => ∃ s' r' : Nat, sv = .int .i64 s' ∧ rv = .int .i64 r' ∧ st ≤ s' ∧ s' ≤ r' ∧ r' ≤ r0 ∧ Hid ((s' = st ∨ ∃ x y, u[s' - 1 - a]? = some x ∧ v[P - (s' - 1) - m]? = some y ∧ ltC cf y x = false) ∧ (r' = r0 ∨ ∃ x y, u[r' - a]? = some x ∧ v[P - r' - m]? = some y ∧ ltC cf y x = true)) ∧ RowAt wr g off (p ++ u ++ v ++ q) ∧ I wr) (fun sv rv _ => (intOf rv).toNat - (intOf sv).toNat)
    case atStart =>
      first
      | exact ⟨st, r0, rfl, by rw [HR.out], Nat.le_refl _, s2, Nat.le_refl _, ⟨.inl rfl, .inl rfl⟩, hrow0.out.1, hrow0.out.2⟩
      | exact ⟨st, r0, by rw [HR.out.1], by rw [HR.out.2], Nat.le_refl _, s2, Nat.le_refl _, ⟨.inl rfl, .inl rfl⟩, hrow0.out.1, hrow0.out.2⟩
    case round =>
      obtain ⟨s, r, rfl, rfl, h1, h2, h3, hh, hrow, hIw⟩ := hrel
      by_cases hlt : s < r
      · have hij : (s : Int) < r := by omega
        obtain ⟨c, hcd⟩ : ∃ c, c = (s + r) / 2 := ⟨_, rfl⟩
        have hm1 : s ≤ c := by omega
        have hm2 : c < r := by omega
        have e7 : ((s : Int) + r) / 2 = (c : Int) := by omega
        obtain ⟨d, hd⟩ : ∃ d, Hid (d + c = P) := ⟨P - c, by have := hP.out; unfold Hid; omega⟩
        have e8 : (P : Int) - c = (d : Int) := by have := hd.out; omega
        have hdm : m ≤ d ∧ d < el := by have := hd.out; have := hP.out; omega
        obtain ⟨hd1, hd2⟩ := hdm
        obtain ⟨x, hx⟩ : ∃ x, u[c - a]? = some x := ⟨_, List.getElem?_eq_getElem (by have := HN.out; omega)⟩
        obtain ⟨y, hy⟩ : ∃ y, v[d - m]? = some y := ⟨_, List.getElem?_eq_getElem (by have := HN.out; omega)⟩
        have hsx : S x := H.out.2.2.2.2.2.1 x (by simp [List.mem_of_getElem? hx])
        have hsy : S y := H.out.2.2.2.2.2.1 y (by simp [List.mem_of_getElem? hy])
        have hrx : (p ++ u ++ v ++ q)[c]? = some x := by
          have h4 := ha.out
          have h6 := (List.getElem?_eq_some_iff.1 hx).1
          rw [List.append_assoc, List.append_assoc, List.getElem?_append_right (by omega), List.getElem?_append_left (by omega), h4]
          exact hx
        have hry : (p ++ u ++ v ++ q)[d]? = some y := by
          have h4 : (p ++ u).length = m := by have := hm.out; simp; omega
          have h6 := (List.getElem?_eq_some_iff.1 hy).1
          rw [List.append_assoc, List.getElem?_append_right (by omega), h4, List.getElem?_append_left (by omega)]
          exact hy
        have R1 := Lib.hid (And.intro hrow (And.intro hsx (And.intro hsy (And.intro hx hy))))
        obtain ⟨cs, hcs, hcv⟩ := hrow
        have hId := H.out.2.1.drew _ hIw
        have q0 : ∀ i : RowW I g cs, i.W.cell? ⟨g, off + c, none⟩ = some (.pointer (some ⟨x, 0, none⟩)) := fun i => RowW.cell hcv hrx i
        have q1 : ∀ i : RowW I g cs, i.W.cell? ⟨g, off + d, none⟩ = some (.pointer (some ⟨y, 0, none⟩)) := fun i => RowW.cell hcv hry i
        have l1 : (c : Int) < n := by omega
        have l2 : (d : Int) < n := by omega
        have l3 : (c : Int) ≤ P := by have := hd.out; omega
        have e9 : IntKind.i64.wrap (d : Int) = (d : Int) := IntWalk.i64_in _ (by omega)
        have e10 : IntKind.i64.wrap ((P : Int) - c) = (d : Int) := by rw [e8]; exact e9
        have HC := Lib.hid hcs
        have HH := Lib.hid (And.intro hm1 hm2)
        clear hIw hcv hrx hry hsx hsy hx hy hcd hlt
        go_wp2_with fail
        haveI : Nonempty (RowW I g cs) := ⟨⟨_, hId, hcs⟩⟩
        refine wp_region_row I g cs (by kernel_rfl) (by kernel_rfl) hId hcs ?_
        repeat (go_big_quiet_step ((go_at_call 66; rename_i i; exact H.out.2.2.2.1.of i R1.out.2.2.1 R1.out.2.1)))
        refine wpQuiet_nil ?_
        intro w2 hw'
        obtain ⟨i2, hw''⟩ := hw'
        have hi2 : I w2 := hw'' ▸ i2.inv
        have hr2 : w2.heap[g]? = some (.cells cs TpT (0, 0)) := hw'' ▸ i2.row
        clear hw''
        have R2 : Hid (RowAt w2 g off (p ++ u ++ v ++ q) ∧ I w2) := ⟨R1.out.1.keep (hr2.trans HC.out.symm), hi2⟩
        clear hcs hId q0 q1 hr2 hi2 i2 e7 e8 e9 e10
        go_wp2_with fail
        · have hcm : (!decide (cf y x < 0)) = true := by assumption
          have HCM : Hid (ltC cf y x = false) := by unfold Hid; simpa using hcm
          go_roundw
          case rel =>
            refine ⟨c + 1, r, by simp, rfl, by omega, by omega, by omega, ⟨.inr ⟨x, y, by rw [Nat.add_sub_cancel]; exact R1.out.2.2.2.1, ?_, HCM.out⟩, hh.out.2⟩, R2.out⟩
            rw [Nat.add_sub_cancel]
            have e : P - c - m = d - m := by have := hd.out; omega
            rw [e]
            exact R1.out.2.2.2.2
          case measure => simp [intOf] <;> omega
        · have hcm : (!decide (cf y x < 0)) = false := by assumption
          have HCM : Hid (ltC cf y x = true) := by unfold Hid; simpa using hcm
          go_roundw
          case rel =>
            refine ⟨s, c, rfl, rfl, by omega, by omega, by omega, ⟨hh.out.1, .inr ⟨x, y, R1.out.2.2.2.1, ?_, HCM.out⟩⟩, R2.out⟩
            have e : P - c - m = d - m := by have := hd.out; omega
            rw [e]
            exact R1.out.2.2.2.2
          case measure => simp [intOf] <;> omega
      · obtain rfl : s = r := by omega
        have hij : ¬ (s : Int) < s := by omega
        have R := Lib.hid (And.intro hrow hIw)
        obtain ⟨E, hE⟩ : ∃ E, Hid (E + s = mid + m) := ⟨mid + m - s, by unfold Hid; omega⟩
        have e11 : (mid : Int) + m - s = E := by have := hE.out; omega
        have hE1 : m ≤ E ∧ E ≤ el ∧ mid ≤ E ∧ a ≤ s ∧ s ≤ m ∧ s ≤ mid := by have := hE.out; omega
        obtain ⟨k1, k2, k3, k4, k5, k6⟩ := hE1
        obtain ⟨u1, hu1⟩ : ∃ u1, Hid (u.take (s - a) = u1) := ⟨_, rfl⟩
        obtain ⟨u2, hu2⟩ : ∃ u2, Hid (u.drop (s - a) = u2) := ⟨_, rfl⟩
        obtain ⟨v1, hv1⟩ : ∃ v1, Hid (v.take (E - m) = v1) := ⟨_, rfl⟩
        obtain ⟨v2, hv2⟩ : ∃ v2, Hid (v.drop (E - m) = v2) := ⟨_, rfl⟩
        have hl : Hid (u1.length = s - a ∧ u2.length = m - s ∧ v1.length = E - m ∧ v2.length = el - E) := by
          rw [← hu1.out, ← hu2.out, ← hv1.out, ← hv2.out]
          have := HN.out
          unfold Hid
          simp only [List.length_take, List.length_drop]
          omega
        have huv : Hid (u = u1 ++ u2 ∧ v = v1 ++ v2) := by
          rw [← hu1.out, ← hu2.out, ← hv1.out, ← hv2.out]
          exact ⟨(List.take_append_drop _ _).symm, (List.take_append_drop _ _).symm⟩
        have hal : Hid ((∀ x ∈ u1, ∀ y ∈ v2, ltC cf y x = false) ∧ ∀ y ∈ v1, ∀ x ∈ u2, ltC cf y x = true) := by
          rw [← hu1.out, ← hu2.out, ← hv1.out, ← hv2.out]
          refine halves H.out.2.2.2.2.1 H.out.2.2.2.2.2.2.1 H.out.2.2.2.2.2.2.2 ?_ ?_
          · rcases hh.out.1 with q1 | ⟨x, y, q1, q2, q3⟩
            · have q2 := hst.out
              have q3 := HN.out
              have q4 := hE.out
              rcases Nat.lt_or_ge mid m with q | q
              · have := q2.1 q; exact .inr (.inl (by omega))
              · have := q2.2 q; exact .inl (by omega)
            · rcases Nat.eq_zero_or_pos (s - a) with q4 | q4
              · exact .inl q4
              · refine .inr (.inr ⟨x, y, ?_, ?_, q3⟩)
                · have e : s - a - 1 = s - 1 - a := by omega
                  rw [e]; exact q1
                · have e : E - m = P - (s - 1) - m := by have := hE.out; have := hP.out; omega
                  rw [e]; exact q2
          · rcases hh.out.2 with q1 | ⟨x, y, q1, q2, q3⟩
            · have q2 := hst.out
              have q3 := HN.out
              have q4 := hE.out
              rcases Nat.lt_or_ge mid m with q | q
              · have := q2.1 q; exact .inr (.inl (by omega))
              · have := q2.2 q; exact .inl (by omega)
            · refine .inr (.inr ⟨x, y, q1, ?_, q3⟩)
              have e : E - m - 1 = P - s - m := by have := hE.out; have := hP.out; omega
              rw [e]; exact q2
        have hsu : Hid (SortL.Sorted (ltC cf) u1 ∧ SortL.Sorted (ltC cf) u2 ∧ SortL.Sorted (ltC cf) v1 ∧ SortL.Sorted (ltC cf) v2) := by
          have q1 := H.out.2.2.2.2.2.2.1
          have q2 := H.out.2.2.2.2.2.2.2
          rw [huv.out.1] at q1
          rw [huv.out.2] at q2
          have q3 := SortL.sorted_append.1 q1
          have q4 := SortL.sorted_append.1 q2
          exact ⟨q3.1, q3.2.1, q4.1, q4.2.1⟩
        have hSS : Hid ((∀ z ∈ u1 ++ v1, S z) ∧ ∀ z ∈ u2 ++ v2, S z) := by
          have q1 := H.out.2.2.2.2.2.1
          rw [huv.out.1, huv.out.2] at q1
          constructor
          · intro z hz
            refine q1 z ?_
            rcases List.mem_append.1 hz with hz | hz <;> simp [hz]
          · intro z hz
            refine q1 z ?_
            rcases List.mem_append.1 hz with hz | hz <;> simp [hz]
        have hrw : Hid (RowAt wr g off (p ++ u1 ++ u2 ++ v1 ++ (v2 ++ q)) ∧ (p ++ u1 ++ u2 ++ v1 ++ (v2 ++ q)).length = n) := by
          have q1 := R.out.1
          have q2 := hn0.out
          rw [huv.out.1, huv.out.2] at q1 q2
          constructor
          · simpa using q1
          · simp only [List.length_append] at q2 ⊢
            omega
        clear hrow hIw hlt
        have hA : (s < m ∧ m < E) ∨ ¬ s < m ∨ (s < m ∧ ¬ m < E) := by omega
        rcases hA with ⟨c1, c2⟩ | c1 | ⟨c1, c2⟩
        -- the rows are turned about
        all_goals
          first
          | (have d1 : (s : Int) < m := by omega
             have d2 : (m : Int) < E := by omega
             go_wp2_with fail
             refine (rotate_any I g off n cap H.out.2.1 (p ++ u1) u2 v1 (v2 ++ q) _ _ (List.length_pos_iff.1 (by have := hl.out; omega)) (List.length_pos_iff.1 (by have := hl.out; omega)) hrw.out.1 hrw.out.2 hcap hb R.out.2 _ _ _ (by have := hl.out; have := ha.out; simp only [List.length_append]; omega) (by have := hl.out; have := ha.out; simp only [List.length_append]; omega) (by have := hl.out; have := ha.out; simp only [List.length_append]; omega)).mono ?_
             rintro e w2 ⟨rfl, hr2, hi2⟩
             have TA : Hid (StageA I g off p (u1 ++ v1) (u2 ++ v2) q w2) := ⟨by simpa using hr2, hi2⟩
             clear hr2 hi2)
          | (have d1 : (s : Int) < m := by omega
             have d2 : ¬ (m : Int) < E := by omega
             have TA : Hid (StageA I g off p (u1 ++ v1) (u2 ++ v2) q wr) := by
               have e : v1 = [] := List.length_eq_zero_iff.1 (by have := hl.out; omega)
               have q1 := hrw.out.1
               rw [e] at q1 ⊢
               exact ⟨by simpa using q1, R.out.2⟩)
          | (have d1 : ¬ (s : Int) < m := by omega
             have TA : Hid (StageA I g off p (u1 ++ v1) (u2 ++ v2) q wr) := by
               have e : u2 = [] := List.length_eq_zero_iff.1 (by have := hl.out; omega)
               have q1 := hrw.out.1
               rw [e] at q1 ⊢
               exact ⟨by simpa using q1, R.out.2⟩)
          have hB : (a < s ∧ s < mid) ∨ ¬ a < s ∨ (a < s ∧ ¬ s < mid) := by omega
          rcases hB with ⟨c3, c4⟩ | c3 | ⟨c3, c4⟩
          -- the left one is merged
          all_goals
            first
            | (have d3 : (a : Int) < s := by omega
               have d4 : (s : Int) < mid := by omega
               go_wp2_with fail
               refine (HI.out p (u2 ++ v2 ++ q) u1 v1 _ (by have := hl.out; have := HN.out; omega) (List.length_pos_iff.1 (by have := hl.out; omega)) (List.length_pos_iff.1 (by have := hl.out; have := hE.out; omega)) hsu.out.1 hsu.out.2.2.1 hSS.out.1 (by have := TA.out.1; simpa using this) (by have := hrw.out.2; simp only [List.length_append] at this ⊢; omega) TA.out.2 _ _ _ (by have := ha.out; omega) (by have := hl.out; have := ha.out; omega) (by have := hl.out; have := ha.out; have := hE.out; omega)).mono ?_
               rintro e w3 ⟨rfl, ⟨z1, hz1, hz2, hz3⟩, hi3⟩
               have TB : Hid (z1.Perm (u1 ++ v1) ∧ SortL.Sorted (ltC cf) z1 ∧ RowAt w3 g off (p ++ z1 ++ (u2 ++ v2) ++ q) ∧ I w3) := ⟨hz1, hz2, by simpa using hz3, hi3⟩
               clear hz1 hz2 hz3 hi3)
            | (have d3 : (a : Int) < s := by omega
               have d4 : ¬ (s : Int) < mid := by omega
               obtain ⟨z1, TB⟩ : ∃ z1, Hid (z1.Perm (u1 ++ v1) ∧ SortL.Sorted (ltC cf) z1 ∧ RowAt _ g off (p ++ z1 ++ (u2 ++ v2) ++ q) ∧ I _) := ⟨u1 ++ v1, List.Perm.refl _, by
                 have e : v1 = [] := List.length_eq_zero_iff.1 (by have := hl.out; have := hE.out; omega)
                 rw [e, List.append_nil]
                 exact hsu.out.1, TA.out.1, TA.out.2⟩)
            | (have d3 : ¬ (a : Int) < s := by omega
               obtain ⟨z1, TB⟩ : ∃ z1, Hid (z1.Perm (u1 ++ v1) ∧ SortL.Sorted (ltC cf) z1 ∧ RowAt _ g off (p ++ z1 ++ (u2 ++ v2) ++ q) ∧ I _) := ⟨u1 ++ v1, List.Perm.refl _, by
                 have e : u1 = [] := List.length_eq_zero_iff.1 (by have := hl.out; omega)
                 rw [e, List.nil_append]
                 exact hsu.out.2.2.1, TA.out.1, TA.out.2⟩)
            have hzl : Hid (z1.length = (s - a) + (E - m)) := by
              have q5 := TB.out.1.length_eq
              have q6 := hl.out
              unfold Hid
              simp only [List.length_append] at q5
              omega
            have hC2 : (mid < E ∧ E < el) ∨ ¬ mid < E ∨ (mid < E ∧ ¬ E < el) := by omega
            rcases hC2 with ⟨c5, c6⟩ | c5 | ⟨c5, c6⟩
            -- the right one is merged
            · first
              | (exfalso; omega)
              | (have d5 : (mid : Int) < E := by omega
                 have d6 : (E : Int) < el := by omega
                 go_wp2_with fail
                 refine (HI.out (p ++ z1) q u2 v2 _ (by have := hl.out; have := HN.out; omega) (List.length_pos_iff.1 (by have := hl.out; have := hE.out; omega)) (List.length_pos_iff.1 (by have := hl.out; omega)) hsu.out.2.1 hsu.out.2.2.2 hSS.out.2 (by have := TB.out.2.2.1; simpa using this) (by have q5 := hrw.out.2; have := hl.out; have := hzl.out; simp only [List.length_append] at q5 ⊢; omega) TB.out.2.2.2 _ _ _ (by have := ha.out; have := hzl.out; have := hE.out; simp only [List.length_append]; omega) (by have := ha.out; have := hzl.out; have := hE.out; have := hl.out; simp only [List.length_append]; omega) (by have := ha.out; have := hzl.out; have := hE.out; have := hl.out; simp only [List.length_append]; omega)).mono ?_
                 rintro e w4 ⟨rfl, ⟨z2, hz1, hz2, hz3⟩, hi3⟩
                 have TC := Lib.hid (And.intro hz1 (And.intro hz2 (And.intro hz3 hi3)))
                 clear hz1 hz2 hz3 hi3
                 go_wp2_with fail
                 go_end0
                 exact stage_end H.out.2.2.2.2.1 huv.out.1 huv.out.2 H.out.2.2.2.2.2.2.1 H.out.2.2.2.2.2.2.2 TB.out.2.1 TC.out.2.1 TB.out.1 TC.out.1 hal.out.1 hal.out.2 TC.out.2.2.1 TC.out.2.2.2)
            · first
              | (exfalso; omega)
              | (have d5 : ¬ (mid : Int) < E := by omega
                 have e : u2 = [] := List.length_eq_zero_iff.1 (by have := hl.out; have := hE.out; omega)
                 have TC : Hid (SortL.Sorted (ltC cf) (u2 ++ v2)) := by rw [e, List.nil_append]; exact hsu.out.2.2.2
                 clear e
                 go_wp2_with fail
                 go_end0
                 exact stage_end H.out.2.2.2.2.1 huv.out.1 huv.out.2 H.out.2.2.2.2.2.2.1 H.out.2.2.2.2.2.2.2 TB.out.2.1 TC.out TB.out.1 (List.Perm.refl _) hal.out.1 hal.out.2 TB.out.2.2.1 TB.out.2.2.2)
            · first
              | (exfalso; omega)
              | (have d5 : (mid : Int) < E := by omega
                 have d6 : ¬ (E : Int) < el := by omega
                 have e : v2 = [] := List.length_eq_zero_iff.1 (by have := hl.out; omega)
                 have TC : Hid (SortL.Sorted (ltC cf) (u2 ++ v2)) := by rw [e, List.append_nil]; exact hsu.out.2.1
                 clear e
                 go_wp2_with fail
                 go_end0
                 exact stage_end H.out.2.2.2.2.1 huv.out.1 huv.out.2 H.out.2.2.2.2.2.2.1 H.out.2.2.2.2.2.2.2 TB.out.2.1 TC.out TB.out.1 (List.Perm.refl _) hal.out.1 hal.out.2 TB.out.2.2.1 TB.out.2.2.2)

end Go.Proofs.YtbghpkoimbmijaaGreatDoor

/- Walks: symMerge of any two rows that are sorted; a row of types sorted. -/
namespace Go.Proofs.YtbghpkoimbmijaaGreatDoor
open Go.RowKit
set_option linter.unusedSimpArgs false

theorem symMerge_any (I : World → Prop) (g off n cap b : Nat) (S : Nat → Prop) (cf : Nat → Nat → Int) (ho : SortL.Swo (ltC cf)) (hI : Inv g I) (hC : Cmp I g b S cf) (hb : n ≤ 1000000) (hcap : n ≤ cap) : ∀ (N : Nat) (p q u v : List Nat) (w : World), u.length + v.length ≤ N → u ≠ [] → v ≠ [] → SortL.Sorted (ltC cf) u → SortL.Sorted (ltC cf) v → (∀ z ∈ u ++ v, S z) → RowAt w g off (p ++ u ++ v ++ q) → (p ++ u ++ v ++ q).length = n → I w → ∀ (a0 m0 e0 : Int), a0 = p.length → m0 = (p.length + u.length : Nat) → e0 = (p.length + u.length + v.length : Nat) →
      Calls Tryz.prog 98 #[.slice (some ⟨g, off, none⟩) n cap, .int .i64 a0, .int .i64 m0, .int .i64 e0, cmpV b] w (Merged I g off cf p (u ++ v) q) := by
  intro N
  induction N with
  | zero =>
    intro p q u v w hl hu0
    have := List.length_pos_iff.2 hu0
    omega
  | succ N ih =>
    intro p q u v w hl hu0 hv0 hu hv hS h hn hi a0 m0 e0 ea em ee
    have hu1 := List.length_pos_iff.2 hu0
    have hv1 := List.length_pos_iff.2 hv0
    rcases Nat.lt_or_ge u.length 2 with h2 | h2
    · obtain ⟨x, rfl⟩ := List.length_eq_one_iff.1 (show u.length = 1 by omega)
      exact symMerge_left I g off n cap b S cf ho hI hC p q v x w hv (by simpa using hS) (by simpa using h) (by simpa using hn) hb hi a0 m0 e0 ea (by simpa using em) (by simpa using ee)
    · rcases Nat.lt_or_ge v.length 2 with h3 | h3
      · obtain ⟨y, rfl⟩ := List.length_eq_one_iff.1 (show v.length = 1 by omega)
        exact symMerge_right I g off n cap b S cf ho hI hC p q u y w hu h2 hS (by simpa using h) (by simpa using hn) hb hi a0 m0 e0 ea em (by simpa using ee)
      · exact symMerge_big I g off n cap b S cf ho hI hC hb hcap p q u v w hu hv h2 h3 hS h hn hi (fun p q u' v' w hlt => ih p q u' v' w (by omega)) a0 m0 e0 ea em ee

theorem insertion_none (v f : Value) (a e0 : Int) (w : World) (h : e0 ≤ a + 1) (hab : 0 ≤ a) (hb : a ≤ 1000000) :
    Calls Tryz.prog 97 #[v, .int .i64 a, .int .i64 e0, f] w fun e w' => e = .returned (.tuple #[]) ∧ w = w' := by
  have h1 : ¬ a + 1 < e0 := by omega
  go_enter Tryz.func97, Tryz.ntmps97
  go_wp2_with fail
  refine wp_loop_rounds 1 ?_
  rw [rounds_succ]
  go_wp2_with fail
  go_end0
  exact ⟨rfl, rfl⟩

/-- the blocks of a row, each sorted -/
def BlkAt (I : World → Prop) (g off : Nat) (cf : Nat → Nat → Int) (s : Nat) (xs : List Nat) (bs : List (List Nat)) (w : World) : Prop :=
  SortL.Blocks s bs ∧ (∀ b ∈ bs, SortL.Sorted (ltC cf) b) ∧ bs.flatten.Perm xs ∧ RowAt w g off bs.flatten ∧ I w

theorem flat_snoc (bs : List (List Nat)) (z : List Nat) : (bs ++ [z]).flatten = bs.flatten ++ z := by simp

set_option maxRecDepth 100000 in
set_option maxHeartbeats 12800000 in
theorem stable_any (I : World → Prop) (g off n cap b : Nat) (S : Nat → Prop) (cf : Nat → Nat → Int) (ho : SortL.Swo (ltC cf)) (hI : Inv g I) (hC : Cmp I g b S cf) (hb : n ≤ 1000000) (hcap : n ≤ cap) (xs : List Nat) (w : World) (hS : ∀ z ∈ xs, S z) (h : RowAt w g off xs) (hn : xs.length = n) (hi : I w) :
    Calls Tryz.prog 84 #[.slice (some ⟨g, off, none⟩) n cap, .int .i64 n, cmpV b] w (Merged I g off cf [] xs []) := by
  have H := Lib.hid (And.intro h (And.intro hI (And.intro hi (And.intro hC (And.intro ho (And.intro hS hn))))))
  have hni : (n : Int) ≤ 1000000 := by omega
  clear h hI hi hC ho hS hn
  go_enter Tryz.func84, Tryz.ntmps84
  go_wp2_with fail
  go_loopw [7, 8] (fun av bv wr => ∃ (A B : Nat) (done : List (List Nat)) (raw : List Nat), av = .int .i64 A ∧ bv = .int .i64 B ∧ Hid (done.flatten.length = A ∧ A + 20 = B ∧ (∀ x ∈ done, x.length = 20) ∧ (∀ x ∈ done, SortL.Sorted (ltC cf) x) ∧ (done.flatten ++ raw).Perm xs) ∧ A ≤ n ∧ B = A + 20 ∧ RowAt wr g off (done.flatten ++ raw) ∧ I wr) (fun av _ _ => n - (intOf av).toNat)
  case atStart => exact ⟨0, 20, [], xs, rfl, rfl, ⟨rfl, rfl, by simp, by simp, by simp⟩, Nat.zero_le _, rfl, by simpa using H.out.1, H.out.2.2.1⟩
  case round =>
    obtain ⟨A, B, done, raw, rfl, rfl, hh, hA, hB, hrow, hIw⟩ := hrel
    have R := Lib.hid (And.intro hrow hIw)
    have hlen : Hid (A + raw.length = n) := by
      have q1 := hh.out.2.2.2.2.length_eq
      have q2 := H.out.2.2.2.2.2.2
      have q3 := hh.out.1
      unfold Hid
      simp only [List.length_append] at q1
      omega
    have hSr : Hid (∀ z ∈ raw, S z) := fun z hz => H.out.2.2.2.2.2.1 z (hh.out.2.2.2.2.mem_iff.1 (by simp [hz]))
    clear hrow hIw
    by_cases hlt : A + 20 ≤ n
    · have hle : (B : Int) ≤ n := by omega
      obtain ⟨x0, u, hxu⟩ : ∃ x0 u, Hid (raw.take 20 = x0 :: u) := by
        cases hq : raw.take 20 with
        | nil =>
          have q := congrArg List.length hq
          rw [List.length_take, List.length_nil] at q
          have := hlen.out
          omega
        | cons x0 u => exact ⟨x0, u, rfl⟩
      obtain ⟨rest, hrs⟩ : ∃ rest, Hid (raw.drop 20 = rest) := ⟨_, rfl⟩
      have hrr : Hid (raw = (x0 :: u) ++ rest) := by
        unfold Hid
        rw [← hxu.out, ← hrs.out, List.take_append_drop]
      have hul : Hid ((x0 :: u).length = 20) := by
        unfold Hid
        rw [← hxu.out, List.length_take]
        have := hlen.out
        omega
      have hul2 : Hid (u.length = 19) := by have := hul.out; unfold Hid; simpa using this
      have hBd := Lib.hid hB
      clear hB hlt
      go_wp2_with fail
      refine (insertion_any I g off n cap b S cf H.out.2.2.2.2.1 H.out.2.1 H.out.2.2.2.1 done.flatten rest x0 u _ (fun z hz => hSr.out z (by rw [hrr.out]; simp only [List.mem_append]; exact .inl hz)) (by have := R.out.1; rw [hrr.out] at this; simpa using this) (by have q1 := hlen.out; have q2 := hh.out.1; have q3 := congrArg List.length hrr.out; simp only [List.length_append] at q3 ⊢; omega) hcap hb R.out.2 _ _ (by rw [hh.out.1]) (by have := hul2.out; have := hh.out.1; have := hBd.out; omega)).mono ?_
      rintro e w2 ⟨rfl, ⟨z, hz1, hz2, hz3⟩, hi3⟩
      have T := Lib.hid (And.intro hz1 (And.intro hz2 (And.intro hz3 hi3)))
      clear hz1 hz2 hz3 hi3
      have hzl : Hid (z.length = 20) := by have q1 := T.out.1.length_eq; have q2 := hul.out; unfold Hid; omega
      go_wp2_with fail
      go_roundw
      case rel =>
        refine ⟨B, B + 20, done ++ [z], rest, rfl, by simp, ⟨?_, rfl, ?_, ?_, ?_⟩, by omega, rfl, by rw [flat_snoc]; exact T.out.2.2.1, T.out.2.2.2⟩
        · rw [flat_snoc, List.length_append, hh.out.1, hzl.out]; exact hBd.out.symm
        · intro x hx
          rcases List.mem_append.1 hx with hx | hx
          · exact hh.out.2.2.1 x hx
          · simp at hx; subst hx; exact hzl.out
        · intro x hx
          rcases List.mem_append.1 hx with hx | hx
          · exact hh.out.2.2.2.1 x hx
          · simp at hx; subst hx; exact T.out.2.1
        · refine List.Perm.trans ?_ hh.out.2.2.2.2
          rw [flat_snoc, hrr.out, List.append_assoc]
          exact List.Perm.append_left _ (List.Perm.append_right _ T.out.1)
      case measure => have := hBd.out; simp [intOf] <;> omega
    · have hle : ¬ (B : Int) ≤ n := by omega
      have hrl : Hid (raw.length < 20) := by have := hlen.out; unfold Hid; omega
      have hBd := Lib.hid hB
      clear hB hlt
      rcases hraw : raw with _ | ⟨x0, u⟩
      all_goals
        have HR := Lib.hid hraw
        clear hraw
        go_wp2_with fail
        first
        | (refine (insertion_none _ _ _ _ _ (by have := hlen.out; have := congrArg List.length HR.out; simp only [List.length_nil] at this; omega) (by omega) (by omega)).mono ?_
           rintro e w2 ⟨rfl, rfl⟩
           have T : Hid (BlkAt I g off cf 20 xs done wr) := by
             have q1 := R.out.1
             have q2 := hh.out.2.2.2.2
             rw [HR.out, List.append_nil] at q1 q2
             exact ⟨SortL.blocks_full (by omega) hh.out.2.2.1, hh.out.2.2.2.1, q2, q1, R.out.2⟩)
        | (refine (insertion_any I g off n cap b S cf H.out.2.2.2.2.1 H.out.2.1 H.out.2.2.2.1 done.flatten [] x0 u _ (fun z hz => hSr.out z (by rw [HR.out]; exact hz)) (by have := R.out.1; rw [HR.out] at this; simpa using this) (by have q1 := hlen.out; have q2 := hh.out.1; rw [HR.out] at q1; simp only [List.length_append, List.length_nil] at q1 ⊢; omega) hcap hb R.out.2 _ _ (by rw [hh.out.1]) (by have q1 := hlen.out; have q2 := hh.out.1; rw [HR.out, List.length_cons] at q1; omega)).mono ?_
           rintro e w2 ⟨rfl, ⟨z, hz1, hz2, hz3⟩, hi3⟩
           have T : Hid (BlkAt I g off cf 20 xs (done ++ [z]) w2) := by
             have q1 := hz1.length_eq
             have q2 := hrl.out
             rw [HR.out] at q2
             refine ⟨SortL.blocks_snoc (by rw [q1]; simp) (by omega) hh.out.2.2.1, ?_, ?_, by rw [flat_snoc]; simpa using hz3, hi3⟩
             · intro x hx
               rcases List.mem_append.1 hx with hx | hx
               · exact hh.out.2.2.2.1 x hx
               · simp at hx; subst hx; exact hz2
             · refine List.Perm.trans ?_ hh.out.2.2.2.2
               rw [flat_snoc, HR.out]
               exact List.Perm.append_left _ hz1
           clear hz1 hz2 hz3 hi3)
        go_wp2_with fail
        go_loopw [6, 7, 8, 9] (fun sv _ _ _ wr => ∃ (s : Nat) (bs : List (List Nat)), sv = .int .i64 s ∧ 0 < s ∧ s ≤ 2000000 ∧ BlkAt I g off cf s xs bs wr) (fun sv _ _ _ _ => n - (intOf sv).toNat)
        case atStart => exact ⟨20, _, rfl, by omega, by omega, T.out⟩
        case round =>
          obtain ⟨s, bs, rfl, hs0, hs1, hbk⟩ := hrel
          have K := Lib.hid hbk
          have hbl : Hid (bs.flatten.length = n) := by have q1 := hbk.2.2.1.length_eq; have q2 := H.out.2.2.2.2.2.2; unfold Hid; omega
          clear hbk
          by_cases hsn : s < n
          · have hsi : (s : Int) < n := by omega
            clear hsn
            go_wp2_with fail
            go_loopw [7, 8] (fun av bv wr => ∃ (A B : Nat) (dn rest : List (List Nat)), av = .int .i64 A ∧ bv = .int .i64 B ∧ A ≤ n ∧ B = A + 2 * s ∧ Hid (dn.flatten.length = A ∧ (∀ x ∈ dn, x.length = 2 * s) ∧ (∀ x ∈ dn, SortL.Sorted (ltC cf) x) ∧ SortL.Blocks s rest ∧ (∀ x ∈ rest, SortL.Sorted (ltC cf) x) ∧ (dn.flatten ++ rest.flatten).Perm xs) ∧ RowAt wr g off (dn.flatten ++ rest.flatten) ∧ I wr) (fun av _ _ => n - (intOf av).toNat)
            case atStart => exact ⟨0, 2 * s, [], bs, rfl, by simp, Nat.zero_le _, by omega, ⟨rfl, by simp, by simp, K.out.1, K.out.2.1, by simpa using K.out.2.2.1⟩, by simpa using K.out.2.2.2.1, K.out.2.2.2.2⟩
            case round =>
              obtain ⟨A', B', dn, rest, rfl, rfl, hA', hB', h3, hrow, hIw⟩ := hrel
              have R' := Lib.hid (And.intro hrow hIw)
              have hlen' : Hid (A' + rest.flatten.length = n) := by
                have q1 := h3.out.2.2.2.2.2.length_eq
                have q2 := H.out.2.2.2.2.2.2
                have q3 := h3.out.1
                unfold Hid
                rw [List.length_append] at q1
                omega
              have hSr' : Hid (∀ x ∈ rest, ∀ z ∈ x, S z) := fun x hx z hz => H.out.2.2.2.2.2.1 z (h3.out.2.2.2.2.2.mem_iff.1 (by rw [List.mem_append]; exact .inr (List.mem_flatten.2 ⟨x, hx, hz⟩)))
              have hBd' := Lib.hid hB'
              clear hrow hIw
              by_cases hlt : A' + 2 * s ≤ n
              · have hle' : (B' : Int) ≤ n := by omega
                obtain ⟨b1, b2, r, hr, l1, l2, hbr⟩ := SortL.blocks_two h3.out.2.2.2.1 (by have := hlen'.out; omega) hs0
                have HX := Lib.hid (And.intro hr (And.intro l1 (And.intro l2 hbr)))
                have hb1i : A' ≤ 1000000 := by omega
                have hb2i : B' ≤ 1000000 := by omega
                clear hr l1 l2 hbr hB' hlt
                go_wp2_with fail
                refine (symMerge_any I g off n cap b S cf H.out.2.2.2.2.1 H.out.2.1 H.out.2.2.2.1 hb hcap (b1.length + b2.length) dn.flatten r.flatten b1 b2 _ (Nat.le_refl _) (List.length_pos_iff.1 (by have := HX.out.2.1; omega)) (List.length_pos_iff.1 (by have := HX.out.2.2.1; omega)) (h3.out.2.2.2.2.1 b1 (by rw [HX.out.1]; simp)) (h3.out.2.2.2.2.1 b2 (by rw [HX.out.1]; simp)) (fun z hz => by
                  rcases List.mem_append.1 hz with hz | hz
                  · exact hSr'.out b1 (by rw [HX.out.1]; simp) z hz
                  · exact hSr'.out b2 (by rw [HX.out.1]; simp) z hz) (by have := R'.out.1; rw [HX.out.1] at this; simpa using this) (by have q1 := hlen'.out; have q2 := h3.out.1; rw [HX.out.1] at q1; simp only [List.flatten_cons, List.length_append] at q1 ⊢; omega) R'.out.2 _ _ _ (by rw [h3.out.1]) (by have := h3.out.1; have := HX.out.2.1; omega) (by have := h3.out.1; have := HX.out.2; have := hBd'.out; omega)).mono ?_
                rintro e w3 ⟨rfl, ⟨z, hz1, hz2, hz3⟩, hi3⟩
                have T3 := Lib.hid (And.intro hz1 (And.intro hz2 (And.intro hz3 hi3)))
                have hzl : Hid (z.length = 2 * s) := by have q1 := hz1.length_eq; have q2 := HX.out; unfold Hid; rw [List.length_append] at q1; omega
                clear hz1 hz2 hz3 hi3
                go_wp2_with fail
                go_roundw
                case rel =>
                  refine ⟨B', B' + 2 * s, dn ++ [z], r, rfl, by simp, by omega, rfl, ⟨?_, ?_, ?_, HX.out.2.2.2, ?_, ?_⟩, by rw [flat_snoc]; exact T3.out.2.2.1, T3.out.2.2.2⟩
                  · rw [flat_snoc, List.length_append, h3.out.1, hzl.out]; exact hBd'.out.symm
                  · intro x hx
                    rcases List.mem_append.1 hx with hx | hx
                    · exact h3.out.2.1 x hx
                    · simp at hx; subst hx; exact hzl.out
                  · intro x hx
                    rcases List.mem_append.1 hx with hx | hx
                    · exact h3.out.2.2.1 x hx
                    · simp at hx; subst hx; exact T3.out.2.1
                  · exact fun x hx => h3.out.2.2.2.2.1 x (by rw [HX.out.1]; simp [hx])
                  · refine List.Perm.trans ?_ h3.out.2.2.2.2.2
                    rw [flat_snoc, HX.out.1, List.flatten_cons, List.flatten_cons, List.append_assoc, ← List.append_assoc b1]
                    exact List.Perm.append_left _ (List.Perm.append_right _ T3.out.1)
                case measure => have := hBd'.out; simp [intOf] <;> omega
              · have hle' : ¬ (B' : Int) ≤ n := by omega
                have hb1i : A' ≤ 1000000 := by omega
                have hrl' : Hid (rest.flatten.length < 2 * s) := by have := hlen'.out; unfold Hid; omega
                clear hB' hlt
                rcases SortL.blocks_less h3.out.2.2.2.1 hrl'.out with er | ⟨x, er, hx1, hx2⟩ | ⟨x, y, er, hx1, hy1, hy2⟩
                · have hmn : ¬ (A' : Int) + s < n := by have := hlen'.out; rw [er] at this; simp at this; omega
                  have ER := Lib.hid er
                  clear er
                  go_wp2_with fail
                  go_roundw
                  case rel =>
                    refine ⟨2 * s, dn, by simp [Int.mul_comm], by omega, by omega, SortL.blocks_full (by omega) h3.out.2.1, h3.out.2.2.1, ?_, ?_, R'.out.2⟩
                    · have := h3.out.2.2.2.2.2; rw [ER.out] at this; simpa using this
                    · have := R'.out.1; rw [ER.out] at this; simpa using this
                  case measure => simp [intOf] <;> omega
                · have hmn : ¬ (A' : Int) + s < n := by have := hlen'.out; rw [er] at this; simp at this; omega
                  have ER := Lib.hid (And.intro er (And.intro hx1 hx2))
                  clear er hx1 hx2
                  go_wp2_with fail
                  go_roundw
                  case rel =>
                    refine ⟨2 * s, dn ++ [x], by simp [Int.mul_comm], by omega, by omega, SortL.blocks_snoc ER.out.2.1 (by have := ER.out.2.2; omega) h3.out.2.1, ?_, ?_, ?_, R'.out.2⟩
                    · intro z hz
                      rcases List.mem_append.1 hz with hz | hz
                      · exact h3.out.2.2.1 z hz
                      · simp at hz; subst hz; exact h3.out.2.2.2.2.1 z (by rw [ER.out.1]; simp)
                    · have := h3.out.2.2.2.2.2; rw [ER.out.1] at this; simpa using this
                    · have := R'.out.1; rw [ER.out.1] at this; simpa using this
                  case measure => simp [intOf] <;> omega
                · have hmn : (A' : Int) + s < n := by have := hlen'.out; rw [er] at this; simp at this; omega
                  have ER := Lib.hid (And.intro er (And.intro hx1 (And.intro hy1 hy2)))
                  clear er hx1 hy1 hy2
                  go_wp2_with fail
                  refine (symMerge_any I g off n cap b S cf H.out.2.2.2.2.1 H.out.2.1 H.out.2.2.2.1 hb hcap (x.length + y.length) dn.flatten [] x y _ (Nat.le_refl _) (List.length_pos_iff.1 (by have := ER.out; omega)) (List.length_pos_iff.1 (by have := ER.out; omega)) (h3.out.2.2.2.2.1 x (by rw [ER.out.1]; simp)) (h3.out.2.2.2.2.1 y (by rw [ER.out.1]; simp)) (fun z hz => by
                    rcases List.mem_append.1 hz with hz | hz
                    · exact hSr'.out x (by rw [ER.out.1]; simp) z hz
                    · exact hSr'.out y (by rw [ER.out.1]; simp) z hz) (by have := R'.out.1; rw [ER.out.1] at this; simpa using this) (by have q1 := hlen'.out; have q2 := h3.out.1; rw [ER.out.1] at q1; simp only [List.flatten_cons, List.flatten_nil, List.length_append, List.length_nil] at q1 ⊢; omega) R'.out.2 _ _ _ (by rw [h3.out.1]) (by have := h3.out.1; have := ER.out.2.1; omega) (by have q1 := hlen'.out; have q2 := h3.out.1; rw [ER.out.1] at q1; simp only [List.flatten_cons, List.flatten_nil, List.length_append, List.length_nil] at q1; omega)).mono ?_
                  rintro e w3 ⟨rfl, ⟨z, hz1, hz2, hz3⟩, hi3⟩
                  have T3 := Lib.hid (And.intro hz1 (And.intro hz2 (And.intro hz3 hi3)))
                  have hzl : Hid (0 < z.length ∧ z.length ≤ 2 * s) := by have q1 := hz1.length_eq; have q2 := ER.out; unfold Hid; rw [List.length_append] at q1; omega
                  clear hz1 hz2 hz3 hi3
                  go_wp2_with fail
                  go_roundw
                  case rel =>
                    refine ⟨2 * s, dn ++ [z], by simp [Int.mul_comm], by omega, by omega, SortL.blocks_snoc hzl.out.1 hzl.out.2 h3.out.2.1, ?_, ?_, ?_, T3.out.2.2.2⟩
                    · intro t ht
                      rcases List.mem_append.1 ht with ht | ht
                      · exact h3.out.2.2.1 t ht
                      · simp at ht; subst ht; exact T3.out.2.1
                    · refine List.Perm.trans ?_ h3.out.2.2.2.2.2
                      rw [flat_snoc, ER.out.1, List.flatten_cons, List.flatten_cons, List.flatten_nil, List.append_nil]
                      exact List.Perm.append_left _ T3.out.1
                    · rw [flat_snoc]; have := T3.out.2.2.1; simpa using this
                  case measure => simp [intOf] <;> omega
          · have hsi : ¬ (s : Int) < n := by omega
            clear hsn
            go_wp2_with fail
            go_end0
            rcases SortL.blocks_one K.out.1 (by have := hbl.out; omega) with e | ⟨x, e⟩
            · refine ⟨rfl, ⟨[], ?_, by simp, ?_⟩, K.out.2.2.2.2⟩
              · have := K.out.2.2.1; rw [e] at this; simpa using this
              · have := K.out.2.2.2.1; rw [e] at this; simpa using this
            · refine ⟨rfl, ⟨x, ?_, ?_, ?_⟩, K.out.2.2.2.2⟩
              · have := K.out.2.2.1; rw [e] at this; simpa using this
              · exact K.out.2.1 x (by rw [e]; simp)
              · have := K.out.2.2.2.1; rw [e] at this; simpa using this

end Go.Proofs.YtbghpkoimbmijaaGreatDoor
