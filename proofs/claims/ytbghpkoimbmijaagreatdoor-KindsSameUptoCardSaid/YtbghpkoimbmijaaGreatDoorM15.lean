import Derived.Test.YtbghpkoimbmijaaGreatDoorM14
import Derived.Test.YtbghpkoimbmijaaGreatDoorM12
/- YtbghpkoimbmijaaGreatDoorM15: lemmas of the proof, in order: VS, TA. -/
/- Plain law: types widened, types put in the place of parameters. -/
namespace Go.Proofs.YtbghpkoimbmijaaGreatDoor
open Go.RowKit
set_option linter.unusedSimpArgs false

noncomputable def boolT : Ty := unionC [basicT 10, basicT 9]
mutual
noncomputable def widenC : Ty → Ty
  | .mk k n nm ps ns ms => if k = 11 then basicT 7 else if k = 12 then basicT 8 else if k = 9 ∨ k = 10 then boolT else if k = 20 then ps.headD (basicT 3) else if k = 16 then unionC (widenL ps) else if k = 13 ∨ k = 14 then .mk k n nm (widenL ps) ns ms else .mk k n nm ps ns ms
noncomputable def widenL : List Ty → List Ty
  | [] => []
  | p :: r => widenC p :: widenL r
end
theorem widenL_eq : ∀ ps : List Ty, widenL ps = ps.map widenC
  | [] => by rw [widenL]; rfl
  | p :: r => by rw [widenL, widenL_eq r]; rfl
theorem widen_num (n : Int) (nm : ByteArray) (ps : List Ty) (ns : List ByteArray) (ms : List Bool) : widenC (.mk 11 n nm ps ns ms) = basicT 7 := by rw [widenC]; simp
theorem widen_str (n : Int) (nm : ByteArray) (ps : List Ty) (ns : List ByteArray) (ms : List Bool) : widenC (.mk 12 n nm ps ns ms) = basicT 8 := by rw [widenC]; simp
theorem widen_bool {k : Int} (h : k = 9 ∨ k = 10) (n : Int) (nm : ByteArray) (ps : List Ty) (ns : List ByteArray) (ms : List Bool) : widenC (.mk k n nm ps ns ms) = boolT := by
  rw [widenC, if_neg (by omega), if_neg (by omega), if_pos h]
theorem widen_case (n : Int) (nm : ByteArray) (ps : List Ty) (ns : List ByteArray) (ms : List Bool) : widenC (.mk 20 n nm ps ns ms) = ps.headD (basicT 3) := by rw [widenC]; simp
theorem widen_un (n : Int) (nm : ByteArray) (ps : List Ty) (ns : List ByteArray) (ms : List Bool) : widenC (.mk 16 n nm ps ns ms) = unionC (ps.map widenC) := by rw [widenC, widenL_eq]; simp
theorem widen_in {k : Int} (h : k = 13 ∨ k = 14) (n : Int) (nm : ByteArray) (ps : List Ty) (ns : List ByteArray) (ms : List Bool) : widenC (.mk k n nm ps ns ms) = .mk k n nm (ps.map widenC) ns ms := by
  rw [widenC, widenL_eq, if_neg (by omega), if_neg (by omega), if_neg (by omega), if_neg (by omega), if_neg (by omega), if_pos h]
theorem widen_id {k : Int} (h : k ≠ 9 ∧ k ≠ 10 ∧ k ≠ 11 ∧ k ≠ 12 ∧ k ≠ 13 ∧ k ≠ 14 ∧ k ≠ 16 ∧ k ≠ 20) (n : Int) (nm : ByteArray) (ps : List Ty) (ns : List ByteArray) (ms : List Bool) : widenC (.mk k n nm ps ns ms) = .mk k n nm ps ns ms := by
  rw [widenC, if_neg (by omega), if_neg (by omega), if_neg (by omega), if_neg (by omega), if_neg (by omega), if_neg (by omega)]

abbrev falseTrue : Ty := .mk 16 0 ⟨#[]⟩ [basicT 10, basicT 9] [] []
theorem falseTrue_cv : CV falseTrue := by
  refine ⟨.un _ (by simp) (fun p hp => ?_) ?_ (fun p hp => ?_) (fun p hp => ?_), ?_⟩
  · simp only [List.mem_cons, List.not_mem_nil, or_false] at hp
    rcases hp with rfl | rfl <;> decide
  · have h : ltS (basicT 10).partT (basicT 9).partT = true := by
      have e1 : (basicT 10).partT = wordS 10 := by
        unfold Ty.partT basicT partS roundS
        rw [tx_basic (by decide) (by decide)]
        rfl
      have e2 : (basicT 9).partT = wordS 9 := by
        unfold Ty.partT basicT partS roundS
        rw [tx_basic (by decide) (by decide)]
        rfl
      rw [e1, e2]
      decide +kernel
    simp [h]
  · simp only [List.mem_cons, List.not_mem_nil, or_false] at hp
    refine ⟨fun h => ?_, fun h => ?_, fun h => ?_⟩ <;> rcases hp with rfl | rfl <;> exact absurd h (by decide)
  · simp only [List.mem_cons, List.not_mem_nil, or_false] at hp
    rcases hp with rfl | rfl
    · exact .basic (by decide) (by decide)
    · exact .basic (by decide) (by decide)
  · rw [Ty.canon_mk, if_neg (by decide)]
    simp only [List.map_cons, List.map_nil, basicT]
    rw [Ty.canon_mk, Ty.canon_mk, if_neg (by decide), if_neg (by decide)]
    rfl
theorem boolT_eq : boolT = falseTrue := unionC_self falseTrue_cv rfl
theorem boolT_flat : boolT.flat = [basicT 10, basicT 9] := by rw [boolT_eq]; rfl

/-- what is in a type that was widened -/
def Wid (t : Ty) : Prop := ∀ y ∈ t.flat, (widenC y = y ∧ y ≠ basicT 9 ∧ y ≠ basicT 10) ∨ ((y = basicT 9 ∨ y = basicT 10) ∧ basicT 9 ∈ t.flat ∧ basicT 10 ∈ t.flat)
theorem widen_basic {k : Int} (h1 : 1 ≤ k) (h2 : k ≤ 8) : widenC (basicT k) = basicT k ∧ basicT k ≠ basicT 9 ∧ basicT k ≠ basicT 10 := by
  refine ⟨widen_id (by omega) _ _ _ _ _, fun e => ?_, fun e => ?_⟩
  · have := congrArg Ty.kind e
    simp only [basicT, Ty.kind] at this
    omega
  · have := congrArg Ty.kind e
    simp only [basicT, Ty.kind] at this
    omega
theorem Wid.one {t : Ty} (hk : t.kind ≠ 16) (h : widenC t = t) (h9 : t.kind ≠ 9) (h10 : t.kind ≠ 10) : Wid t := fun y hy => by
  unfold Ty.flat at hy
  rw [if_neg hk] at hy
  cases List.mem_singleton.1 hy
  exact .inl ⟨h, fun e => h9 (by rw [e]; rfl), fun e => h10 (by rw [e]; rfl)⟩
theorem Wid.basic {k : Int} (h1 : 1 ≤ k) (h2 : k ≤ 8) : Wid (basicT k) := Wid.one (by simp only [basicT, Ty.kind]; omega) (widen_basic h1 h2).1 (by simp only [basicT, Ty.kind]; omega) (by simp only [basicT, Ty.kind]; omega)
theorem Wid.bool : Wid boolT := fun y hy => by
  rw [boolT_flat] at hy ⊢
  simp only [List.mem_cons, List.not_mem_nil, or_false] at hy
  refine .inr ⟨hy.symm, by simp, by simp⟩
theorem Wid.union {l : List Ty} (hl : ∀ t ∈ l, CV t ∧ Wid t) : Wid (unionC l) := by
  have hF := Fl.of fun t ht => (hl t ht).1
  unfold unionC
  generalize hFF : l.flatMap Ty.flat = F at hF
  have hW : ∀ y ∈ F, (widenC y = y ∧ y ≠ basicT 9 ∧ y ≠ basicT 10) ∨ ((y = basicT 9 ∨ y = basicT 10) ∧ basicT 9 ∈ F ∧ basicT 10 ∈ F) := fun y hy => by
    rw [← hFF] at hy
    obtain ⟨t, ht, hy⟩ := List.mem_flatMap.1 hy
    rcases (hl t ht).2 y hy with h | ⟨h, h1, h2⟩
    · exact .inl h
    · exact .inr ⟨h, by rw [← hFF]; exact List.mem_flatMap.2 ⟨t, ht, h1⟩, by rw [← hFF]; exact List.mem_flatMap.2 ⟨t, ht, h2⟩⟩
  rcases unionF_cases F with ⟨_, e⟩ | ⟨_, _, e⟩ | ⟨_, _, e⟩
  · rw [e]; exact Wid.basic (by decide) (by decide)
  · rw [e]; exact Wid.basic (by decide) (by decide)
  · rw [e]
    have hkey : KeyInj (restU F) := fun a ha b hb => hF.key a (restU_mem.1 ha).1 b (restU_mem.1 hb).1
    have hsm := sortU_mem _ hkey
    have hfl := wrapU_flat (l := sortU (restU F)) fun y hy => (hF y (restU_mem.1 ((hsm y).1 hy)).1).2
    intro y hy
    rw [hfl] at hy
    rw [hfl]
    split at hy
    · rename_i h0
      cases List.mem_singleton.1 hy
      exact .inl (widen_basic (by decide) (by decide))
    · rename_i h0
      rw [if_neg h0]
      have hyr := (hsm y).1 hy
      rcases hW y (restU_mem.1 hyr).1 with h | ⟨h, h1, h2⟩
      · exact .inl h
      · refine .inr ⟨h, (hsm _).2 (restU_mem.2 ⟨h1, fun hg => ?_⟩), (hsm _).2 (restU_mem.2 ⟨h2, fun hg => ?_⟩)⟩
        · rcases hg with hg | ⟨hg, _⟩ | ⟨hg, _⟩ | ⟨hg, _⟩ <;> exact absurd hg (by decide)
        · rcases hg with hg | ⟨hg, _⟩ | ⟨hg, _⟩ | ⟨hg, _⟩ <;> exact absurd hg (by decide)
theorem widen_9 : widenC (basicT 9) = boolT := widen_bool (.inl rfl) _ _ _ _ _
theorem widen_10 : widenC (basicT 10) = boolT := widen_bool (.inr rfl) _ _ _ _ _
theorem boolT_cv : CV boolT := by rw [boolT_eq]; exact falseTrue_cv
theorem Wid.fixed {t : Ty} (hc : CV t) (h : Wid t) : widenC t = t := by
  by_cases hk : t.kind = 16
  · have hs := unionC_self hc hk
    obtain ⟨ps, rfl, hl, hp, hst, hg⟩ := hc.union hk
    have h : ∀ y ∈ ps, (widenC y = y ∧ y ≠ basicT 9 ∧ y ≠ basicT 10) ∨ ((y = basicT 9 ∨ y = basicT 10) ∧ basicT 9 ∈ ps ∧ basicT 10 ∈ ps) := h
    rw [widen_un]
    refine Eq.trans (unionC_congr (fun t ht => ?_) (fun t ht => (hp t ht).1) fun x => ?_) hs
    · obtain ⟨y, hy, rfl⟩ := List.mem_map.1 ht
      rcases h y hy with ⟨e, _⟩ | ⟨rfl | rfl, _⟩
      · rw [e]; exact (hp y hy).1
      · rw [widen_9]; exact boolT_cv
      · rw [widen_10]; exact boolT_cv
    · show x ∈ (ps.map widenC).flatMap Ty.flat ↔ x ∈ ps.flatMap Ty.flat
      have ef : ps.flatMap Ty.flat = ps := flat_self fun x hx => (hp x hx).2.1
      rw [ef, List.mem_flatMap]
      constructor
      · rintro ⟨t, ht, hx⟩
        obtain ⟨y, hy, rfl⟩ := List.mem_map.1 ht
        rcases h y hy with ⟨e, _⟩ | ⟨rfl | rfl, h9, h10⟩
        · rw [e] at hx
          unfold Ty.flat at hx
          rw [if_neg (hp y hy).2.1] at hx
          cases List.mem_singleton.1 hx
          exact hy
        · rw [widen_9, boolT_flat] at hx
          simp only [List.mem_cons, List.not_mem_nil, or_false] at hx
          rcases hx with rfl | rfl
          · exact h10
          · exact h9
        · rw [widen_10, boolT_flat] at hx
          simp only [List.mem_cons, List.not_mem_nil, or_false] at hx
          rcases hx with rfl | rfl
          · exact h10
          · exact h9
      · intro hx
        rcases h x hx with ⟨e, _⟩ | ⟨rfl | rfl, h9, h10⟩
        · refine ⟨x, List.mem_map.2 ⟨x, hx, e⟩, ?_⟩
          unfold Ty.flat
          rw [if_neg (hp x hx).2.1]
          simp
        · exact ⟨boolT, List.mem_map.2 ⟨_, hx, widen_9⟩, by rw [boolT_flat]; simp⟩
        · exact ⟨boolT, List.mem_map.2 ⟨_, hx, widen_10⟩, by rw [boolT_flat]; simp⟩
  · have hf : t.flat = [t] := by unfold Ty.flat; rw [if_neg hk]
    rcases h t (by rw [hf]; simp) with ⟨e, _⟩ | ⟨e, h9, h10⟩
    · exact e
    · rw [hf] at h9 h10
      have e1 := List.mem_singleton.1 h9
      have e2 := List.mem_singleton.1 h10
      rw [← e1] at e2
      have := congrArg Ty.kind e2
      exact absurd this (by decide)

theorem CV.arr {p : Ty} (h : CV p) : CV (.mk 13 0 ⟨#[]⟩ [p] [] []) := ⟨.arr h.valid, by rw [Ty.canon_mk, if_neg (by decide)]; simp [h.same]⟩
theorem map_fix {f : Ty → Ty} {l : List Ty} (h : ∀ p ∈ l, f p = p) : l.map f = l := by
  have := List.map_congr_left (g := id) h
  rw [this, List.map_id]
theorem CV.obj (xs : List (ByteArray × Bool × Ty)) (hn : ∀ x ∈ xs, NameOk x.1) (hr : Rising (xs.map (·.1))) (hp : ∀ x ∈ xs, CV x.2.2) : CV (.mk 14 0 ⟨#[]⟩ (xs.map (·.2.2)) (xs.map (·.1)) (xs.map (·.2.1))) := ⟨.obj xs hn hr fun x hx => (hp x hx).valid, by
  rw [Ty.canon_mk, if_neg (by decide), map_fix (f := Ty.canon) fun p hp' => by
    obtain ⟨x, hx, rfl⟩ := List.mem_map.1 hp'
    exact (hp x hx).same]⟩
/-- a type that was widened is one that may be, and wide -/
theorem widen_ok {t : Ty} (h : t.Valid) : t.canon = t → CV (widenC t) ∧ Wid (widenC t) := by
  induction h with
  | @basic k h1 h2 =>
    intro hc
    by_cases h9 : k = 9 ∨ k = 10
    · rw [widen_bool h9]; exact ⟨boolT_cv, Wid.bool⟩
    · have e := (widen_basic h1 (show k ≤ 8 by omega)).1
      have e' : widenC (.mk k 0 ⟨#[]⟩ [] [] []) = basicT k := e
      rw [e']
      exact ⟨CV.basic h1 h2, Wid.basic h1 (by omega)⟩
  | num h1 h2 => intro _; rw [widen_num]; exact ⟨CV.basic (by decide) (by decide), Wid.basic (by decide) (by decide)⟩
  | str h => intro _; rw [widen_str]; exact ⟨CV.basic (by decide) (by decide), Wid.basic (by decide) (by decide)⟩
  | @arr p hp ih =>
    intro hc
    rw [Ty.canon_mk, if_neg (by decide)] at hc
    simp only [List.map_cons, List.map_nil, Ty.mk.injEq, List.cons.injEq, and_true, true_and] at hc
    obtain ⟨i1, i2⟩ := ih hc
    rw [widen_in (.inl rfl)]
    simp only [List.map_cons, List.map_nil]
    refine ⟨i1.arr, Wid.one (by simp only [Ty.kind]; decide) ?_ (by simp only [Ty.kind]; decide) (by simp only [Ty.kind]; decide)⟩
    rw [widen_in (.inl rfl)]
    simp only [List.map_cons, List.map_nil, i2.fixed i1]
  | obj xs hn hr hp ih =>
    intro hc
    rw [Ty.canon_mk, if_neg (by decide)] at hc
    simp only [Ty.mk.injEq, and_true, true_and] at hc
    have hx : ∀ x ∈ xs, CV (widenC x.2.2) ∧ Wid (widenC x.2.2) := fun x hx => ih x hx (map_same hc _ (List.mem_map_of_mem (f := fun y : ByteArray × Bool × Ty => y.2.2) hx))
    rw [widen_in (.inr rfl)]
    have hcv := CV.obj (xs.map fun x => (x.1, x.2.1, widenC x.2.2)) (fun x hx => by
      obtain ⟨y, hy, rfl⟩ := List.mem_map.1 hx
      exact hn y hy) (by rw [List.map_map]; exact hr) (fun y hy => by
      obtain ⟨z, hz, rfl⟩ := List.mem_map.1 hy
      exact (hx z hz).1)
    rw [List.map_map, List.map_map, List.map_map] at hcv
    have e1 : ((fun x : ByteArray × Bool × Ty => x.2.2) ∘ fun x : ByteArray × Bool × Ty => (x.1, x.2.1, widenC x.2.2)) = widenC ∘ fun x => x.2.2 := rfl
    have e2 : ((fun x : ByteArray × Bool × Ty => x.1) ∘ fun x : ByteArray × Bool × Ty => (x.1, x.2.1, widenC x.2.2)) = fun x => x.1 := rfl
    have e3 : ((fun x : ByteArray × Bool × Ty => x.2.1) ∘ fun x : ByteArray × Bool × Ty => (x.1, x.2.1, widenC x.2.2)) = fun x => x.2.1 := rfl
    rw [e1, e2, e3, ← List.map_map] at hcv
    refine ⟨hcv, Wid.one (by simp only [Ty.kind]; decide) ?_ (by simp only [Ty.kind]; decide) (by simp only [Ty.kind]; decide)⟩
    rw [widen_in (.inr rfl)]
    congr 1
    refine map_fix fun p hp' => ?_
    rw [List.map_map] at hp'
    obtain ⟨x, hxx, rfl⟩ := List.mem_map.1 hp'
    exact (hx x hxx).2.fixed (hx x hxx).1
  | fn xs r ho hp hr ih1 ih2 =>
    intro hc
    rw [widen_id (by decide)]
    exact ⟨⟨.fn xs r ho hp hr, hc⟩, Wid.one (by simp only [Ty.kind]; decide) (widen_id (by decide) _ _ _ _ _) (by simp only [Ty.kind]; decide) (by simp only [Ty.kind]; decide)⟩
  | un ps hl hk hs hg hp ih =>
    intro hc
    rw [Ty.canon_mk, if_neg (by decide)] at hc
    simp only [Ty.mk.injEq, and_true, true_and] at hc
    rw [widen_un]
    have hx : ∀ t ∈ ps.map widenC, CV t ∧ Wid t := fun t ht => by
      obtain ⟨p, hp', rfl⟩ := List.mem_map.1 ht
      exact ih p hp' (map_same hc p hp')
    exact ⟨unionC_cv fun t ht => (hx t ht).1, Wid.union hx⟩
  | ref ps h1 h2 hn hp ih =>
    intro hc
    rw [widen_id (by decide)]
    exact ⟨⟨.ref ps h1 h2 hn hp, hc⟩, Wid.one (by simp only [Ty.kind]; decide) (widen_id (by decide) _ _ _ _ _) (by simp only [Ty.kind]; decide) (by simp only [Ty.kind]; decide)⟩
  | @named k n nm hk h1 h2 hn =>
    intro hc
    have e : widenC (.mk k n nm [] [] []) = .mk k n nm [] [] [] := widen_id (by omega) _ _ _ _ _
    rw [e]
    exact ⟨⟨.named hk h1 h2 hn, hc⟩, Wid.one (by simp only [Ty.kind]; omega) e (by simp only [Ty.kind]; omega) (by simp only [Ty.kind]; omega)⟩
  | @case n m nm nm' h1 h2 hn h1' h2' hn' =>
    intro hc
    rw [widen_case]
    simp only [List.headD_cons]
    have e : widenC (.mk 19 m nm' [] [] []) = .mk 19 m nm' [] [] [] := widen_id (by decide) _ _ _ _ _
    refine ⟨⟨.named (.inr (.inl rfl)) h1' h2' hn', by rw [Ty.canon_mk, if_neg (by decide)]; rfl⟩, Wid.one (by simp only [Ty.kind]; decide) e (by simp only [Ty.kind]; decide) (by simp only [Ty.kind]; decide)⟩
theorem widen_cv {t : Ty} (h : CV t) : CV (widenC t) := (widen_ok h.valid h.same).1
/-- widened once more -/
theorem widen_twice {t : Ty} (h : CV t) : widenC (widenC t) = widenC t := (widen_ok h.valid h.same).2.fixed (widen_cv h)

mutual
noncomputable def substC (f : Int → Option Ty) : Ty → Ty
  | .mk k n nm ps ns ms => if k = 18 then (f n).getD (.mk k n nm ps ns ms) else if k = 16 then unionC (substL f ps) else .mk k n nm (substL f ps) ns ms
noncomputable def substL (f : Int → Option Ty) : List Ty → List Ty
  | [] => []
  | p :: r => substC f p :: substL f r
end
theorem substL_eq (f : Int → Option Ty) : ∀ ps : List Ty, substL f ps = ps.map (substC f)
  | [] => by rw [substL]; rfl
  | p :: r => by rw [substL, substL_eq f r]; rfl
theorem subst_var (f : Int → Option Ty) (n : Int) (nm : ByteArray) (ps : List Ty) (ns : List ByteArray) (ms : List Bool) : substC f (.mk 18 n nm ps ns ms) = (f n).getD (.mk 18 n nm ps ns ms) := by rw [substC, if_pos rfl]
theorem subst_un (f : Int → Option Ty) (n : Int) (nm : ByteArray) (ps : List Ty) (ns : List ByteArray) (ms : List Bool) : substC f (.mk 16 n nm ps ns ms) = unionC (ps.map (substC f)) := by rw [substC, substL_eq, if_neg (by decide), if_pos rfl]
theorem subst_in {f : Int → Option Ty} {k : Int} (h1 : k ≠ 18) (h2 : k ≠ 16) (n : Int) (nm : ByteArray) (ps : List Ty) (ns : List ByteArray) (ms : List Bool) : substC f (.mk k n nm ps ns ms) = .mk k n nm (ps.map (substC f)) ns ms := by rw [substC, substL_eq, if_neg h1, if_neg h2]
theorem subst_cv {f : Int → Option Ty} (hf : ∀ n t, f n = some t → CV t) {t : Ty} (h : t.Valid) : t.canon = t → CV (substC f t) := by
  induction h with
  | @basic k h1 h2 =>
    intro hc
    rw [subst_in (by omega) (by omega)]
    exact CV.basic h1 h2
  | num h1 h2 => intro hc; rw [subst_in (by decide) (by decide)]; exact ⟨.num h1 h2, hc⟩
  | str h => intro hc; rw [subst_in (by decide) (by decide)]; exact ⟨.str h, hc⟩
  | @arr p hp ih =>
    intro hc
    rw [Ty.canon_mk, if_neg (by decide)] at hc
    simp only [List.map_cons, List.map_nil, Ty.mk.injEq, List.cons.injEq, and_true, true_and] at hc
    rw [subst_in (by decide) (by decide)]
    exact (ih hc).arr
  | obj xs hn hr hp ih =>
    intro hc
    rw [Ty.canon_mk, if_neg (by decide)] at hc
    simp only [Ty.mk.injEq, and_true, true_and] at hc
    have hx : ∀ x ∈ xs, CV (substC f x.2.2) := fun x hx => ih x hx (map_same hc _ (List.mem_map_of_mem (f := fun y : ByteArray × Bool × Ty => y.2.2) hx))
    rw [subst_in (by decide) (by decide)]
    have hcv := CV.obj (xs.map fun x => (x.1, x.2.1, substC f x.2.2)) (fun x hx => by
      obtain ⟨y, hy, rfl⟩ := List.mem_map.1 hx
      exact hn y hy) (by rw [List.map_map]; exact hr) (fun y hy => by
      obtain ⟨z, hz, rfl⟩ := List.mem_map.1 hy
      exact hx z hz)
    rw [List.map_map, List.map_map, List.map_map] at hcv
    have e1 : ((fun x : ByteArray × Bool × Ty => x.2.2) ∘ fun x : ByteArray × Bool × Ty => (x.1, x.2.1, substC f x.2.2)) = substC f ∘ fun x => x.2.2 := rfl
    have e2 : ((fun x : ByteArray × Bool × Ty => x.1) ∘ fun x : ByteArray × Bool × Ty => (x.1, x.2.1, substC f x.2.2)) = fun x => x.1 := rfl
    have e3 : ((fun x : ByteArray × Bool × Ty => x.2.1) ∘ fun x : ByteArray × Bool × Ty => (x.1, x.2.1, substC f x.2.2)) = fun x => x.2.1 := rfl
    rw [e1, e2, e3, ← List.map_map] at hcv
    exact hcv
  | fn xs r ho hp hr ih1 ih2 =>
    intro hc
    rw [Ty.canon_mk, if_neg (by decide)] at hc
    simp only [Ty.mk.injEq, and_true, true_and] at hc
    have hall := map_same hc
    rw [subst_in (by decide) (by decide)]
    have hx : ∀ x ∈ xs, CV (substC f x.1) := fun x hx => ih1 x hx (hall _ (List.mem_append.2 (.inl (List.mem_map_of_mem (f := fun y : Ty × Bool => y.1) hx))))
    have hrr : CV (substC f r) := ih2 (hall r (by simp))
    have hv := Ty.Valid.fn (xs.map fun x => (substC f x.1, x.2)) (substC f r) (by rw [List.map_map]; exact ho) (fun y hy => by
      obtain ⟨z, hz, rfl⟩ := List.mem_map.1 hy
      exact (hx z hz).valid) hrr.valid
    rw [List.map_map, List.map_map] at hv
    have e1 : ((fun x : Ty × Bool => x.1) ∘ fun x : Ty × Bool => (substC f x.1, x.2)) = substC f ∘ fun x => x.1 := rfl
    have e2 : ((fun x : Ty × Bool => x.2) ∘ fun x : Ty × Bool => (substC f x.1, x.2)) = fun x => x.2 := rfl
    rw [e1, e2, ← List.map_map] at hv
    have e3 : (xs.map (·.1) ++ [r]).map (substC f) = (xs.map (·.1)).map (substC f) ++ [substC f r] := by simp
    rw [e3]
    refine ⟨hv, ?_⟩
    rw [Ty.canon_mk, if_neg (by decide), map_fix (f := Ty.canon) fun p hp' => ?_]
    rcases List.mem_append.1 hp' with q | q
    · rw [List.map_map] at q
      obtain ⟨x, hxx, rfl⟩ := List.mem_map.1 q
      exact (hx x hxx).same
    · cases List.mem_singleton.1 q
      exact hrr.same
  | un ps hl hk hs hg hp ih =>
    intro hc
    rw [Ty.canon_mk, if_neg (by decide)] at hc
    simp only [Ty.mk.injEq, and_true, true_and] at hc
    rw [subst_un]
    exact unionC_cv fun t ht => by
      obtain ⟨p, hp', rfl⟩ := List.mem_map.1 ht
      exact ih p hp' (map_same hc p hp')
  | ref ps h1 h2 hn hp ih =>
    intro hc
    rw [Ty.canon_mk, if_neg (by decide)] at hc
    simp only [Ty.mk.injEq, and_true, true_and] at hc
    rw [subst_in (by decide) (by decide)]
    have hx : ∀ p ∈ ps, CV (substC f p) := fun p hp' => ih p hp' (map_same hc p hp')
    refine ⟨.ref _ h1 h2 hn fun p hp' => ?_, ?_⟩
    · obtain ⟨q, hq, rfl⟩ := List.mem_map.1 hp'
      exact (hx q hq).valid
    · rw [Ty.canon_mk, if_neg (by decide), map_fix (f := Ty.canon) fun p hp' => ?_]
      obtain ⟨q, hq, rfl⟩ := List.mem_map.1 hp'
      exact (hx q hq).same
  | @named k n nm hk h1 h2 hn =>
    intro hc
    by_cases h18 : k = 18
    · subst h18
      rw [subst_var]
      cases hfn : f n with
      | none => exact ⟨.named hk h1 h2 hn, hc⟩
      | some t => exact hf n t hfn
    · rw [subst_in h18 (by omega)]
      exact ⟨.named hk h1 h2 hn, hc⟩
  | @case n m nm nm' h1 h2 hn h1' h2' hn' =>
    intro hc
    rw [subst_in (by decide) (by decide)]
    simp only [List.map_cons, List.map_nil]
    rw [subst_in (by decide) (by decide)]
    exact ⟨.case h1 h2 hn h1' h2' hn', hc⟩
mutual
def Ty.varsOk (P : Int → ByteArray → Prop) : Ty → Prop
  | .mk k n nm ps _ _ => (k = 18 → P n nm) ∧ Ty.varsOkL P ps
def Ty.varsOkL (P : Int → ByteArray → Prop) : List Ty → Prop
  | [] => True
  | p :: r => Ty.varsOk P p ∧ Ty.varsOkL P r
end
theorem Ty.varsOkL_mem {P : Int → ByteArray → Prop} : ∀ {ps : List Ty}, Ty.varsOkL P ps → ∀ p ∈ ps, Ty.varsOk P p
  | [], _, p, h => by cases h
  | q :: r, h, p, hp => by
    rw [Ty.varsOkL] at h
    rcases List.mem_cons.1 hp with rfl | hp
    · exact h.1
    · exact Ty.varsOkL_mem h.2 p hp
theorem subst_same {f : Int → Option Ty} {t : Ty} (h : t.Valid) : t.canon = t → t.varsOk (fun n nm => ∀ u, f n = some u → u = .mk 18 n nm [] [] []) → substC f t = t := by
  induction h with
  | @basic k h1 h2 => intro _ _; rw [subst_in (by omega) (by omega)]; rfl
  | num h1 h2 => intro _ _; rw [subst_in (by decide) (by decide)]; rfl
  | str h => intro _ _; rw [subst_in (by decide) (by decide)]; rfl
  | @arr p hp ih =>
    intro hc hv
    rw [Ty.canon_mk, if_neg (by decide)] at hc
    simp only [Ty.mk.injEq, and_true, true_and] at hc
    rw [Ty.varsOk] at hv
    rw [subst_in (by decide) (by decide), map_fix fun q hq => ?_]
    cases List.mem_singleton.1 hq
    exact ih (map_same hc _ (by simp)) (Ty.varsOkL_mem hv.2 _ (by simp))
  | obj xs hn hr hp ih =>
    intro hc hv
    rw [Ty.canon_mk, if_neg (by decide)] at hc
    simp only [Ty.mk.injEq, and_true, true_and] at hc
    rw [Ty.varsOk] at hv
    rw [subst_in (by decide) (by decide), map_fix fun q hq => ?_]
    have h1 := map_same hc q hq
    have h2 := Ty.varsOkL_mem hv.2 q hq
    obtain ⟨x, hx, rfl⟩ := List.mem_map.1 hq
    exact ih x hx h1 h2
  | fn xs r ho hp hr ih1 ih2 =>
    intro hc hv
    rw [Ty.canon_mk, if_neg (by decide)] at hc
    simp only [Ty.mk.injEq, and_true, true_and] at hc
    rw [Ty.varsOk] at hv
    rw [subst_in (by decide) (by decide), map_fix fun q hq => ?_]
    have h1 := map_same hc q hq
    have h2 := Ty.varsOkL_mem hv.2 q hq
    rcases List.mem_append.1 hq with hq | hq
    · obtain ⟨x, hx, rfl⟩ := List.mem_map.1 hq
      exact ih1 x hx h1 h2
    · cases List.mem_singleton.1 hq
      exact ih2 h1 h2
  | un ps hl hk hs hg hp ih =>
    intro hc hv
    have hcv : CV (.mk 16 0 ⟨#[]⟩ ps [] []) := ⟨.un ps hl hk hs hg hp, hc⟩
    rw [Ty.canon_mk, if_neg (by decide)] at hc
    simp only [Ty.mk.injEq, and_true, true_and] at hc
    rw [Ty.varsOk] at hv
    rw [subst_un, map_fix fun q hq => ih q hq (map_same hc q hq) (Ty.varsOkL_mem hv.2 q hq)]
    exact unionC_self hcv rfl
  | ref ps h1 h2 hn hp ih =>
    intro hc hv
    rw [Ty.canon_mk, if_neg (by decide)] at hc
    simp only [Ty.mk.injEq, and_true, true_and] at hc
    rw [Ty.varsOk] at hv
    rw [subst_in (by decide) (by decide), map_fix fun q hq => ih q hq (map_same hc q hq) (Ty.varsOkL_mem hv.2 q hq)]
  | @named k n nm hk h1 h2 hn =>
    intro hc hv
    rw [Ty.varsOk] at hv
    by_cases h18 : k = 18
    · subst h18
      rw [subst_var]
      cases hfn : f n with
      | none => rfl
      | some t => exact hv.1 rfl t hfn
    · rw [subst_in h18 (by omega)]
      rfl
  | @case n m nm nm' h1 h2 hn h1' h2' hn' =>
    intro hc hv
    rw [subst_in (by decide) (by decide)]
    simp only [List.map_cons, List.map_nil]
    rw [subst_in (by decide) (by decide)]
    rfl

end Go.Proofs.YtbghpkoimbmijaaGreatDoor

/- The text of any sound type. -/
namespace Go.Proofs.YtbghpkoimbmijaaGreatDoor
open Go.RowKit
set_option linter.unusedSimpArgs false

mutual
def Ty.namesLe (M : Nat) : Ty → Prop
  | .mk _ _ nm ps ns _ => nm.size ≤ M ∧ (∀ s ∈ ns, s.size ≤ M) ∧ Ty.namesLeL M ps
def Ty.namesLeL (M : Nat) : List Ty → Prop
  | [] => True
  | p :: r => Ty.namesLe M p ∧ Ty.namesLeL M r
end
theorem Ty.namesLeL_iff {M : Nat} : ∀ {ps : List Ty}, Ty.namesLeL M ps ↔ ∀ p ∈ ps, Ty.namesLe M p
  | [] => by rw [Ty.namesLeL]; simp
  | q :: r => by
    rw [Ty.namesLeL, Ty.namesLeL_iff (ps := r)]
    simp
theorem Ty.namesLe_mk {M : Nat} {k n : Int} {nm : ByteArray} {ps : List Ty} {ns : List ByteArray} {ms : List Bool} : (Ty.mk k n nm ps ns ms).namesLe M ↔ nm.size ≤ M ∧ (∀ s ∈ ns, s.size ≤ M) ∧ ∀ p ∈ ps, p.namesLe M := by rw [Ty.namesLe, Ty.namesLeL_iff]

theorem Ty.Valid.ok {t : Ty} (h : t.Valid) : t.Ok := by
  induction h with
  | @basic k h1 h2 => exact .mk ⟨by omega, by omega, fun e => by omega, fun e => by omega, fun e => by omega, fun e => by omega⟩ (by decide) (by decide) (fun p hp => by cases hp)
  | @num n h1 h2 => exact .mk ⟨by decide, by decide, fun e => by omega, fun e => by omega, fun e => by omega, fun e => by omega⟩ (by omega) (by omega) (fun p hp => by cases hp)
  | str h => exact .mk ⟨by decide, by decide, fun e => by omega, fun e => by omega, fun e => by omega, fun e => by omega⟩ (by decide) (by decide) (fun p hp => by cases hp)
  | arr hp ih => exact .mk ⟨by decide, by decide, fun e => by simp, fun e => by omega, fun e => by omega, fun e => by omega⟩ (by decide) (by decide) (fun p hp => by cases List.mem_singleton.1 hp; exact ih)
  | obj xs hn hr hp ih => exact .mk ⟨by decide, by decide, fun e => by omega, fun e => by simp, fun e => by omega, fun e => by omega⟩ (by decide) (by decide) (fun p hp' => by
      obtain ⟨x, hx, rfl⟩ := List.mem_map.1 hp'
      exact ih x hx)
  | fn xs r ho hp hr ih1 ih2 => exact .mk ⟨by decide, by decide, fun e => by omega, fun e => by omega, fun e => by simp, fun e => by omega⟩ (by decide) (by decide) (fun p hp' => by
      rcases List.mem_append.1 hp' with q | q
      · obtain ⟨x, hx, rfl⟩ := List.mem_map.1 q
        exact ih1 x hx
      · cases List.mem_singleton.1 q
        exact ih2)
  | un ps hl hk hs hg hp ih => exact .mk ⟨by decide, by decide, fun e => by omega, fun e => by omega, fun e => by omega, fun e => by omega⟩ (by decide) (by decide) ih
  | ref ps h1 h2 hn hp ih => exact .mk ⟨by decide, by decide, fun e => by omega, fun e => by omega, fun e => by omega, fun e => by omega⟩ (by omega) (by omega) ih
  | @named k n nm hk h1 h2 hn => exact .mk ⟨by omega, by omega, fun e => by omega, fun e => by omega, fun e => by omega, fun e => by omega⟩ (by omega) (by omega) (fun p hp => by cases hp)
  | @case n m nm nm' h1 h2 hn h1' h2' hn' => exact .mk ⟨by decide, by decide, fun e => by omega, fun e => by omega, fun e => by omega, fun e => by simp⟩ (by omega) (by omega) (fun p hp => by
      cases List.mem_singleton.1 hp
      exact .mk ⟨by decide, by decide, fun e => by omega, fun e => by omega, fun e => by omega, fun e => by omega⟩ (by omega) (by omega) (fun p hp => by cases hp))
theorem wideL_le {M : Nat} : ∀ (l : List Nat), (∀ x ∈ l, x ≤ M) → wideL l ≤ l.length * (M + 32)
  | [], _ => by simp [wideL]
  | x :: r, h => by
    have ih := wideL_le r fun y hy => h y (by simp [hy])
    have h1 := h x (by simp)
    rw [wideL_cons, List.length_cons, Nat.add_mul]
    omega
theorem wide_sum {M c : Nat} : ∀ (ps : List Ty), (∀ p ∈ ps, p.wide + (M + 64) ≤ p.nodes * c) → wideL (ps.map Ty.wide) + ps.length * (M + 32) ≤ (ps.map Ty.nodes).sum * c
  | [], _ => by simp [wideL]
  | p :: r, h => by
    have ih := wide_sum r fun y hy => h y (by simp [hy])
    have h1 := h p (by simp)
    simp only [List.map_cons, wideL_cons, List.sum_cons, List.length_cons, Nat.add_mul, Nat.one_mul]
    omega
theorem wide_le_mk {M : Nat} {k n : Int} {nm : ByteArray} {ps : List Ty} {ns : List ByteArray} {ms : List Bool} (h1 : nm.size ≤ M) (h2 : ∀ s ∈ ns, s.size ≤ M) (h3 : ns.length ≤ ps.length) (h4 : ∀ p ∈ ps, p.wide + (M + 64) ≤ p.nodes * (192 + 7 * M)) : (Ty.mk k n nm ps ns ms).wide + (M + 64) ≤ (Ty.mk k n nm ps ns ms).nodes * (192 + 7 * M) := by
  rw [Ty.wide_mk, Ty.nodes_mk]
  have q1 := wide_sum ps h4
  have q2 := wideL_le (M := M) (ns.map (·.size)) (fun x hx => by
    obtain ⟨s, hs, rfl⟩ := List.mem_map.1 hx
    exact h2 s hs)
  rw [List.length_map] at q2
  have q3 := Nat.mul_le_mul_right (M + 32) h3
  rw [Nat.add_mul, Nat.one_mul]
  omega
theorem wide_le {M : Nat} {t : Ty} (h : t.Valid) : t.namesLe M → t.wide + (M + 64) ≤ t.nodes * (192 + 7 * M) := by
  induction h with
  | basic => intro hn; obtain ⟨q1, q2, q3⟩ := Ty.namesLe_mk.1 hn; exact wide_le_mk q1 q2 (by simp) (by simp)
  | num => intro hn; obtain ⟨q1, q2, q3⟩ := Ty.namesLe_mk.1 hn; exact wide_le_mk q1 q2 (by simp) (by simp)
  | str => intro hn; obtain ⟨q1, q2, q3⟩ := Ty.namesLe_mk.1 hn; exact wide_le_mk q1 q2 (by simp) (by simp)
  | arr hp ih => intro hn; obtain ⟨q1, q2, q3⟩ := Ty.namesLe_mk.1 hn; exact wide_le_mk q1 q2 (by simp) (fun p hp' => by cases List.mem_singleton.1 hp'; exact ih (q3 _ (by simp)))
  | obj xs hnm hr hp ih =>
    intro hn
    obtain ⟨q1, q2, q3⟩ := Ty.namesLe_mk.1 hn
    exact wide_le_mk q1 q2 (by simp) (fun p hp' => by
      have q := q3 p hp'
      obtain ⟨x, hx, rfl⟩ := List.mem_map.1 hp'
      exact ih x hx q)
  | fn xs r ho hp hr ih1 ih2 =>
    intro hn
    obtain ⟨q1, q2, q3⟩ := Ty.namesLe_mk.1 hn
    exact wide_le_mk q1 q2 (by simp) (fun p hp' => by
      have q := q3 p hp'
      rcases List.mem_append.1 hp' with h | h
      · obtain ⟨x, hx, rfl⟩ := List.mem_map.1 h
        exact ih1 x hx q
      · cases List.mem_singleton.1 h
        exact ih2 q)
  | un ps hl hk hs hg hp ih => intro hn; obtain ⟨q1, q2, q3⟩ := Ty.namesLe_mk.1 hn; exact wide_le_mk q1 q2 (by simp) (fun p hp' => ih p hp' (q3 p hp'))
  | ref ps h1 h2 hnm hp ih => intro hn; obtain ⟨q1, q2, q3⟩ := Ty.namesLe_mk.1 hn; exact wide_le_mk q1 q2 (by simp) (fun p hp' => ih p hp' (q3 p hp'))
  | named => intro hn; obtain ⟨q1, q2, q3⟩ := Ty.namesLe_mk.1 hn; exact wide_le_mk q1 q2 (by simp) (by simp)
  | case => intro hn; obtain ⟨q1, q2, q3⟩ := Ty.namesLe_mk.1 hn; exact wide_le_mk q1 q2 (by simp) (fun p hp' => by
      have e := List.mem_singleton.1 hp'
      subst e
      obtain ⟨r1, r2, r3⟩ := Ty.namesLe_mk.1 (q3 _ hp')
      exact wide_le_mk r1 r2 (by simp) (by simp))

/-- types of which many at once can be borne -/
structure Sm (t : Ty) : Prop where
  nodes : t.nodes ≤ 100000
  names : t.namesLe 2000000
theorem Sm.part {k n : Int} {nm : ByteArray} {ps : List Ty} {ns : List ByteArray} {ms : List Bool} (h : Sm (.mk k n nm ps ns ms)) {p : Ty} (hp : p ∈ ps) : Sm p :=
  ⟨Nat.le_trans (Nat.le_of_lt (Ty.part_nodes (k := k) (n := n) (nm := nm) (ns := ns) (ms := ms) hp)) h.nodes, (Ty.namesLe_mk.1 h.names).2.2 p hp⟩
theorem Sm.text {t : Ty} (h : Sm t) (hv : t.Valid) : t.text.size ≤ 100000000000000 := by
  have h1 := text_wide hv.ok
  have h2 := wide_le hv h.names
  have h3 := Nat.mul_le_mul_right (192 + 7 * 2000000) h.nodes
  omega
theorem Sm.length {k n : Int} {nm : ByteArray} {ps : List Ty} {ns : List ByteArray} {ms : List Bool} (h : Sm (.mk k n nm ps ns ms)) : ps.length ≤ 100000 := by
  have h1 := h.nodes
  rw [Ty.nodes_mk] at h1
  have := Ty.parts_nodes ps
  omega
theorem Sm.name {k n : Int} {nm : ByteArray} {ps : List Ty} {ns : List ByteArray} {ms : List Bool} (h : Sm (.mk k n nm ps ns ms)) : nm.size ≤ 1000000000 := by
  have := (Ty.namesLe_mk.1 h.names).1
  omega

theorem text_any (hQ : QuoteAny) {t : Ty} (h : t.Valid) : Sm t → TextAny t := by
  induction h with
  | @basic k h1 h2 => intro _; exact text_of_spelled (spelled_word k 0 _ _ _ _ h1 h2)
  | @num n h1 h2 => intro _; exact text_of_spelled (spelled_11 n _ _ _ _ (by omega) (by omega))
  | str h => intro hs; exact text_of_spelled (spelled_12 hQ 0 _ _ _ _ hs.name)
  | arr hp ih => intro hs; exact text_of_spelled (spelled_13 0 _ _ _ _ (by simp) fun p hp' => by
      cases List.mem_singleton.1 hp'
      exact ⟨ih (hs.part (by simp)), (hs.part (by simp)).text hp⟩)
  | obj xs hn hr hp ih =>
    intro hs
    have hv : Ty.Valid (.mk 14 0 ⟨#[]⟩ (xs.map (·.2.2)) (xs.map (·.1)) (xs.map (·.2.1))) := .obj xs hn hr hp
    have ht := hs.text hv
    have hl := hs.length
    rw [List.length_map] at hl
    refine text_of_spelled (spelled_14 0 _ xs hl (fun x hx => ?_) ?_)
    · have hsp := hs.part (List.mem_map_of_mem (f := fun y : ByteArray × Bool × Ty => y.2.2) hx)
      refine ⟨ih x hx hsp, hsp.text (hp x hx), ?_⟩
      have := (Ty.namesLe_mk.1 hs.names).2.1 x.1 (List.mem_map_of_mem (f := fun y : ByteArray × Bool × Ty => y.1) hx)
      omega
    · have e : (Ty.mk 14 0 ⟨#[]⟩ (xs.map (·.2.2)) (xs.map (·.1)) (xs.map (·.2.1))).text = ⟨#[123]⟩ ++ joinB ⟨#[59, 32]⟩ (xs.map fun x => memS x.1 x.2.1 x.2.2.text) ++ ⟨#[125]⟩ := obj_text 0 _ xs
      rw [e] at ht
      simp only [ByteArray.size_append] at ht
      omega
  | fn xs r ho hp hr ih1 ih2 =>
    intro hs
    have hv : Ty.Valid (.mk 15 0 ⟨#[]⟩ (xs.map (·.1) ++ [r]) [] (xs.map (·.2))) := .fn xs r ho hp hr
    have ht := hs.text hv
    have hl := hs.length
    rw [List.length_append, List.length_map] at hl
    rw [fn_text] at ht
    simp only [ByteArray.size_append] at ht
    refine text_of_spelled (spelled_15 0 _ xs r _ (by omega) (fun x hx => ?_) ?_ (by omega))
    · have hsp := hs.part (List.mem_append.2 (.inl (List.mem_map_of_mem (f := fun y : Ty × Bool => y.1) hx)))
      exact ⟨ih1 x hx hsp, hsp.text (hp x hx)⟩
    · have hsp := hs.part (List.mem_append.2 (.inr (List.mem_singleton.2 rfl)))
      exact ⟨ih2 hsp, hsp.text hr⟩
  | un ps hl hk hst hg hp ih =>
    intro hs
    have hv : Ty.Valid (.mk 16 0 ⟨#[]⟩ ps [] []) := .un ps hl hk hst hg hp
    exact text_of_spelled (spelled_16 0 _ _ _ _ (fun e => by subst e; simp at hl) hs.length (fun p hp' => ⟨ih p hp' (hs.part hp'), (hs.part hp').text (hp p hp')⟩) (hs.text hv))
  | @ref n nm ps h1 h2 hn hp ih =>
    intro hs
    have hv : Ty.Valid (.mk 17 n nm ps [] []) := .ref ps h1 h2 hn hp
    exact text_of_spelled (spelled_17 n _ _ _ _ (by omega) (by omega) hs.name hs.length (fun p hp' => ih p hp' (hs.part hp')) (hs.text hv))
  | @named k n nm hk h1 h2 hn =>
    intro hs
    rcases hk with rfl | rfl | rfl | rfl | rfl
    · exact text_of_spelled (spelled_18 n _ _ _ _ (by omega) (by omega) hs.name)
    · exact text_of_spelled (spelled_19 n _ _ _ _ (by omega) (by omega) hs.name)
    · exact text_of_spelled (spelled_named 21 n _ _ _ _ (by omega) (by omega) (by omega) hs.name)
    · exact text_of_spelled (spelled_named 22 n _ _ _ _ (by omega) (by omega) (by omega) hs.name)
    · exact text_of_spelled (spelled_named 23 n _ _ _ _ (by omega) (by omega) (by omega) hs.name)
  | @case n m nm nm' h1 h2 hn h1' h2' hn' =>
    intro hs
    refine text_of_spelled (spelled_20 n _ _ _ _ (by simp) hs.name fun p hp' => ?_)
    cases List.mem_singleton.1 hp'
    have hsp := hs.part (List.mem_singleton.2 rfl)
    exact ⟨text_of_spelled (spelled_19 m _ _ _ _ (by omega) (by omega) hsp.name), hsp.text (.named (.inr (.inl rfl)) h1' h2' hn')⟩

end Go.Proofs.YtbghpkoimbmijaaGreatDoor
