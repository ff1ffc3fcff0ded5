import Derived.Test.YtiaepldmgighbaaGreatDoorM26
import Derived.Test.YtiaepldmgighbaaGreatDoorM30
namespace Go.Proofs.YtiaepldmgighbaaGreatDoor
open Go.RowKit
set_option linter.unusedSimpArgs false
set_option linter.unusedVariables false
theorem free_basic {k : Int} (h : k ≠ 1 ∧ k ≠ 4 ∧ k ≠ 17 ∧ k ≠ 19 ∧ k ≠ 20) : Free (basicT k) := .mk h (fun m hm => by cases hm) (fun p hp => by cases hp)
theorem FC.flat {t : Ty} (h : FC t) : ∀ x ∈ t.flat, FC x ∧ x.kind ≠ 16 := by
 intro x hx
 have hc := h.cv.flat x hx
 refine ⟨⟨hc.1, ?_⟩, hc.2⟩
 unfold Ty.flat at hx
 split at hx
 · exact h.free.parts x hx
 · rw [List.mem_singleton.1 hx]; exact h.free
theorem flats_fc {l : List Ty} (h : ∀ t ∈ l, FC t) : ∀ x ∈ l.flatMap Ty.flat, FC x ∧ x.kind ≠ 16 := fun x hx => by
 obtain ⟨t, ht, hx⟩ := List.mem_flatMap.1 hx
 exact (h t ht).flat x hx
theorem union_stands {l : List Ty} (h : ∀ t ∈ l, FC t) : ((∃ x ∈ l.flatMap Ty.flat, x.kind = 2) ∧ unionC l = basicT 2) ∨ ((¬ ∃ x ∈ l.flatMap Ty.flat, x.kind = 2) ∧ ∃ L, unionC l = wrapU L ∧ ∀ z, z ∈ L ↔ z ∈ l.flatMap Ty.flat ∧ ¬ Goes (l.flatMap Ty.flat) z) := by
 have hF : Fl (l.flatMap Ty.flat) := Fl.of fun t ht => (h t ht).cv
 unfold unionC
 rcases unionF_cases (l.flatMap Ty.flat) with ⟨⟨x, hx, hk⟩, _⟩ | ⟨_, h2, e⟩ | ⟨_, h2, e⟩
 · exact absurd hk (flats_fc h x hx).1.free.kind.1
 · exact .inl ⟨h2, e⟩
 · refine .inr ⟨h2, _, e, fun z => ?_⟩
   rw [sortU_mem _ (fun x hx y hy e => hF.key x (restU_mem.1 hx).1 y (restU_mem.1 hy).1 e)]
   exact restU_mem
theorem union_fc {l : List Ty} (h : ∀ t ∈ l, FC t) : FC (unionC l) := by
 refine ⟨unionC_cv fun t ht => (h t ht).cv, ?_⟩
 rcases union_stands h with ⟨_, e⟩ | ⟨_, L, e, hL⟩
 · rw [e]; exact free_basic (by decide)
 · rw [e]
   rcases wrapU_cases L with ⟨_, e2⟩ | ⟨x, e1, e2⟩ | ⟨_, e2⟩
   · rw [e2]; exact free_basic (by decide)
   · rw [e2]; exact (flats_fc h x ((hL x).1 (by rw [e1]; simp)).1).1.free
   · rw [e2]; exact .mk (by decide) (fun m hm => by cases hm) (fun p hp => (flats_fc h p ((hL p).1 hp).1).1.free)
theorem sub_member {L : List Ty} (hL : ∀ z ∈ L, z.kind ≠ 16) {x z : Ty} (hx : FC x) (k2 : x.kind ≠ 2) (k16 : x.kind ≠ 16) (hz : z ∈ L) (h : Sub x z) : Sub x (wrapU L) := by
 rcases wrapU_cases L with ⟨e1, _⟩ | ⟨y, e1, e2⟩ | ⟨_, e2⟩
 · rw [e1] at hz; cases hz
 · rw [e1] at hz
   rw [e2, ← List.mem_singleton.1 hz]
   exact h
 · by_cases k3 : x.kind = 3
   · exact .intro (ask_never k3)
   · rw [e2]
     refine .intro ((ask_any (fun e => by rw [e] at k16; exact k16 rfl) (by simp [Ty.kind]) ⟨hx.free.kind.1, k2, k3, k16⟩ rfl).2 ⟨z, hz, h⟩)
theorem sub_small {x z : Ty} (hx : FC x) (h : (x.kind = 11 ∧ z.kind = 7) ∨ (x.kind = 12 ∧ z.kind = 8)) : Sub x z :=
 .intro ((ask_rest (fun e => by rw [e] at h; omega) (by omega) (by omega) (by omega)).2 (.inl (by unfold smallP; omega)))
theorem sub_flat_union {l : List Ty} (h : ∀ t ∈ l, FC t) {x : Ty} (hx : x ∈ l.flatMap Ty.flat) : Sub x (unionC l) := by
 have hf := flats_fc h x hx
 rcases union_stands h with ⟨_, e⟩ | ⟨h2, L, e, hL⟩
 · rw [e]; exact .intro (ask_top (.inr rfl))
 · rw [e]
   have k2 : x.kind ≠ 2 := fun e => h2 ⟨x, hx, e⟩
   have h16 : ∀ z ∈ L, z.kind ≠ 16 := fun z hz => (flats_fc h z ((hL z).1 hz).1).2
   by_cases hg : Goes (l.flatMap Ty.flat) x
   · rcases hg with hg | ⟨hg, q, hq, hk⟩ | ⟨hg, q, hq, hk⟩ | ⟨hg, _⟩
     · exact .intro (ask_never hg)
     · refine sub_member h16 hf.1 k2 hf.2 ((hL q).2 ⟨hq, fun hg2 => ?_⟩) (sub_small hf.1 (.inl ⟨hg, hk⟩))
       rcases hg2 with h3 | ⟨h3, _⟩ | ⟨h3, _⟩ | ⟨h3, _⟩ <;> omega
     · refine sub_member h16 hf.1 k2 hf.2 ((hL q).2 ⟨hq, fun hg2 => ?_⟩) (sub_small hf.1 (.inr ⟨hg, hk⟩))
       rcases hg2 with h3 | ⟨h3, _⟩ | ⟨h3, _⟩ | ⟨h3, _⟩ <;> omega
     · exact absurd hg hf.1.free.kind.2.2.2.2
   · exact sub_member h16 hf.1 k2 hf.2 ((hL x).2 ⟨hx, hg⟩) (Sub.refl x)
theorem sub_of_flat {p u : Ty} (hp : FC p) (hu : FC u) (h : ∀ x ∈ p.flat, Sub x u) : Sub p u := by
 by_cases k : p.kind = 16
 · by_cases e : p = u
   · rw [e]; exact Sub.refl u
   by_cases k2 : u.kind = 2
   · exact .intro (ask_top (.inr k2))
   refine .intro ((ask_union e ⟨hu.free.kind.1, k2⟩ k).2 fun q hq => h q ?_)
   unfold Ty.flat
   rw [if_pos k]
   exact hq
 · refine h p ?_
   unfold Ty.flat
   rw [if_neg k]
   exact List.mem_singleton.2 rfl
theorem sub_flat {p r x : Ty} (hp : FC p) (hr : FC r) (hx : x ∈ p.flat) (h : Sub p r) : Sub x r := by
 unfold Ty.flat at hx
 split at hx
 · rename_i k
   by_cases k2 : r.kind = 2
   · exact .intro (ask_top (.inr k2))
   by_cases e : p = r
   · subst e
     have hk := hp.upart k x hx
     exact .intro ((ask_any (fun e => by rw [e] at hk; exact hk.1 k) ⟨hr.free.kind.1, k2⟩ ⟨hk.2.1, hk.2.2.1, hk.2.2.2, hk.1⟩ k).2 ⟨x, hx, Sub.refl x⟩)
   · exact (ask_union e ⟨hr.free.kind.1, k2⟩ k).1 h.out x hx
 · rw [List.mem_singleton.1 hx]; exact h
theorem sub_union_in {l : List Ty} (h : ∀ t ∈ l, FC t) {p : Ty} (hp : p ∈ l) : Sub p (unionC l) :=
 sub_of_flat (h p hp) (union_fc h) fun x hx => sub_flat_union h (List.mem_flatMap.2 ⟨p, hp, hx⟩)
theorem sub_union_iff {l : List Ty} (h : ∀ t ∈ l, FC t) {r : Ty} (hr : FC r) : Sub (unionC l) r ↔ ∀ t ∈ l, Sub t r := by
 constructor
 · exact fun hu t ht => sub_trans (h t ht) (union_fc h) hr (sub_union_in h ht) hu
 · intro hall
   have hF : ∀ x ∈ l.flatMap Ty.flat, Sub x r := fun x hx => by
     obtain ⟨t, ht, hx⟩ := List.mem_flatMap.1 hx
     exact sub_flat (h t ht) hr hx (hall t ht)
   rcases union_stands h with ⟨⟨x, hx, hk⟩, e⟩ | ⟨_, L, e, hL⟩
   · have hxe := valid_ten (flats_fc h x hx).1.cv.valid (by omega) (by omega)
     rw [hk] at hxe
     rw [e, ← hxe]
     exact hF x hx
   · rw [e]
     rcases wrapU_cases L with ⟨_, e2⟩ | ⟨x, e1, e2⟩ | ⟨_, e2⟩
     · rw [e2]; exact .intro (ask_never rfl)
     · rw [e2]; exact hF x ((hL x).1 (by rw [e1]; simp)).1
     · rw [e2]
       by_cases er : Ty.mk 16 0 ⟨#[]⟩ L [] [] = r
       · rw [er]; exact Sub.refl r
       by_cases k2 : r.kind = 2
       · exact .intro (ask_top (.inr k2))
       exact .intro ((ask_union er ⟨hr.free.kind.1, k2⟩ rfl).2 fun z hz => hF z ((hL z).1 hz).1)
theorem sub_funcs (p r q s : Ty) : Sub (.mk 15 0 ⟨#[]⟩ [p, r] [] [false]) (.mk 15 0 ⟨#[]⟩ [q, s] [] [false]) ↔ (Ty.mk 15 0 ⟨#[]⟩ [p, r] [] [false] = .mk 15 0 ⟨#[]⟩ [q, s] [] [false]) ∨ (Sub q p ∧ (s.kind ≠ 4 → Sub r s)) := by
 by_cases e : Ty.mk 15 0 ⟨#[]⟩ [p, r] [] [false] = .mk 15 0 ⟨#[]⟩ [q, s] [] [false]
 · exact ⟨fun _ => .inl e, fun _ => by rw [e]; exact Sub.refl _⟩
 · rw [sub_iff, ask_rest e (by simp [Ty.kind]) (by simp [Ty.kind]) (by simp [Ty.kind])]
   constructor
   · rintro (h | ⟨h, _⟩ | ⟨h, _⟩ | ⟨_, _, h⟩ | ⟨h, _⟩)
     · unfold smallP at h
       simp only [Ty.kind] at h
       omega
     · simp [Ty.kind] at h
     · simp [Ty.kind] at h
     · exact .inr ⟨h.2.1 0 (by simp [Ty.marks]), h.2.2⟩
     · simp [Ty.kind] at h
   · rintro (h | ⟨h1, h2⟩)
     · exact absurd h e
     · refine .inr (.inr (.inr (.inl ⟨rfl, rfl, by simp [Ty.marks], fun i hi => ?_, h2⟩)))
       have h0 : i = 0 := by simp [Ty.marks] at hi; exact hi
       subst h0
       exact h1
end Go.Proofs.YtiaepldmgighbaaGreatDoor
