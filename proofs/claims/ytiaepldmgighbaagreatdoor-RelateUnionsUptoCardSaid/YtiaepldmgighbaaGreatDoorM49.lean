import Derived.Test.YtiaepldmgighbaaGreatDoorM26
import Derived.Test.YtiaepldmgighbaaGreatDoorM31
namespace Go.Proofs.YtiaepldmgighbaaGreatDoor
open Go.RowKit
set_option linter.unusedSimpArgs false
set_option linter.unusedVariables false
theorem basic_free {k : Int} (h : k ≠ 1 ∧ k ≠ 4 ∧ k ≠ 17 ∧ k ≠ 19 ∧ k ≠ 20) : Free (basicT k) := .mk h (fun m hm => by cases hm) (fun p hp => by cases hp)
theorem Free.flat {t : Ty} (h : Free t) : ∀ x ∈ t.flat, Free x := by
 intro x hx
 unfold Ty.flat at hx
 split at hx
 · exact h.parts x hx
 · rw [List.mem_singleton.1 hx]; exact h
theorem free_union {l : List Ty} (h : ∀ t ∈ l, Free t) : Free (unionC l) := by
 have hf : ∀ x ∈ l.flatMap Ty.flat, Free x := fun x hx => by
   obtain ⟨t, ht, hx⟩ := List.mem_flatMap.1 hx
   exact (h t ht).flat x hx
 unfold unionC
 rcases unionF_cases (l.flatMap Ty.flat) with ⟨⟨x, hx, hk⟩, _⟩ | ⟨_, _, e⟩ | ⟨_, _, e⟩
 · exact absurd hk (hf x hx).kind.1
 · rw [e]; exact basic_free (by decide)
 · rw [e]
   have hm : ∀ z ∈ sortU (restU (l.flatMap Ty.flat)), Free z := fun z hz => hf z (restU_mem.1 (sortU_sub _ z hz)).1
   rcases wrapU_cases (sortU (restU (l.flatMap Ty.flat))) with ⟨_, e2⟩ | ⟨x, e1, e2⟩ | ⟨_, e2⟩
   · rw [e2]; exact basic_free (by decide)
   · rw [e2]; exact hm x (by rw [e1]; simp)
   · rw [e2]
     exact .mk (by decide) (fun m hm => by cases hm) hm
theorem Free.norm {t : Ty} (h : Free t) : Free (normC t) := by
 induction h with
 | @mk k n nm ps ns ms hk hm hp ih =>
   have hl : ∀ z ∈ ps.map normC, Free z := fun z hz => by
     obtain ⟨p, hp, rfl⟩ := List.mem_map.1 hz
     exact ih p hp
   rw [normC_mk]
   split
   · exact free_union hl
   · exact .mk hk hm hl
end Go.Proofs.YtiaepldmgighbaaGreatDoor
