import Derived.Test.YtbghpkoimbmijaaGreatDoorM06
import Derived.Test.YtbghpkoimbmijaaGreatDoorM01
/- YtbghpkoimbmijaaGreatDoorM07: lemmas of the proof, in order: SC, SD, TextS, QD. -/
/- Walks: slices.CompactFunc of a row of types; sorted. -/
namespace Go.Proofs.YtbghpkoimbmijaaGreatDoor
open Go.RowKit
set_option linter.unusedSimpArgs false

theorem Inv.setCells {g : Nat} {I : World → Prop} (h : Inv g I) : ∀ (vs : List Value) (W : World) (i : Nat), I W → I (W.setCells g i vs)
  | [], _, _, hi => hi
  | v :: vs, W, i, hi => by rw [World.setCells]; exact h.setCells vs _ _ (h.set _ _ _ hi)

/-- how two types are held to be alike -/
structure EqC (I : World → Prop) (g b : Nat) (S : Nat → Prop) (eq : Nat → Nat → Bool) : Prop where
  run : ∀ (W : World) (x y : Nat), I W → S x → S y → Calls Tryz.prog 68 #[.pointer (some ⟨x, 0, none⟩), .pointer (some ⟨y, 0, none⟩), .pointer (some ⟨b, 0, none⟩)] W fun e W' => e = .returned (.bool (eq x y)) ∧ I W' ∧ W'.heap[g]? = W.heap[g]?
theorem EqC.of {I : World → Prop} {g b : Nat} {S : Nat → Prop} {eq : Nat → Nat → Bool} (h : EqC I g b S eq) {cs : Array Value} (i : RowW I g cs) {x y : Nat} (hx : S x) (hy : S y) :
    Calls Tryz.prog 68 #[.pointer (some ⟨x, 0, none⟩), .pointer (some ⟨y, 0, none⟩), .pointer (some ⟨b, 0, none⟩)] i.W fun e W' => e = .returned (.bool (eq x y)) ∧ ∃ j : RowW I g cs, W' = j.W :=
  (h.run i.W x y i.inv hx hy).mono fun _ W' ⟨h1, h2, h3⟩ => ⟨h1, ⟨W', h2, h3.trans i.row⟩, rfl⟩
abbrev sameV (b : Nat) : Value := .func (.func sameF) #[] #[.pointer (some ⟨b, 0, none⟩)]

theorem keepL_snoc {eq : Nat → Nat → Bool} : ∀ (l : List Nat) (p x : Nat), SortL.keepL eq p (l ++ [x]) = SortL.keepL eq p l ++ (if eq x (l.getLastD p) = true then [] else [x])
  | [], p, x => by cases hq : eq x p <;> simp [SortL.keepL, hq]
  | y :: r, p, x => by
    have ih := keepL_snoc (eq := eq) r y x
    rw [List.cons_append, SortL.keepL, SortL.keepL, ih, List.getLastD_cons]
    cases hq : eq y p <;> simp
theorem compactL_snoc {eq : Nat → Nat → Bool} {l : List Nat} {p x : Nat} (h : l.getLast? = some p) : SortL.compactL eq (l ++ [x]) = SortL.compactL eq l ++ (if eq x p = true then [] else [x]) := by
  cases l with
  | nil => simp at h
  | cons y r =>
    rw [List.cons_append, SortL.compactL, SortL.compactL, keepL_snoc]
    have e : r.getLastD y = p := by
      rw [List.getLast?_cons] at h
      rw [List.getLastD_eq_getLast?]
      exact Option.some.inj h
    rw [e]
    rfl
theorem take_last {xs : List Nat} {k p : Nat} (hk : 0 < k) (h : xs[k - 1]? = some p) : (xs.take k).getLast? = some p := by
  have hl := (List.getElem?_eq_some_iff.1 h).1
  rw [List.getLast?_eq_getElem?, List.length_take, List.getElem?_take, if_pos (by omega)]
  have e : min k xs.length - 1 = k - 1 := by omega
  rw [e]
  exact h
theorem compact_take {eq : Nat → Nat → Bool} {xs : List Nat} {k p x : Nat} (hk : 0 < k) (hp : xs[k - 1]? = some p) (hx : xs[k]? = some x) : SortL.compactL eq (xs.take (k + 1)) = SortL.compactL eq (xs.take k) ++ (if eq x p = true then [] else [x]) := by
  rw [List.take_add_one, hx]
  exact compactL_snoc (take_last hk hp)

set_option maxRecDepth 100000 in
set_option maxHeartbeats 12800000 in
theorem Compact_any (I : World → Prop) (g off n cap b : Nat) (S : Nat → Prop) (eq : Nat → Nat → Bool) (hI : Inv g I) (hC : EqC I g b S eq) (hb : n ≤ 1000000) (hcap : n ≤ cap) (xs : List Nat) (w : World) (hS : ∀ z ∈ xs, S z) (h : RowAt w g off xs) (hn : xs.length = n) (hn0 : 0 < n) (hi : I w) :
    Calls Tryz.prog 67 #[.slice (some ⟨g, off, none⟩) n cap, sameV b] w fun e w' => e = .returned (.slice (some ⟨g, off, none⟩) (SortL.compactL eq xs).length cap) ∧ RowAt w' g off (SortL.compactL eq xs) ∧ I w' := by
  have H := Lib.hid (And.intro h (And.intro hI (And.intro hi (And.intro hC (And.intro hS hn)))))
  have hni : (n : Int) ≤ 1000000 := by omega
  have hci : (n : Int) ≤ cap := by omega
  clear h hI hi hC hS hn
  rcases Nat.lt_or_ge n 2 with h2 | h2
  · have h2i : (n : Int) < 2 := by omega
    go_enter Tryz.func67, Tryz.ntmps67
    go_wp2_with fail
    obtain ⟨x, hx⟩ := List.length_eq_one_iff.1 (show xs.length = 1 by have := H.out.2.2.2.2.2; omega)
    have e : SortL.compactL eq xs = xs := by rw [hx]; rfl
    rw [e]
    refine bodyPost_ret (v := .slice (some ⟨g, off, none⟩) n cap) (by simp [results, Tryz.results67, go_sem]) rfl ?_
    exact ⟨by rw [H.out.2.2.2.2.2], H.out.1, H.out.2.2.1⟩
  have h2i : ¬ (n : Int) < 2 := by omega
  go_enter Tryz.func67, Tryz.ntmps67
  go_wp2_with fail
  go_loopw [5] (fun kv wr => ∃ k : Nat, kv = .int .i64 ((k : Int) + 1) ∧ k + 1 ≤ n ∧ Hid (SortL.compactL eq (xs.take (k + 1)) = xs.take (k + 1)) ∧ RowAt wr g off xs ∧ I wr) (fun kv _ => n - (intOf kv).toNat)
  case atStart =>
    refine ⟨0, rfl, hn0, ?_, H.out.1, H.out.2.2.1⟩
    unfold Hid
    cases hx : xs with
    | nil => rfl
    | cons x r => rfl
  case round =>
    obtain ⟨k, rfl, hk, hh, hrow, hIw⟩ := hrel
    have R := Lib.hid (And.intro hrow hIw)
    by_cases hlt : k + 1 < n
    · have hki : (k : Int) + 1 < n := by omega
      obtain ⟨p, hp⟩ : ∃ p, xs[k]? = some p := ⟨_, List.getElem?_eq_getElem (by have := H.out.2.2.2.2.2; omega)⟩
      obtain ⟨x, hx⟩ : ∃ x, xs[k + 1]? = some x := ⟨_, List.getElem?_eq_getElem (by have := H.out.2.2.2.2.2; omega)⟩
      have hsp := H.out.2.2.2.2.1 p (List.mem_of_getElem? hp)
      have hsx := H.out.2.2.2.2.1 x (List.mem_of_getElem? hx)
      have hct : Hid (SortL.compactL eq (xs.take (k + 2)) = SortL.compactL eq (xs.take (k + 1)) ++ (if eq x p = true then [] else [x])) := compact_take (by omega) (by simpa using hp) hx
      have R1 := Lib.hid (And.intro hsp (And.intro hsx (And.intro hp hx)))
      obtain ⟨cs, hcs, hcv⟩ := hrow
      have hId := H.out.2.1.drew _ hIw
      have q0 : ∀ i : RowW I g cs, i.W.cell? ⟨g, off + k, none⟩ = some (.pointer (some ⟨p, 0, none⟩)) := fun i => RowW.cell hcv hp i
      have q1 : ∀ i : RowW I g cs, i.W.cell? ⟨g, off + (k + 1), none⟩ = some (.pointer (some ⟨x, 0, none⟩)) := fun i => RowW.cell hcv hx i
      have t1 : ((k : Int) + 1).toNat = k + 1 := by omega
      have l1 : (0 : Int) ≤ (k : Int) + 1 := by omega
      have l2 : (k : Int) < n := by omega
      have HC := Lib.hid hcs
      have hw0 : IntKind.i64.wrap (k : Int) = k := IntWalk.i64_in _ (by omega)
      clear hIw hcv hp hx hsp hsx hlt
      go_wp2_with fail
      haveI : Nonempty (RowW I g cs) := ⟨⟨_, hId, hcs⟩⟩
      refine wp_region_row I g cs (by kernel_rfl) (by kernel_rfl) hId hcs ?_
      repeat (go_big_quiet_step ((go_at_call 68; rename_i i; exact H.out.2.2.2.1.of i R1.out.2.1 R1.out.1)))
      refine wpQuiet_nil ?_
      intro w2 hw'
      obtain ⟨i2, hw''⟩ := hw'
      have hi2 : I w2 := hw'' ▸ i2.inv
      have hr2 : w2.heap[g]? = some (.cells cs TpT (0, 0)) := hw'' ▸ i2.row
      clear hw''
      have R2 : Hid (RowAt w2 g off xs ∧ I w2) := ⟨R.out.1.keep (hr2.trans HC.out.symm), hi2⟩
      clear hcs hId q0 q1 hr2 hi2 i2 hw0
      cases hq : eq x p with
      | false =>
        have HQ : Hid (eq x p = false) := hq
        clear hq
        go_wp2_with fail
        go_roundw
        case rel =>
          refine ⟨k + 1, by simp, by omega, ?_, R2.out⟩
          unfold Hid
          rw [hct.out, HQ.out, hh.out, List.take_add_one (i := k + 1), R1.out.2.2.2]
          rfl
        case measure => simp [intOf] <;> omega
      | true =>
        have HQ : Hid (eq x p = true) := hq
        clear hq
        go_wp2_with fail
        go_loopw [5, 7] (fun kv jv wr => ∃ (kw j : Nat), kv = .int .i64 kw ∧ jv = .int .i64 ((j : Int) + 1) ∧ k + j + 2 ≤ n ∧ kw ≤ k + j + 1 ∧ Hid ((SortL.compactL eq (xs.take (k + j + 2))).length = kw) ∧ RowAt wr g off (SortL.compactL eq (xs.take (k + j + 2)) ++ xs.drop kw) ∧ I wr) (fun _ jv _ => n - (intOf jv).toNat)
        case atStart =>
          have e : SortL.compactL eq (xs.take (k + 2)) = xs.take (k + 1) := by rw [hct.out, HQ.out, hh.out, if_pos rfl, List.append_nil]
          refine ⟨k + 1, 0, by simp, rfl, by omega, by omega, ?_, ?_, R2.out.2⟩
          · unfold Hid
            rw [Nat.add_zero, e, List.length_take]
            have := H.out.2.2.2.2.2
            omega
          · rw [Nat.add_zero, e, List.take_append_drop]
            exact R2.out.1
        case round =>
          obtain ⟨kw, j, rfl, rfl, hj, hkw, hl2, hrow, hIw⟩ := hrel
          have R3 := Lib.hid (And.intro hrow hIw)
          by_cases hlt : k + j + 2 < n
          · have hji : (j : Int) + 1 < ((n - (k + 1) : Nat) : Int) := by omega
            obtain ⟨p', hp⟩ : ∃ p, xs[k + j + 1]? = some p := ⟨_, List.getElem?_eq_getElem (by have := H.out.2.2.2.2.2; omega)⟩
            obtain ⟨x', hx⟩ : ∃ x, xs[k + j + 2]? = some x := ⟨_, List.getElem?_eq_getElem (by have := H.out.2.2.2.2.2; omega)⟩
            have hsp := H.out.2.2.2.2.1 p' (List.mem_of_getElem? hp)
            have hsx := H.out.2.2.2.2.1 x' (List.mem_of_getElem? hx)
            have hct2 : Hid (SortL.compactL eq (xs.take (k + j + 3)) = SortL.compactL eq (xs.take (k + j + 2)) ++ (if eq x' p' = true then [] else [x'])) := compact_take (k := k + j + 2) (by omega) (by simpa using hp) hx
            have hrp : (SortL.compactL eq (xs.take (k + j + 2)) ++ xs.drop kw)[k + j + 1]? = some p' := by
              rw [List.getElem?_append_right (by rw [hl2.out]; exact hkw), hl2.out, List.getElem?_drop]
              have e : kw + (k + j + 1 - kw) = k + j + 1 := by omega
              rw [e]; exact hp
            have hrx : (SortL.compactL eq (xs.take (k + j + 2)) ++ xs.drop kw)[k + j + 2]? = some x' := by
              rw [List.getElem?_append_right (by rw [hl2.out]; omega), hl2.out, List.getElem?_drop]
              have e : kw + (k + j + 2 - kw) = k + j + 2 := by omega
              rw [e]; exact hx
            have R4 := Lib.hid (And.intro hsp (And.intro hsx (And.intro hp hx)))
            obtain ⟨cs, hcs, hcv⟩ := hrow
            have hId := H.out.2.1.drew _ hIw
            have q0 : ∀ i : RowW I g cs, i.W.cell? ⟨g, off + (k + 1) + j, none⟩ = some (.pointer (some ⟨p', 0, none⟩)) := fun i => by
              have := RowW.cell hcv hrp i
              have e : off + (k + 1) + j = off + (k + j + 1) := by omega
              rw [e]; exact this
            have q1 : ∀ i : RowW I g cs, i.W.cell? ⟨g, off + (k + 1) + (j + 1), none⟩ = some (.pointer (some ⟨x', 0, none⟩)) := fun i => by
              have := RowW.cell hcv hrx i
              have e : off + (k + 1) + (j + 1) = off + (k + j + 2) := by omega
              rw [e]; exact this
            have t1 : ((j : Int) + 1).toNat = j + 1 := by omega
            have l1 : (0 : Int) ≤ (j : Int) + 1 := by omega
            have l2 : (j : Int) < ((n - (k + 1) : Nat) : Int) := by omega
            have l3 : (j : Int) + 1 ≤ 1000000 := by omega
            have HC := Lib.hid hcs
            have hw0 : IntKind.i64.wrap (j : Int) = j := IntWalk.i64_in _ (by omega)
            have HLT : Hid (k + j + 2 < n ∧ (j : Int) + 1 < ((n - (k + 1) : Nat) : Int) ∧ kw < n) := ⟨hlt, hji, by omega⟩
            clear hIw hcv hp hx hsp hsx hrp hrx hlt
            go_wp2_with fail
            haveI : Nonempty (RowW I g cs) := ⟨⟨_, hId, hcs⟩⟩
            refine wp_region_row I g cs (by kernel_rfl) (by kernel_rfl) hId hcs ?_
            repeat (go_big_quiet_step ((go_at_call 68; rename_i i; exact H.out.2.2.2.1.of i R4.out.2.1 R4.out.1)))
            refine wpQuiet_nil ?_
            intro w3 hw'
            obtain ⟨i2, hw''⟩ := hw'
            have hi2 : I w3 := hw'' ▸ i2.inv
            have hr2 : w3.heap[g]? = some (.cells cs TpT (0, 0)) := hw'' ▸ i2.row
            clear hw''
            have R5 : Hid (RowAt w3 g off (SortL.compactL eq (xs.take (k + j + 2)) ++ xs.drop kw) ∧ I w3) := ⟨R3.out.1.keep (hr2.trans HC.out.symm), hi2⟩
            clear hcs hId q0 q1 hr2 hi2 i2 hw0 t1 hji l2
            have hjb : (j : Int) ≤ 1000000 := by omega
            clear l3 l1
            cases hq2 : eq x' p' with
            | true =>
              have HQ2 : Hid (eq x' p' = true) := hq2
              clear hq2
              have e : Hid (SortL.compactL eq (xs.take (k + j + 3)) = SortL.compactL eq (xs.take (k + j + 2))) := by
                unfold Hid
                rw [hct2.out, HQ2.out, if_pos rfl, List.append_nil]
              go_wp2_with fail
              go_roundw
              case rel =>
                refine ⟨kw, j + 1, rfl, by simp, by have := HLT.out; omega, by omega, ?_, ?_, R5.out.2⟩
                · have := e.out; unfold Hid; rw [show k + (j + 1) + 2 = k + j + 3 by omega, this]; exact hl2.out
                · have := e.out; rw [show k + (j + 1) + 2 = k + j + 3 by omega, this]; exact R5.out.1
              case measure => simp [intOf] <;> omega
            | false =>
              have HQ2 : Hid (eq x' p' = false) := hq2
              clear hq2
              have e : Hid (SortL.compactL eq (xs.take (k + j + 3)) = SortL.compactL eq (xs.take (k + j + 2)) ++ [x']) := by
                unfold Hid
                rw [hct2.out, HQ2.out]
                rfl
              obtain ⟨t, ht⟩ : ∃ t, xs[kw]? = some t := ⟨_, List.getElem?_eq_getElem (by have := H.out.2.2.2.2.2; have := HLT.out.2.2; omega)⟩
              have ht2 : Hid (xs.drop kw = t :: xs.drop (kw + 1)) := by unfold Hid; rw [List.drop_eq_getElem_cons (List.getElem?_eq_some_iff.1 ht).1, (List.getElem?_eq_some_iff.1 ht).2]
              have c0 := R5.out.1.cell (j := kw) (x := t) (by rw [List.getElem?_append_right (by rw [hl2.out]; exact Nat.le_refl _), hl2.out, Nat.sub_self, ht2.out]; rfl)
              have c1 := R5.out.1.cell (j := k + j + 2) (x := x') (by
                rw [List.getElem?_append_right (by rw [hl2.out]; omega), hl2.out, List.getElem?_drop]
                have e : kw + (k + j + 2 - kw) = k + j + 2 := by omega
                rw [e]; exact R4.out.2.2.2)
              have c2 : w3.cell? ⟨g, off + (k + 1) + (j + 1), none⟩ = some (.pointer (some ⟨x', 0, none⟩)) := by
                have e : off + (k + 1) + (j + 1) = off + (k + j + 2) := by omega
                rw [e]; exact c1
              have f0 := R5.out.1.ice (off + kw)
              have gl := R5.out.1.lt
              have hR6 : Hid (RowAt (w3.setCell ⟨g, off + kw, none⟩ (pv x')) g off (SortL.compactL eq (xs.take (k + j + 3)) ++ xs.drop (kw + 1))) := by
                have q := R5.out.1.set (j := kw) x' (by rw [List.length_append, hl2.out, ht2.out]; simp)
                rw [List.set_append_right _ _ (by rw [hl2.out]; exact Nat.le_refl _), hl2.out, Nat.sub_self, ht2.out, List.set_cons_zero] at q
                unfold Hid
                rw [e.out, List.append_assoc]
                exact q
              have hI6 : Hid (I (w3.setCell ⟨g, off + kw, none⟩ (pv x'))) := H.out.2.1.set _ _ _ R5.out.2
              have l4 : (kw : Int) < n := by have := HLT.out.2.2; omega
              clear c1 ht
              have hji := HLT.out.2.1
              have t1 : ((j : Int) + 1).toNat = j + 1 := by omega
              have l1 : (0 : Int) ≤ (j : Int) + 1 := by omega
              go_wp2_with fail
              go_roundw
              case rel =>
                refine ⟨kw + 1, j + 1, by simp, by simp, by have := HLT.out; omega, by omega, ?_, ?_, hI6.out⟩
                · have := e.out; unfold Hid; rw [show k + (j + 1) + 2 = k + j + 3 by omega, this, List.length_append, hl2.out]; rfl
                · rw [show k + (j + 1) + 2 = k + j + 3 by omega]; exact hR6.out
              case measure => simp [intOf] <;> omega
          · have hji : ¬ (j : Int) + 1 < ((n - (k + 1) : Nat) : Int) := by omega
            have hkn : kw < n := by omega
            have hkn2 : (kw : Int) ≤ n := by omega
            have hkn3 : (kw : Int) < n := by omega
            have hkc : (kw : Int) ≤ cap := by omega
            have hend : Hid (SortL.compactL eq (xs.take (k + j + 2)) = SortL.compactL eq xs) := by
              unfold Hid
              rw [List.take_of_length_le (by have := H.out.2.2.2.2.2; omega)]
            obtain ⟨cs, hcs, hcv⟩ := hrow
            have hsz : ∀ t, t < n - kw → off + (kw + t) < cs.size := fun t ht => by
              have h1 : kw + t < (SortL.compactL eq (xs.take (k + j + 2)) ++ xs.drop kw).length := by
                rw [List.length_append, hl2.out, List.length_drop]
                have := H.out.2.2.2.2.2
                omega
              have := hcv (kw + t) _ (List.getElem?_eq_getElem h1)
              exact (Array.getElem?_eq_some_iff.1 this).1
            have hcl : ∀ ty, (Builtin.clear_ #[55] ty #[.slice (some ⟨g, off + kw, none⟩) (n - kw) (cap - kw)]).run Tryz.prog wr = .ok (.tuple #[]) (wr.setCells g (off + kw) (List.replicate (n - kw) (.pointer none))) :=
              fun ty => Lib.run_clear_slice wr _ _ ty _ Tryz.underlying55 (fun _ => by kernel_rfl) rfl rfl g (off + kw) _ _ (by omega) (fun t ht => by
                rw [cell_of hcs, Array.getElem?_eq_getElem (by have := hsz t ht; omega)]; rfl) (fun t ht => ice_of hcs _)
            obtain ⟨cs2, hb1, hb2, hb3⟩ := setCells_block (i := off + kw) (List.replicate (n - kw) (.pointer none)) hcs
            have HE := Lib.hid (And.intro hb1 (And.intro hb2 (And.intro hb3 hcv)))
            clear hIw hcs hcv hsz hb1 hb2 hb3 hlt
            go_wp2_with fail
            refine bodyPost_ret (v := .slice (some ⟨g, off, none⟩) kw cap) (by simp [results, Tryz.results67, go_sem]) rfl ?_
            refine ⟨by rw [← hend.out, hl2.out], ⟨cs2, HE.out.1, fun t y hy => ?_⟩, H.out.2.1.setCells _ _ _ R3.out.2⟩
            rw [← hend.out] at hy
            have ht := (List.getElem?_eq_some_iff.1 hy).1
            rw [hl2.out] at ht
            rw [HE.out.2.2.1 (off + t) (by omega)]
            exact HE.out.2.2.2 t y (by rw [List.getElem?_append_left (by rw [hl2.out]; exact ht)]; exact hy)
    · have hki : ¬ (k : Int) + 1 < n := by omega
      clear hrow hIw
      go_wp2_with fail
      have e : SortL.compactL eq xs = xs := by
        have q := hh.out
        rw [List.take_of_length_le (by have := H.out.2.2.2.2.2; omega)] at q
        exact q
      rw [e]
      refine bodyPost_ret (v := .slice (some ⟨g, off, none⟩) n cap) (by simp [results, Tryz.results67, go_sem]) rfl ?_
      exact ⟨by rw [H.out.2.2.2.2.2], R.out.1, R.out.2⟩

end Go.Proofs.YtbghpkoimbmijaaGreatDoor

/- Texts in their order; walks: sorted of a row of types, by the text that by says of each. -/
namespace Go.Proofs.YtbghpkoimbmijaaGreatDoor
open Go.RowKit
set_option linter.unusedSimpArgs false

theorem bl_asymm : ∀ a b : List UInt8, Op.bytesLess a b = true → Op.bytesLess b a = false
  | _, [], h => by cases ‹List UInt8› <;> simp [Op.bytesLess] at h
  | [], b :: y, _ => by simp [Op.bytesLess]
  | a :: x, b :: y, h => by
    have ih := bl_asymm x y
    simp only [Op.bytesLess, Bool.or_eq_true, Bool.and_eq_true, decide_eq_true_eq, beq_iff_eq, Bool.or_eq_false_iff, decide_eq_false_iff_not, Bool.and_eq_false_imp] at h ⊢
    rcases h with h | ⟨rfl, h⟩
    · rw [UInt8.lt_iff_toNat_lt] at h ⊢
      refine ⟨by omega, fun e => ?_⟩
      subst e
      omega
    · refine ⟨?_, fun _ => ih h⟩
      rw [UInt8.lt_iff_toNat_lt]
      omega
theorem bl_neg : ∀ a b c : List UInt8, Op.bytesLess a c = true → Op.bytesLess a b = true ∨ Op.bytesLess b c = true
  | _, _, [], h => by cases ‹List UInt8› <;> simp [Op.bytesLess] at h
  | [], [], z :: c, _ => .inr (by simp [Op.bytesLess])
  | [], y :: b, z :: c, _ => .inl (by simp [Op.bytesLess])
  | x :: a, [], z :: c, _ => .inr (by simp [Op.bytesLess])
  | x :: a, y :: b, z :: c, h => by
    have ih := bl_neg a b c
    simp only [Op.bytesLess, Bool.or_eq_true, Bool.and_eq_true, decide_eq_true_eq, beq_iff_eq] at h ⊢
    rcases h with h | ⟨rfl, h⟩
    · rw [UInt8.lt_iff_toNat_lt] at h
      rcases Nat.lt_trichotomy x.toNat y.toNat with q | q | q
      · exact .inl (.inl (UInt8.lt_iff_toNat_lt.2 q))
      · exact .inr (.inl (UInt8.lt_iff_toNat_lt.2 (by omega)))
      · exact .inr (.inl (UInt8.lt_iff_toNat_lt.2 (by omega)))
    · rcases Nat.lt_trichotomy x.toNat y.toNat with q | q | q
      · exact .inl (.inl (UInt8.lt_iff_toNat_lt.2 q))
      · have e : x = y := UInt8.toNat_inj.1 q
        rcases ih h with k | k
        · exact .inl (.inr ⟨e, k⟩)
        · exact .inr (.inr ⟨e.symm, k⟩)
      · exact .inr (.inl (UInt8.lt_iff_toNat_lt.2 q))
theorem bl_tri : ∀ a b : List UInt8, Op.bytesLess a b = false → Op.bytesLess b a = false → a = b
  | [], [], _, _ => rfl
  | [], b :: y, h, _ => by simp [Op.bytesLess] at h
  | a :: x, [], _, h => by simp [Op.bytesLess] at h
  | a :: x, b :: y, h1, h2 => by
    have ih := bl_tri x y
    simp only [Op.bytesLess, Bool.or_eq_false_iff, decide_eq_false_iff_not, Bool.and_eq_false_imp, beq_iff_eq] at h1 h2
    rw [UInt8.lt_iff_toNat_lt] at h1 h2
    have e : a = b := UInt8.toNat_inj.1 (by omega)
    subst e
    rw [ih (h1.2 rfl) (h2.2 rfl)]

theorem toList_inj {a b : ByteArray} (h : a.toList = b.toList) : a = b := by
  rw [ByteArray.toList_eq, ByteArray.toList_eq] at h
  cases a; cases b
  simp only [ByteArray.mk.injEq]
  exact Array.toList_inj.1 h

abbrev ltS (a b : ByteArray) : Bool := Op.bytesLess a.toList b.toList
theorem ltS_tot : SortL.Tot ltS where
  asymm _ _ h := bl_asymm _ _ h
  neg _ b _ h := bl_neg _ b.toList _ h
  tri _ _ h1 h2 := toList_inj (bl_tri _ _ h1 h2)

theorem cmpS_lt (a b : ByteArray) : decide (cmpS a b < 0) = ltS a b := by
  unfold cmpS ltS
  cases h : Op.bytesLess a.toList b.toList with
  | true => rfl
  | false =>
    by_cases h2 : (a.toList == b.toList) = true
    · simp [h2]
    · simp [h2]
abbrev cfK (key : Nat → ByteArray) (x y : Nat) : Int := cmpS (key x) (key y)
theorem cfK_lt (key : Nat → ByteArray) : ltC (cfK key) = fun x y => ltS (key x) (key y) := by
  funext x y
  exact cmpS_lt _ _
theorem cfK_swo (key : Nat → ByteArray) : SortL.Swo (ltC (cfK key)) := by
  rw [cfK_lt]
  exact ⟨fun a b h => ltS_tot.asymm _ _ h, fun a b c h => ltS_tot.neg _ _ _ h⟩
theorem eqK (a b : ByteArray) : (a.toList == b.toList) = decide (a = b) := by
  by_cases h : a = b
  · subst h; simp
  · rw [decide_eq_false h]
    simp only [beq_eq_false_iff_ne, ne_eq]
    exact fun e => h (toList_inj e)

/-- what sorts a row of types: each says its key; what stands besides goes on standing -/
structure Keys (I : World → Prop) (g b : Nat) (S : Nat → Prop) (key : Nat → ByteArray) : Prop extends Inv g I where
  up : ∀ W W', I W → Up W W' → I W'
  box : ∀ W, I W → W.cell? ⟨b, 0, none⟩ = some (.func (.func byF) #[] #[])
  lt : ∀ W, I W → g < W.heap.size
  by_ : ∀ (W : World) (x : Nat), I W → S x → Calls Tryz.prog 50 #[.pointer (some ⟨x, 0, none⟩)] W fun e W' => e = .returned (.string (key x)) ∧ I W' ∧ W'.heap[g]? = W.heap[g]?

theorem Keys.of {I : World → Prop} {g b : Nat} {S : Nat → Prop} {key : Nat → ByteArray} (h : Keys I g b S key) {cs : Array Value} (i : RowW I g cs) {x : Nat} (hx : S x) :
    Calls Tryz.prog 50 #[.pointer (some ⟨x, 0, none⟩)] i.W fun e W' => e = .returned (.string (key x)) ∧ ∃ j : RowW I g cs, W' = j.W :=
  (h.by_ i.W x i.inv hx).mono fun _ W' ⟨h1, h2, h3⟩ => ⟨h1, ⟨W', h2, h3.trans i.row⟩, rfl⟩
theorem Keys.cmp {I : World → Prop} {g b : Nat} {S : Nat → Prop} {key : Nat → ByteArray} (h : Keys I g b S key) {cs : Array Value} (i : RowW I g cs) (s t : ByteArray) :
    Calls Tryz.prog 60 #[.string s, .string t] i.W fun e W' => e = .returned (.int .i64 (cmpS s t)) ∧ ∃ j : RowW I g cs, W' = j.W :=
  (Compare_any s t i.W).mono fun _ W' ⟨h1, h2⟩ => ⟨h1, ⟨W', h.up _ _ i.inv h2, h2.get i.row⟩, rfl⟩

/-- a row is there, or nothing is asked of it -/
theorem heap_cells {w : World} {g : Nat} (hg : g < w.heap.size) : ∃ o, w.heap[g]? = some o := ⟨_, Array.getElem?_eq_getElem hg⟩

set_option maxRecDepth 100000 in
set_option maxHeartbeats 3200000 in
theorem less_any {I : World → Prop} {g b : Nat} {S : Nat → Prop} {key : Nat → ByteArray} (h : Keys I g b S key) (hr : ∀ W, I W → ∃ cs, W.heap[g]? = some (.cells cs TpT (0, 0))) : Cmp I g b S (cfK key) where
  run W x y hi hx hy := by
    obtain ⟨cs, hcs⟩ := hr W hi
    have b0 := h.box W hi
    have bl := cell_lt3 b0
    have HC := Lib.hid hcs
    have hId := h.drew _ hi
    have q0 : ∀ i : RowW I g cs, i.W.cell? ⟨b, 0, none⟩ = some (.func (.func byF) #[] #[]) := fun i => h.box _ i.inv
    clear b0 hi
    go_enter Tryz.func66, Tryz.ntmps66
    go_wp2_with fail
    haveI : Nonempty (RowW I g cs) := ⟨⟨_, hId, hcs⟩⟩
    refine wp_region_row I g cs (by kernel_rfl) (by kernel_rfl) hId hcs ?_
    repeat (go_big_quiet_step ((first | (go_at_call 50; rename_i i; first | exact h.of i hx | exact h.of i hy) | (go_at_call 60; rename_i i; exact h.cmp i _ _))))
    refine wpQuiet_nil ?_
    intro w2 hw'
    obtain ⟨i2, hw''⟩ := hw'
    have hi2 : I w2 := hw'' ▸ i2.inv
    have hr2 : w2.heap[g]? = some (.cells cs TpT (0, 0)) := hw'' ▸ i2.row
    clear hw''
    have R2 := Lib.hid (And.intro hi2 hr2)
    clear hcs hId q0 hr2 hi2 i2
    go_wp2_with fail
    go_ret
    exact ⟨rfl, R2.out.1, R2.out.2.trans HC.out.symm⟩

set_option maxRecDepth 100000 in
set_option maxHeartbeats 3200000 in
theorem same_any {I : World → Prop} {g b : Nat} {S : Nat → Prop} {key : Nat → ByteArray} (h : Keys I g b S key) (hr : ∀ W, I W → ∃ cs, W.heap[g]? = some (.cells cs TpT (0, 0))) : EqC I g b S (fun x y => decide (key x = key y)) where
  run W x y hi hx hy := by
    obtain ⟨cs, hcs⟩ := hr W hi
    have b0 := h.box W hi
    have bl := cell_lt3 b0
    have HC := Lib.hid hcs
    have hId := h.drew _ hi
    have q0 : ∀ i : RowW I g cs, i.W.cell? ⟨b, 0, none⟩ = some (.func (.func byF) #[] #[]) := fun i => h.box _ i.inv
    clear b0 hi
    show Calls Tryz.prog 68 #[.pointer (some ⟨x, 0, none⟩), .pointer (some ⟨y, 0, none⟩), .pointer (some ⟨b, 0, none⟩)] W fun e W' => e = .returned (.bool (decide (key x = key y))) ∧ I W' ∧ W'.heap[g]? = W.heap[g]?
    rw [← eqK]
    go_enter Tryz.func68, Tryz.ntmps68
    go_wp2_with fail
    haveI : Nonempty (RowW I g cs) := ⟨⟨_, hId, hcs⟩⟩
    refine wp_region_row I g cs (by kernel_rfl) (by kernel_rfl) hId hcs ?_
    repeat (go_big_quiet_step ((first | (go_at_call 50; rename_i i; first | exact h.of i hx | exact h.of i hy))))
    refine wpQuiet_nil ?_
    intro w2 hw'
    obtain ⟨i2, hw''⟩ := hw'
    have hi2 : I w2 := hw'' ▸ i2.inv
    have hr2 : w2.heap[g]? = some (.cells cs TpT (0, 0)) := hw'' ▸ i2.row
    clear hw''
    have R2 := Lib.hid (And.intro hi2 hr2)
    clear hcs hId q0 hr2 hi2 i2
    go_wp2_with fail
    go_ret
    exact ⟨rfl, R2.out.1, R2.out.2.trans HC.out.symm⟩

theorem SortStable_any {I : World → Prop} {g off n cap b : Nat} {S : Nat → Prop} {key : Nat → ByteArray} (h : Keys I g b S key) (hr : ∀ W, I W → ∃ cs, W.heap[g]? = some (.cells cs TpT (0, 0))) (hb : n ≤ 1000000) (hcap : n ≤ cap) (xs : List Nat) (w : World) (hS : ∀ z ∈ xs, S z) (hrow : RowAt w g off xs) (hn : xs.length = n) (hi : I w) :
    Calls Tryz.prog 65 #[.slice (some ⟨g, off, none⟩) n cap, cmpV b] w (Merged I g off (cfK key) [] xs []) := by
  have H := Lib.hid (stable_any I g off n cap b S (cfK key) (cfK_swo key) h.toInv (less_any h hr) hb hcap xs w hS hrow hn hi)
  clear hS hrow hn hi h hr
  go_enter Tryz.func65, Tryz.ntmps65
  go_wp2_with fail
  refine H.out.mono ?_
  rintro e w2 ⟨rfl, hz, hi2⟩
  have T := Lib.hid (And.intro hz hi2)
  clear hz hi2
  go_wp2_with fail
  go_end0
  exact ⟨rfl, T.out.1, T.out.2⟩

/-- what sorted leaves of a row: keys that rise, the same ones -/
def SortedAt (I : World → Prop) (g off cap : Nat) (key : Nat → ByteArray) (xs : List Nat) (e : Ending) (w' : World) : Prop :=
  ∃ zs : List Nat, e = .returned (.slice (some ⟨g, off, none⟩) zs.length cap) ∧ RowAt w' g off zs ∧ I w' ∧ zs.length ≤ xs.length ∧ zs.Pairwise (fun x y => ltS (key x) (key y) = true) ∧ (∀ z ∈ zs, z ∈ xs) ∧ ∀ x ∈ xs, ∃ z ∈ zs, key z = key x

theorem keepL_length {eq : Nat → Nat → Bool} : ∀ (l : List Nat) (p : Nat), (SortL.keepL eq p l).length ≤ l.length
  | [], _ => Nat.le_refl _
  | y :: r, p => by
    rw [SortL.keepL]
    have := keepL_length (eq := eq) r y
    split <;> simp <;> omega
theorem compactL_length {eq : Nat → Nat → Bool} (l : List Nat) : (SortL.compactL eq l).length ≤ l.length := by
  cases l with
  | nil => exact Nat.le_refl _
  | cons x r =>
    have := keepL_length (eq := eq) r x
    simp only [SortL.compactL, List.length_cons]
    omega

set_option maxHeartbeats 3200000 in
theorem sorted_any {I : World → Prop} {g off n cap : Nat} {S : Nat → Prop} {key : Nat → ByteArray} (w : World) (h : Keys I g w.heap.size S key) (hr : ∀ W, I W → ∃ cs, W.heap[g]? = some (.cells cs TpT (0, 0))) (hb : n ≤ 1000000) (hcap : n ≤ cap) (xs : List Nat) (hS : ∀ z ∈ xs, S z) (hrow : RowAt w g off xs) (hn : xs.length = n) (hn0 : 0 < n) (hi : I (w.alloc (.cells #[.func (.func byF) #[] #[]] FnT))) :
    Calls Tryz.prog 48 #[.slice (some ⟨g, off, none⟩) n cap, .func (.func byF) #[] #[]] w (SortedAt I g off cap key xs) := by
  have hrow2 : RowAt (w.alloc (.cells #[.func (.func byF) #[] #[]] FnT)) g off xs := hrow.keep (alloc_old _ _ _ hrow.lt)
  have H1 := Lib.hid (SortStable_any h hr hb hcap xs _ hS hrow2 hn hi)
  have H := Lib.hid (And.intro h (And.intro hr (And.intro hS hn)))
  clear h hr hS hrow hn hi hrow2
  go_enter Tryz.func48, Tryz.ntmps48
  go_wp2_with fail
  refine H1.out.mono ?_
  rintro e w2 ⟨rfl, ⟨z, hz1, hz2, hz3⟩, hi2⟩
  have T := Lib.hid (And.intro hz1 (And.intro hz2 (And.intro hz3 hi2)))
  clear hz1 hz2 hz3 hi2
  go_wp2_with fail
  refine (Compact_any I g off n cap w.heap.size S (fun x y => decide (key x = key y)) H.out.1.toInv (same_any H.out.1 H.out.2.1) hb hcap z _ (fun t ht => H.out.2.2.1 t (T.out.1.mem_iff.1 ht)) (by have := T.out.2.2.1; simpa using this) (by have := T.out.1.length_eq; have := H.out.2.2.2; omega) hn0 T.out.2.2.2).mono ?_
  rintro e w3 ⟨rfl, hr3, hi3⟩
  have T3 := Lib.hid (And.intro hr3 hi3)
  clear hr3 hi3
  obtain ⟨zs, hzs⟩ : ∃ zs, Hid (SortL.compactL (fun x y => decide (key x = key y)) z = zs) := ⟨_, rfl⟩
  rw [hzs.out] at T3 ⊢
  go_wp2_with fail
  refine bodyPost_ret (v := .slice (some ⟨g, off, none⟩) zs.length cap) (by simp [results, Tryz.results48, go_sem]) rfl ?_
  have hs := T.out.2.1
  rw [cfK_lt] at hs
  obtain ⟨c1, c2⟩ := SortL.compactL_strict (key := key) ltS_tot hs
  rw [hzs.out] at c1 c2
  refine ⟨zs, rfl, T3.out.1, T3.out.2, ?_, c1, fun t ht => ?_, fun x hx => c2 x (T.out.1.mem_iff.2 hx)⟩
  · rw [← hzs.out]
    have := compactL_length (eq := fun x y => decide (key x = key y)) z
    have := T.out.1.length_eq
    omega
  · rw [← hzs.out] at ht
    exact T.out.1.mem_iff.1 (SortL.compactL_mem ht)

end Go.Proofs.YtbghpkoimbmijaaGreatDoor

/- Text: a rune at the head of bytes, all runes of bytes: the plain law, and the two ways to read one. -/
namespace Go.Proofs.YtbghpkoimbmijaaGreatDoor

/-- bytes in memory -/
def BytesAt (w : World) (sa : Option Addr) (l : List UInt8) : Prop := l.length ≤ 1000000000 ∧ ∀ k, k < l.length → ∃ b off, sa = some ⟨b, off, none⟩ ∧ w.cell? ⟨b, off + k, none⟩ = some (.int .u8 ((l.getD k 0).toNat : Int))
theorem cell_lt5 {w : World} {b o : Nat} {v : Value} (h : w.cell? ⟨b, o, none⟩ = some v) : b < w.heap.size := by
  rcases Nat.lt_or_ge b w.heap.size with h' | h'
  · exact h'
  · simp [World.cell?, Array.getElem?_eq_none h'] at h
theorem BytesAt.up {w w' : World} {sa : Option Addr} {l : List UInt8} (h : BytesAt w sa l) (k : Up w w') : BytesAt w' sa l :=
  ⟨h.1, fun i hi => by
    obtain ⟨b, off, h1, h2⟩ := h.2 i hi
    exact ⟨b, off, h1, (k.cells b _ (cell_lt5 h2)).trans h2⟩⟩

/-- a byte, as the program sees it -/
theorem BytesAt.byte {w : World} {sa : Option Addr} {l : List UInt8} (h : BytesAt w sa l) (k : Nat) (hk : k < l.length) : ∃ (b off : Nat) (X : Int), sa = some ⟨b, off, none⟩ ∧ w.cell? ⟨b, off + k, none⟩ = some (.int .u8 X) ∧ X = ((l.getD k 0).toNat : Int) ∧ 0 ≤ X ∧ X ≤ 255 := by
  obtain ⟨b, off, h1, h2⟩ := h.2 k hk
  exact ⟨b, off, _, h1, h2, rfl, by omega, by have := (l.getD k 0).toNat_lt; omega⟩


/-- the bytes behind a first one, so many of them -/
def runS : Nat → Nat → List UInt8 → Option Nat
  | v, 0, _ => some v
  | _, _ + 1, [] => none
  | v, k + 1, a :: r => if 128 ≤ a.toNat ∧ a.toNat ≤ 191 then runS (v * 64 + (a.toNat - 128)) k r else none

def badS : Nat × Nat := (65533, 1)

/-- what a first byte asks for: how many, its digits, the least -/
def wideS (x : Nat) : Nat × Nat × Nat :=
  if x < 128 then (1, x, 0)
  else if 192 ≤ x ∧ x ≤ 223 then (2, x - 192, 128)
  else if 224 ≤ x ∧ x ≤ 239 then (3, x - 224, 2048)
  else if 240 ≤ x ∧ x ≤ 247 then (4, x - 240, 65536)
  else (0, 0, 0)

/-- a rune and how many bytes it has -/
def decS : List UInt8 → Nat × Nat
  | [] => (0, 0)
  | x :: r =>
    let q := wideS x.toNat
    if q.1 = 0 then badS
    else match runS q.2.1 (q.1 - 1) r with
      | none => badS
      | some v => if v < q.2.2 ∨ 1114111 < v ∨ (55296 ≤ v ∧ v ≤ 57343) then badS else (v, q.1)

theorem wideS_le (x : Nat) : (wideS x).1 ≤ 4 := by unfold wideS; repeat' split
                                                   all_goals simp
theorem runS_take (k : Nat) : ∀ (v m : Nat) (l : List UInt8), k ≤ m → runS v k (l.take m) = runS v k l := by
  induction k with
  | zero => intro v m l _; cases l <;> simp [runS]
  | succ k ih =>
    intro v m l h
    cases l with
    | nil => simp
    | cons a r =>
      obtain ⟨m', rfl⟩ : ∃ m', m = m' + 1 := ⟨m - 1, by omega⟩
      simp only [List.take_succ_cons, runS]
      rw [ih _ m' r (by omega)]
theorem decS_take (l : List UInt8) : decS (l.take 4) = decS l := by
  cases l with
  | nil => rfl
  | cons x r =>
    rw [List.take_succ_cons]
    unfold decS
    dsimp only
    rw [runS_take _ _ 3 r (by have := wideS_le x.toNat; omega)]

theorem decS_size (x : UInt8) (r : List UInt8) : 1 ≤ (decS (x :: r)).2 ∧ (decS (x :: r)).2 ≤ (x :: r).length := by
  have hr : ∀ (k v u : Nat) (l : List UInt8), runS v k l = some u → k ≤ l.length := by
    intro k
    induction k with
    | zero => intros; omega
    | succ k ih =>
      intro v u l h
      cases l with
      | nil => simp [runS] at h
      | cons a t =>
        simp only [runS] at h
        split at h
        · have := ih _ _ _ h; simp; omega
        · cases h
  unfold decS
  dsimp only
  split
  · simp [badS]
  · next hq =>
    split
    · simp [badS]
    · next v hv =>
      have h1 := hr _ _ _ _ hv
      split
      · simp [badS]
      · simp only [List.length_cons]; omega

def decOf (n ls : Nat) : Option Nat → Nat × Nat
  | none => badS
  | some v => if v < ls ∨ 1114111 < v ∨ (55296 ≤ v ∧ v ≤ 57343) then badS else (v, n)
theorem decS_wide (l : List UInt8) (a n v ls : Nat) (h : a < l.length) (hw : wideS (l.getD a 0).toNat = (n, v, ls)) (hn : n ≠ 0) : decS (l.drop a) = decOf n ls (runS v (n - 1) (l.drop (a + 1))) := by
  have e : l.drop a = l.getD a 0 :: l.drop (a + 1) := by rw [List.drop_eq_getElem_cons h]; simp [List.getD, List.getElem?_eq_getElem h]
  rw [e]
  unfold decS
  dsimp only
  rw [hw]
  dsimp only
  rw [if_neg hn]
  rfl
theorem decS_none (l : List UInt8) (a v ls : Nat) (h : a < l.length) (hw : wideS (l.getD a 0).toNat = (0, v, ls)) : decS (l.drop a) = badS := by
  have e : l.drop a = l.getD a 0 :: l.drop (a + 1) := by rw [List.drop_eq_getElem_cons h]; simp [List.getD, List.getElem?_eq_getElem h]
  rw [e]
  unfold decS
  dsimp only
  rw [hw]
  rfl
theorem runS_step (v m k : Nat) (l : List UInt8) (h : k < l.length) (h1 : 128 ≤ (l.getD k 0).toNat) (h2 : (l.getD k 0).toNat ≤ 191) : runS v (m + 1) (l.drop k) = runS (v * 64 + ((l.getD k 0).toNat - 128)) m (l.drop (k + 1)) := by
  have e : l.drop k = l.getD k 0 :: l.drop (k + 1) := by rw [List.drop_eq_getElem_cons h]; simp [List.getD, List.getElem?_eq_getElem h]
  rw [e]
  simp only [runS]
  rw [if_pos ⟨h1, h2⟩]
theorem runS_stop (v m k : Nat) (l : List UInt8) (h : ¬ (k < l.length ∧ 128 ≤ (l.getD k 0).toNat ∧ (l.getD k 0).toNat ≤ 191)) : runS v (m + 1) (l.drop k) = none := by
  by_cases hk : k < l.length
  · have e : l.drop k = l.getD k 0 :: l.drop (k + 1) := by rw [List.drop_eq_getElem_cons hk]; simp [List.getD, List.getElem?_eq_getElem hk]
    rw [e]
    simp only [runS]
    rw [if_neg (fun h' => h ⟨hk, h'⟩)]
  · rw [List.drop_eq_nil_iff.2 (by omega)]
    rfl

/-- all runes: the place of each, the rune, how many bytes -/
def runesS : Nat → Nat → List UInt8 → List (Nat × Nat)
  | 0, _, _ => []
  | _ + 1, _, [] => []
  | f + 1, at_, x :: r => (at_, (decS (x :: r)).1) :: runesS f (at_ + (decS (x :: r)).2) ((x :: r).drop (decS (x :: r)).2)

def runesOf (l : List UInt8) : List (Nat × Nat) := runesS l.length 0 l

theorem runesS_enough : ∀ (f g a : Nat) (l : List UInt8), l.length ≤ f → l.length ≤ g → runesS f a l = runesS g a l := by
  intro f
  induction f with
  | zero =>
    intro g a l h1 _
    obtain rfl : l = [] := List.eq_nil_of_length_eq_zero (by omega)
    cases g <;> rfl
  | succ f ih =>
    intro g a l h1 h2
    cases l with
    | nil => cases g <;> rfl
    | cons x r =>
      obtain ⟨g', rfl⟩ : ∃ g', g = g' + 1 := ⟨g - 1, by simp at h2; omega⟩
      have hs := decS_size x r
      simp only [runesS]
      rw [ih g' _ _ (by rw [List.length_drop]; simp at h1 hs ⊢; omega) (by rw [List.length_drop]; simp at h2 hs ⊢; omega)]

/-- the rest of the runes from a place -/
def restS (l : List UInt8) (a : Nat) : List (Nat × Nat) := runesS l.length a (l.drop a)
theorem restS_at (l : List UInt8) (a : Nat) (h : a < l.length) : restS l a = (a, (decS (l.drop a)).1) :: restS l (a + (decS (l.drop a)).2) ∧ 1 ≤ (decS (l.drop a)).2 ∧ a + (decS (l.drop a)).2 ≤ l.length := by
  obtain ⟨x, r, e⟩ : ∃ x r, l.drop a = x :: r := by
    cases hd : l.drop a with
    | nil => rw [List.drop_eq_nil_iff] at hd; omega
    | cons x r => exact ⟨x, r, rfl⟩
  have hl : (l.drop a).length = l.length - a := List.length_drop
  have hs := decS_size x r
  rw [e] at hl
  obtain ⟨f, hf⟩ : ∃ f, l.length = f + 1 := ⟨l.length - 1, by omega⟩
  refine ⟨?_, by rw [e]; exact hs.1, by rw [e]; omega⟩
  unfold restS
  rw [e, hf]
  simp only [runesS]
  congr 1
  rw [← List.drop_drop, e]
  exact runesS_enough _ _ _ _ (by rw [List.length_drop]; omega) (by rw [List.length_drop]; omega)
theorem restS_end (l : List UInt8) (a : Nat) (h : l.length ≤ a) : restS l a = [] := by
  unfold restS
  rw [List.drop_eq_nil_iff.2 h]
  cases l.length <;> rfl

end Go.Proofs.YtbghpkoimbmijaaGreatDoor

/- What a text in quotes is: plain definitions. -/
namespace Go.Proofs.YtbghpkoimbmijaaGreatDoor
open Go.RowKit

def hexS (u : Nat) : ByteArray := if u = 0 then ⟨#[48]⟩ else if u = 1 then ⟨#[49]⟩ else if u = 2 then ⟨#[50]⟩ else if u = 3 then ⟨#[51]⟩ else if u = 4 then ⟨#[52]⟩ else if u = 5 then ⟨#[53]⟩ else if u = 6 then ⟨#[54]⟩ else if u = 7 then ⟨#[55]⟩ else if u = 8 then ⟨#[56]⟩ else if u = 9 then ⟨#[57]⟩ else if u = 10 then ⟨#[97]⟩ else if u = 11 then ⟨#[98]⟩ else if u = 12 then ⟨#[99]⟩ else if u = 13 then ⟨#[100]⟩ else if u = 14 then ⟨#[101]⟩ else if u = 15 then ⟨#[102]⟩ else if u = 16 then ⟨#[49, 48]⟩ else if u = 17 then ⟨#[49, 49]⟩ else if u = 18 then ⟨#[49, 50]⟩ else if u = 19 then ⟨#[49, 51]⟩ else if u = 20 then ⟨#[49, 52]⟩ else if u = 21 then ⟨#[49, 53]⟩ else if u = 22 then ⟨#[49, 54]⟩ else if u = 23 then ⟨#[49, 55]⟩ else if u = 24 then ⟨#[49, 56]⟩ else if u = 25 then ⟨#[49, 57]⟩ else if u = 26 then ⟨#[49, 97]⟩ else if u = 27 then ⟨#[49, 98]⟩ else if u = 28 then ⟨#[49, 99]⟩ else if u = 29 then ⟨#[49, 100]⟩ else if u = 30 then ⟨#[49, 101]⟩ else if u = 31 then ⟨#[49, 102]⟩ else if u = 127 then ⟨#[55, 102]⟩ else ⟨#[]⟩

/-- a rune within quotes -/
def quoteR (r : Nat) : ByteArray :=
  if r = 92 ∨ r = 34 then ⟨#[92]⟩ ++ Utf8.encode r
  else if r = 10 then ⟨#[92, 110]⟩
  else if r = 13 then ⟨#[92, 114]⟩
  else if r = 9 then ⟨#[92, 116]⟩
  else if r < 32 ∨ r = 127 then ⟨#[92, 117, 123]⟩ ++ hexS r ++ ⟨#[125]⟩
  else Utf8.encode r
def quoteL (acc : ByteArray) (l : List (Nat × Nat)) : ByteArray := l.foldl (fun a x => a ++ quoteR x.2) acc
def quoteS (s : ByteArray) : ByteArray := quoteL ⟨#[34]⟩ (runesOf s.data.toList) ++ ⟨#[34]⟩

end Go.Proofs.YtbghpkoimbmijaaGreatDoor
