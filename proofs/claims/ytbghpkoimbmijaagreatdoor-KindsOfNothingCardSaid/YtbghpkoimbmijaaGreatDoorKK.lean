import Derived.Test.YtbghpkoimbmijaaGreatDoorKI
import Derived.Lib.SlicesDelete
/- Walks: what goes out of a union; slices.IndexFunc, slices.DeleteFunc at it. -/
namespace Go.Proofs.YtbghpkoimbmijaaGreatDoor
open Go.RowKit
set_option linter.unusedSimpArgs false

/-- does a part go? f: how often each kind is there -/
def goesK (f : Int → Nat) (k : Int) : Bool := if k = 3 then true else if k = 11 then decide (0 < f 7) else if k = 12 then decide (0 < f 8) else false

set_option maxHeartbeats 1600000 in
theorem goes_any (k : Int) (s : ByteArray) (f : Int → Nat) (x m3 n3 n4 : Nat) (W : World) (hx : Item W x k s) (b3 : W.heap[n3]? = some (.cells #[.map (some m3)] MiT (0, 0))) (c3 : CMap W m3 f) (hk : (k == 20) = false) :
    Calls Tryz.prog 47 #[.pointer (some ⟨x, 0, none⟩), .pointer (some ⟨n3, 0, none⟩), .pointer (some ⟨n4, 0, none⟩)] W fun e W' => e = .returned (.bool (goesK f k)) ∧ Up W W' := by
  obtain ⟨cs, hc, hc0, _⟩ := hx
  have y0 := (cell_of hc 0).trans hc0
  have yl := lt_of_heap hc
  have n0 := cell_of b3 0
  have nl := lt_of_heap b3
  simp only [List.getElem?_toArray, List.getElem?_cons_zero] at n0
  have h7 := c3.look 7
  have h8 := c3.look 8
  have HC := Lib.hid (And.intro hc (And.intro b3 c3))
  clear hc hc0 b3 c3
  by_cases e3 : k = 3
  · subst e3
    go_enter Tryz.func47, Tryz.ntmps47
    go_wp2_with fail
    go_ret
    exact ⟨rfl, uq⟩
  by_cases e11 : k = 11
  · subst e11
    by_cases h0 : 0 < f 7
    · have h0' : (0 : Int) < (f 7 : Int) := by omega
      go_enter Tryz.func47, Tryz.ntmps47
      go_wp2_with fail
      go_ret
      exact ⟨by simp [goesK, h0], uq⟩
    · have h0' : f 7 = 0 := by omega
      rw [h0'] at h7
      go_enter Tryz.func47, Tryz.ntmps47
      go_wp2_with fail
      go_ret
      exact ⟨by simp [goesK, h0'], uq⟩
  by_cases e12 : k = 12
  · subst e12
    by_cases h0 : 0 < f 8
    · have h0' : (0 : Int) < (f 8 : Int) := by omega
      go_enter Tryz.func47, Tryz.ntmps47
      go_wp2_with fail
      go_ret
      exact ⟨by simp [goesK, h0], uq⟩
    · have h0' : f 8 = 0 := by omega
      rw [h0'] at h8
      go_enter Tryz.func47, Tryz.ntmps47
      go_wp2_with fail
      go_ret
      exact ⟨by simp [goesK, h0'], uq⟩
  have g3 : (k == 3) = false := by simpa using e3
  have g11 : (k == 11) = false := by simpa using e11
  have g12 : (k == 12) = false := by simpa using e12
  have hg : goesK f k = false := by simp [goesK, e3, e11, e12]
  rw [hg]
  clear e3 e11 e12 hg
  go_enter Tryz.func47, Tryz.ntmps47
  go_wp2_with fail
  go_ret
  exact ⟨rfl, uq⟩

abbrev goesF : Nat := 47

set_option maxRecDepth 100000 in
set_option maxHeartbeats 1600000 in
theorem IndexFunc_goes (p : Nat → Bool) (xs : List Nat) (g off cap n3 n4 : Nat) (cs : Array Value) (fz : Nat × Nat) (w : World) (h1 : w.heap[g]? = some (.cells cs TpT fz)) (h3 : ∀ j x, xs[j]? = some x → cs[off + j]? = some (ptrV x)) (hlen : xs.length ≤ 1000000)
    (hp : ∀ x ∈ xs, ∀ W, Up w W → Calls Tryz.prog 47 #[.pointer (some ⟨x, 0, none⟩), .pointer (some ⟨n3, 0, none⟩), .pointer (some ⟨n4, 0, none⟩)] W fun e W' => e = .returned (.bool (p x)) ∧ Up W W') :
    Calls Tryz.prog 69 #[.slice (some ⟨g, off, none⟩) xs.length cap, .func (.func goesF) #[] #[.pointer (some ⟨n3, 0, none⟩), .pointer (some ⟨n4, 0, none⟩)]] w fun e w' =>
      Up w w' ∧ ((e = .returned (.int .i64 (-1)) ∧ ∀ x ∈ xs, p x = false) ∨ ∃ (j x : Nat), e = .returned (.int .i64 j) ∧ xs[j]? = some x ∧ p x = true ∧ ∀ y ∈ xs.take j, p y = false) := by
  have HP := Lib.hid hp
  have HC := Lib.hid (And.intro h1 h3)
  clear h1 h3 hp
  go_enter Tryz.func69, Tryz.ntmps69
  go_wp2_with fail
  go_loopw [8] (fun i wr => ∃ j : Nat, j ≤ xs.length ∧ i = .int .i64 j ∧ (∀ y ∈ xs.take j, p y = false) ∧ Up w wr) (fun i _ => xs.length - (intOf i).toNat)
  case atStart => exact ⟨0, Nat.zero_le _, rfl, (by simp), uq⟩
  case round =>
    obtain ⟨j, hj, rfl, hno, hup⟩ := hrel
    have HN := Lib.hid hno
    clear hno
    by_cases hlt : j < xs.length
    · have hji : (j : Int) < xs.length := by omega
      obtain ⟨x, hx⟩ : ∃ x, xs[j]? = some x := ⟨_, List.getElem?_eq_getElem hlt⟩
      have y0 : wr.cell? ⟨g, off + j, none⟩ = some (.pointer (some ⟨x, 0, none⟩)) := (cell_of (hup.get HC.out.1) _).trans (HC.out.2 j x hx)
      have hc := HP.out x (List.mem_of_getElem? hx)
      have HX := Lib.hid hx
      have HQ := Lib.hid hc
      clear hx hlt hc
      cases hq : p x with
      | true =>
        have hq2 : Hid (p x = true) := hq
        go_wp2_with (first | (go_at_call 47; refine (HQ.out _ uq).mono ?_; rintro e w2 ⟨rfl, hu2⟩; simp only [hq2.out]))
        refine bodyPost_ret (v := .int .i64 j) (by simp [results, Tryz.results69, go_sem]) rfl ?_
        exact ⟨uq, .inr ⟨j, x, rfl, HX.out, hq2.out, HN.out⟩⟩
      | false =>
        have hq2 : Hid (p x = false) := hq
        go_wp2_with (first | (go_at_call 47; refine (HQ.out _ uq).mono ?_; rintro e w2 ⟨rfl, hu2⟩; simp only [hq2.out]))
        refine ⟨⟨j + 1, by omega, by simp, fun y hy => ?_, uq⟩, by simp [intOf]; omega⟩
        rw [List.take_add_one, HX.out] at hy
        rcases List.mem_append.1 hy with hy | hy
        · exact HN.out y hy
        · simp at hy; subst hy; exact hq2.out
    · obtain rfl : j = xs.length := by omega
      clear hlt
      go_wp2_with fail
      refine bodyPost_ret (v := .int .i64 (-1)) (by simp [results, Tryz.results69, go_sem]) rfl ?_
      exact ⟨uq, .inl ⟨rfl, by have := HN.out; rwa [List.take_length] at this⟩⟩

theorem setCells_block {w : World} {b i : Nat} {cs : Array Value} {t : TypeId} {f : Nat × Nat} (vs : List Value) (h : w.heap[b]? = some (.cells cs t f)) : ∃ cs', (w.setCells b i vs).heap[b]? = some (.cells cs' t f) ∧ cs'.size = cs.size ∧ ∀ j, j < i → cs'[j]? = cs[j]? := by
  induction vs generalizing w i cs with
  | nil => exact ⟨cs, h, rfl, fun _ _ => rfl⟩
  | cons v vs ih =>
    have h1 := setCell_block (i := i) h v
    obtain ⟨cs', h2, h3, h4⟩ := ih (i := i + 1) h1
    refine ⟨cs', ?_, by rw [h3]; simp, fun j hj => ?_⟩
    · rw [World.setCells]; exact h2
    · rw [h4 j (by omega), Array.getElem?_setIfInBounds_ne (by omega)]

theorem setCells_other {w : World} {b i x : Nat} (vs : List Value) (h : x ≠ b) : (w.setCells b i vs).heap[x]? = w.heap[x]? := by
  induction vs generalizing w i with
  | nil => rfl
  | cons v vs ih => rw [World.setCells, ih, setCell_other h]

theorem Kept.setCells {S : Nat → Prop} {a w : World} (h : Kept S a w) {b i : Nat} (hb : S b) (vs : List Value) : Kept S a (w.setCells b i vs) := by
  induction vs generalizing w i with
  | nil => exact h
  | cons v vs ih => rw [World.setCells]; exact ih (h.setCell (p := ⟨b, i, none⟩) (.inl hb) v)

set_option maxRecDepth 100000 in
set_option maxHeartbeats 3200000 in
theorem DeleteFunc_goes (p : Nat → Bool) (xs : List Nat) (g off cap n3 n4 : Nat) (cs : Array Value) (w : World) (h1 : w.heap[g]? = some (.cells cs TpT (0, 0))) (h3 : ∀ j x, xs[j]? = some x → cs[off + j]? = some (ptrV x)) (hlen : xs.length ≤ 1000000) (hcap : xs.length ≤ cap)
    (hp : ∀ x ∈ xs, ∀ W, Kept (fun b => b = g) w W → Calls Tryz.prog 47 #[.pointer (some ⟨x, 0, none⟩), .pointer (some ⟨n3, 0, none⟩), .pointer (some ⟨n4, 0, none⟩)] W fun e W' => e = .returned (.bool (p x)) ∧ Up W W') :
    Calls Tryz.prog 49 #[.slice (some ⟨g, off, none⟩) xs.length cap, .func (.func goesF) #[] #[.pointer (some ⟨n3, 0, none⟩), .pointer (some ⟨n4, 0, none⟩)]] w fun e w' =>
      e = .returned (.slice (some ⟨g, off, none⟩) (xs.filter fun x => !p x).length cap) ∧ Kept (fun b => b = g) w w' ∧ ∃ cs', w'.heap[g]? = some (.cells cs' TpT (0, 0)) ∧ cs'.size = cs.size ∧ ∀ j x, (xs.filter fun x => !p x)[j]? = some x → cs'[off + j]? = some (ptrV x) := by
  have HP := Lib.hid hp
  have HC := Lib.hid (And.intro h1 h3)
  have hsize : ∀ t, t < xs.length → off + t < cs.size := fun t ht => by
    have := h3 t _ (List.getElem?_eq_getElem ht)
    exact (Array.getElem?_eq_some_iff.1 this).1
  clear h1 h3 hp
  go_enter Tryz.func49, Tryz.ntmps49
  go_wp2_with (first | (go_at_call 69; refine (IndexFunc_goes p xs g off cap n3 n4 cs (0, 0) _ HC.out.1 HC.out.2 hlen (fun x hx W hW => HP.out x hx W (Kept.of_up hW))).mono ?_; rintro e w2 ⟨hu2, ⟨rfl, hno⟩ | ⟨j0, x0, rfl, hj0, hp0, hno⟩⟩))
  · -- none goes
    have e0 : (xs.filter fun x => !p x) = xs := List.filter_eq_self.2 fun x hx => by rw [hno x hx]; rfl
    rw [e0]
    refine bodyPost_ret (v := .slice (some ⟨g, off, none⟩) xs.length cap) (by simp [results, Tryz.results49, go_sem]) rfl ?_
    exact ⟨rfl, Kept.of_up hu2, cs, hu2.get HC.out.1, rfl, HC.out.2⟩
  have hjl : j0 < xs.length := (List.getElem?_eq_some_iff.1 hj0).1
  have hji : ((j0 : Int) == -1) = false := by simp <;> omega
  have hfl : (xs.take (j0 + 1)).filter (fun x => !p x) = xs.take j0 := by
    rw [List.take_add_one, hj0, List.filter_append]
    rw [show (some x0).toList.filter (fun x => !p x) = [] by simp [hp0]]
    rw [List.append_nil]
    exact List.filter_eq_self.2 fun x hx => by rw [hno x hx]; rfl
  have HF := Lib.hid hfl
  have HK0 : Hid (Kept (fun b => b = g) w w2) := Kept.of_up hu2
  have HC2 : Hid (w2.heap[g]? = some (.cells cs TpT (0, 0))) := hu2.get HC.out.1
  clear hj0 hp0 hno hfl hu2
  go_wp2_with fail
  go_loopw [5, 6] (fun s5 s6 wr => ∃ (i j : Nat) (cs' : Array Value), s5 = .int .i64 i ∧ s6 = .int .i64 j ∧ j ≤ xs.length ∧ i < j ∧ i = ((xs.take j).filter fun x => !p x).length ∧ Kept (fun b => b = g) w wr ∧ wr.heap[g]? = some (.cells cs' TpT (0, 0)) ∧ cs'.size = cs.size ∧
    (∀ t x, ((xs.take j).filter fun x => !p x)[t]? = some x → cs'[off + t]? = some (ptrV x)) ∧ (∀ t x, j ≤ t → xs[t]? = some x → cs'[off + t]? = some (ptrV x))) (fun _ s6 _ => xs.length - (intOf s6).toNat)
  case atStart =>
    refine ⟨j0, j0 + 1, cs, rfl, by simp [IntWalk.wrap64_in ((j0 : Int) + 1) (by omega)], by omega, by omega, by rw [HF.out]; simp; omega, HK0.out, HC2.out, rfl, fun t x hx => ?_, fun t x _ hx => HC.out.2 t x hx⟩
    rw [HF.out, List.getElem?_take] at hx
    split at hx
    · exact HC.out.2 t x hx
    · cases hx
  case round =>
    obtain ⟨i, j, cs', rfl, rfl, hj, hij, hil, hk, hg, hsz, hlo, hhi⟩ := hrel
    have HI := Lib.hid (And.intro hil (And.intro hsz (And.intro hlo hhi)))
    have HK := Lib.hid hk
    have HG := Lib.hid hg
    clear hil hlo hhi hk hg
    have gl := lt_of_heap HG.out
    by_cases hlt : j < xs.length
    · have hjj : (j : Int) < xs.length := by omega
      have hii : (i : Int) < xs.length := by omega
      have hi2 : i < xs.length := by omega
      obtain ⟨x, hx⟩ : ∃ x, xs[j]? = some x := ⟨_, List.getElem?_eq_getElem hlt⟩
      have y0 : wr.cell? ⟨g, off + j, none⟩ = some (.pointer (some ⟨x, 0, none⟩)) := (cell_of HG.out _).trans (HI.out.2.2.2 j x (Nat.le_refl _) hx)
      obtain ⟨old, hold⟩ : ∃ old, cs'[off + i]? = some old := by
        have := hsize i hi2
        exact ⟨_, Array.getElem?_eq_getElem (by rw [hsz]; exact this)⟩
      have HX := Lib.hid (And.intro hx hold)
      have HQ := Lib.hid (HP.out x (List.mem_of_getElem? hx))
      clear hx hold
      cases hq : p x with
      | true =>
        have hq2 : Hid (p x = true) := hq
        go_wp2_with (first | (go_at_call 47; refine (HQ.out _ HK.out).mono ?_; rintro e w3 ⟨rfl, hu3⟩; simp only [hq2.out]))
        refine ⟨⟨i, j + 1, cs', rfl, by simp, by omega, by omega, ?_, HK.out.up hu3, hu3.get HG.out, HI.out.2.1, ?_, fun t y ht hy => HI.out.2.2.2 t y (by omega) hy⟩, by simp [intOf]; omega⟩
        · rw [List.take_add_one, HX.out.1, List.filter_append]
          simp [hq2.out]
          exact HI.out.1
        · rw [List.take_add_one, HX.out.1, List.filter_append]
          simp only [Option.toList_some, List.filter_cons, hq2.out, Bool.not_true, Bool.false_eq_true, if_false, List.filter_nil, List.append_nil]
          exact HI.out.2.2.1
      | false =>
        have hq2 : Hid (p x = false) := hq
        go_wp2_with (first | (go_at_call 47; refine (HQ.out _ HK.out).mono ?_; rintro e w3 ⟨rfl, hu3⟩; simp only [hq2.out]; have hg3 := Lib.hid (hu3.get HG.out); have x0 := (cell_of hg3.out (off + i)).trans HX.out.2; have f0 := ice_of hg3.out (off + i); have gl3 := lt_of_heap hg3.out))
        have hb := setCell_block (i := off + i) hg3.out (.pointer (some ⟨x, 0, none⟩))
        refine ⟨⟨i + 1, j + 1, _, by simp, by simp, by omega, by omega, ?_, (HK.out.up hu3).setCell (p := ⟨g, off + i, none⟩) (.inl rfl) _, hb, by simp [HI.out.2.1], ?_, fun t y ht hy => ?_⟩, by simp [intOf]; omega⟩
        · rw [List.take_add_one, HX.out.1, List.filter_append]
          simp [hq2.out]
          exact HI.out.1
        · rw [List.take_add_one, HX.out.1, List.filter_append]
          simp only [Option.toList_some, List.filter_cons, hq2.out, Bool.not_false, if_true, List.filter_nil]
          intro t y hy
          rcases Nat.lt_or_ge t i with ht | ht
          · rw [List.getElem?_append_left (by rw [← HI.out.1]; exact ht)] at hy
            rw [Array.getElem?_setIfInBounds_ne (by omega)]
            exact HI.out.2.2.1 t y hy
          · rw [List.getElem?_append_right (by rw [← HI.out.1]; exact ht), ← HI.out.1] at hy
            have e : t = i := by
              have := (List.getElem?_eq_some_iff.1 hy).1
              simp at this
              omega
            subst e
            simp at hy
            subst hy
            have := hsize t hi2
            rw [Array.getElem?_setIfInBounds_self_of_lt (by rw [hsz]; exact this)]
            rfl
        · rw [Array.getElem?_setIfInBounds_ne (by omega)]
          exact HI.out.2.2.2 t y (by omega) hy
    · obtain rfl : j = xs.length := by omega
      have hii : (i : Int) < xs.length := by omega
      have hic : (i : Int) ≤ cap := by omega
      have hcl : ∀ ty, (Builtin.clear_ #[55] ty #[.slice (some ⟨g, off + i, none⟩) (xs.length - i) (cap - i)]).run Tryz.prog wr = .ok (.tuple #[]) (wr.setCells g (off + i) (List.replicate (xs.length - i) (.pointer none))) :=
        fun ty => Lib.run_clear_slice wr _ _ ty _ Tryz.underlying55 (fun _ => by kernel_rfl) rfl rfl g (off + i) _ _ (by omega) (fun t ht => by
          rw [cell_of HG.out, Array.getElem?_eq_getElem (by rw [hsz]; have := hsize (i + t) (by omega); omega)]; rfl) (fun t ht => ice_of HG.out _)
      obtain ⟨cs2, hb1, hb2, hb3⟩ := setCells_block (i := off + i) (List.replicate (xs.length - i) (.pointer none)) HG.out
      have HE := Lib.hid (And.intro hb1 (And.intro hb2 hb3))
      clear hlt hb1 hb2 hb3
      go_wp2_with fail
      refine bodyPost_ret (v := .slice (some ⟨g, off, none⟩) i cap) (by simp [results, Tryz.results49, go_sem]) rfl ?_
      have hil := HI.out.1
      have hlo := HI.out.2.2.1
      rw [List.take_length] at hil hlo
      refine ⟨by rw [hil], HK.out.setCells rfl _, cs2, HE.out.1, by rw [HE.out.2.1, hsz], fun t x hx => ?_⟩
      have := (List.getElem?_eq_some_iff.1 hx).1
      rw [HE.out.2.2 (off + t) (by omega)]
      exact hlo t x hx

end Go.Proofs.YtbghpkoimbmijaaGreatDoor
