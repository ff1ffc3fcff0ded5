import Derived.Test.YtmbipadiaggolaaGreatDoorHeapW3
import Derived.Deep.LoopGhost
/- Walks: find, Get, Has. -/
namespace Go.Proofs.YtmbipadiaggolaaGreatDoor
open Go.RowKit
attribute [local go_sem] ta_aa ta_ao ta_an ta_oa ta_oo ta_on m_kind_a m_kind_o m_behind_a m_behind_o m_own_a m_own_o

def lengthS : List UInt8 := [108, 101, 110, 103, 116, 104]

/-- a member of its own -/
def Thing.own (t : Thing) (s : ByteArray) : Option Val :=
  if t.kind = 2 then (if s.toList == lengthS then some ⟨3, t.vals.length, ⟨#[]⟩⟩ else none) else (t.slots.find? fun x => decide (x.1 = s)).map (·.2)

/-- a member of a thing, or of the nearest one behind it that has one -/
def HM.find (H : HM) (s : ByteArray) : Nat → Int → Option Val
  | 0, _ => none
  | f + 1, n => if n < 0 then none else match H.things[n.toNat]? with
    | none => none
    | some t => match t.own s with
      | some x => some x
      | none => H.find s f t.proto

def optV (r : Option Val) : Val := r.getD ⟨0, 0, ⟨#[]⟩⟩

def noMembers : ByteArray := ⟨#[84, 121, 112, 101, 69, 114, 114, 111, 114, 58, 32, 110, 111, 32, 109, 101, 109, 98, 101, 114, 115]⟩

/-- what stands behind a thing lies ahead of it -/
def HM.Tall (H : HM) : Prop := ∀ (i : Nat) (t : Thing), H.things[i]? = some t → -1 ≤ t.proto ∧ t.proto < i

theorem HM.find_fuel {H : HM} (hT : H.Tall) (s : ByteArray) : ∀ (f f' : Nat) (n : Int), n < f → n < f' → H.find s f n = H.find s f' n
  | 0, 0, _, _, _ => rfl
  | 0, f' + 1, n, h, _ => by simp only [HM.find]; rw [if_pos (by omega)]
  | f + 1, 0, n, _, h => by simp only [HM.find]; rw [if_pos (by omega)]
  | f + 1, f' + 1, n, h, h' => by
    simp only [HM.find]
    by_cases h0 : n < 0
    · rw [if_pos h0, if_pos h0]
    · rw [if_neg h0, if_neg h0]
      cases ht : H.things[n.toNat]? with
      | none => rfl
      | some t =>
        cases ho : t.own s with
        | some x => simp [ho]
        | none =>
          have := hT _ _ ht
          simp only [ho]
          exact HM.find_fuel hT s f f' t.proto (by omega) (by omega)

theorem ThingIs.tall {w : World} {own : Nat → Option (Nat × Nat)} {tvs : List Value} {i : Nat} {t : Thing} {v : Value} (h : ThingIs w own tvs i t v) : -1 ≤ t.proto ∧ t.proto < i := by
  cases h with
  | arr => exact ⟨Int.le_refl _, by simp; omega⟩
  | obj k p l b mv kv hk hp hpi => exact ⟨hp, hpi⟩

theorem Rep.tall {w : World} {hb : Nat} {H : HM} {tvs : List Value} {own : Nat → Option (Nat × Nat)} (h : Rep w hb H tvs own) : H.Tall := fun i t ht => by
  obtain ⟨tv, _, hi⟩ := h.things i t ht
  exact hi.tall

theorem HRep.tall {w : World} {hv : Value} {H : HM} {tvs : List Value} {own : Nat → Option (Nat × Nat)} (h : HRep w hv H tvs own) : H.Tall := by
  cases h with
  | nil => intro i t ht; simp at ht
  | some hb _ _ _ h => exact h.tall

theorem HM.find_at {H : HM} (hT : H.Tall) (s : ByteArray) (i : Nat) (t : Thing) (ht : H.things[i]? = some t) : H.find s (i + 1) i = match t.own s with | some x => some x | none => H.find s (t.proto + 1).toNat t.proto := by
  have hp := hT i t ht
  rw [HM.find, if_neg (by omega), Int.toNat_natCast, ht]
  simp only
  cases t.own s with
  | some x => rfl
  | none => exact HM.find_fuel hT s _ _ _ (by omega) (by omega)

/-- where a search stands -/
inductive FindAt (H : HM) (tvs : List Value) (s : ByteArray) (r : Option Val) : Nat → Value → Prop
  | stop (h : r = none) : FindAt H tvs s r 0 .nilIface
  | there (i : Nat) (t : Thing) (tv : Value) (h : H.things[i]? = some t) (hv : tvs[i]? = some tv) (hr : H.find s (i + 1) i = r) : FindAt H tvs s r (i + 1) tv

theorem things_at {w : World} {hv : Value} {H : HM} {tvs : List Value} {own : Nat → Option (Nat × Nat)} (h : HRep w hv H tvs own) {i : Nat} {t : Thing} {tv : Value} (ht : H.things[i]? = some t) (htv : tvs[i]? = some tv) : ThingIs w own tvs i t tv := by
  cases h with
  | nil => simp at ht
  | some hb _ _ _ h =>
    obtain ⟨tv', h1, h2⟩ := h.things i t ht
    rw [htv] at h1
    cases h1
    exact h2

theorem own_slots_miss {k p : Int} {l : List (ByteArray × Val)} {s : ByteArray} (hk : k = 1 ∨ k = 3 ∨ k = 4) (h : ∀ x ∈ l, x.1 ≠ s) : Thing.own ⟨k, p, l, []⟩ s = none := by
  have h2 : k ≠ 2 := by omega
  simp only [Thing.own, h2, if_false]
  rw [List.find?_eq_none.2]
  · rfl
  · intro x hx
    simpa using h x hx

theorem own_slots_hit {k p : Int} {l : List (ByteArray × Val)} {s : ByteArray} {j : Nat} {x : Val} (hk : k = 1 ∨ k = 3 ∨ k = 4) (hn : (l.map (·.1)).Nodup) (h : l[j]? = some (s, x)) : Thing.own ⟨k, p, l, []⟩ s = some x := by
  have h2 : k ≠ 2 := by omega
  simp only [Thing.own, h2, if_false]
  have hm : (s, x) ∈ l := List.mem_of_getElem? h
  cases hf : l.find? (fun x => decide (x.1 = s)) with
  | none =>
    have := List.find?_eq_none.1 hf _ hm
    simp at this
  | some y =>
    have h1 : y.1 = s := by simpa using List.find?_some hf
    obtain ⟨i, hi⟩ := List.getElem?_of_mem (List.mem_of_find?_eq_some hf)
    have a1 : (l.map (·.1))[i]? = some s := by rw [List.getElem?_map, hi]; simp [h1]
    have a2 : (l.map (·.1))[j]? = some s := by rw [List.getElem?_map, h]; simp
    have b1 : i < (l.map (·.1)).length := by
      rcases Nat.lt_or_ge i (l.map (·.1)).length with h' | h'
      · exact h'
      · rw [List.getElem?_eq_none h'] at a1; cases a1
    have : i = j := (List.getElem?_inj b1 hn).1 (a1.trans a2.symm)
    subst this
    rw [hi] at h
    cases h
    rfl

set_option maxHeartbeats 800000 in
theorem find_any (hv : Value) (H : HM) (tvs : List Value) (own : Nat → Option (Nat × Nat)) (s : ByteArray) (r : Option Val) (k0 : Nat) (tv0 : Value) (w : World) (h : HRep w hv H tvs own) (h0 : FindAt H tvs s r k0 tv0) :
    Calls Tryz.prog 48 #[tv0, .string s] w fun e w' => e = .returned (.tuple #[.agg #[.int .i64 (optV r).k, .int .i64 (optV r).n, .string (optV r).s], .bool r.isSome]) ∧ Up w w' := by
  have hh := Lib.hid h
  have hF := Lib.hid h0
  have hT := Lib.hid h.tall
  clear h h0
  go_enter Tryz.func48, Tryz.ntmps48
  go_wp2
  have hu0 : Up w (w.alloc (.cells #[.int .i64 0, .int .i64 0, .string ⟨#[]⟩] 34)) := (by repeat (first | with_reducible exact Up.refl _ | with_reducible assumption | with_reducible refine Up.drewN ?_ _ | with_reducible refine Up.drew ?_ | with_reducible refine Up.alloc ?_ _ | with_reducible refine Up.setCell ?_ (by first | omega | (simp; done) | (simp; omega)) _ | with_reducible refine Up.trans ?_ (by assumption)))
  go_loopg [0] k0 (fun k t wr => FindAt H tvs s r k t ∧ Up (w.alloc (.cells #[.int .i64 0, .int .i64 0, .string ⟨#[]⟩] 34)) wr)
  case atStart => exact ⟨hF.out, Up.refl _⟩
  case round =>
    obtain ⟨hrel, hu⟩ := hrel
    have hc := hu.cells
    have hf := hu.ice
    have hz := hu.size
    simp only [World.size_alloc] at hz
    have hlt : w.heap.size < wr.heap.size := by omega
    cases hrel with
    | stop hr =>
      have HR := Lib.hid hr
      clear hr
      go_wp2
      refine bodyPost_eq (by (simp [results, Tryz.results48, go_sem, *]) <;> rfl) rfl (by rw [HR.out]; rfl) ⟨rfl, (by repeat (first | with_reducible exact Up.refl _ | with_reducible assumption | with_reducible refine Up.drewN ?_ _ | with_reducible refine Up.drew ?_ | with_reducible refine Up.alloc ?_ _ | with_reducible refine Up.setCell ?_ (by first | omega | (simp; done) | (simp; omega)) _ | with_reducible refine Up.trans ?_ (by assumption)))⟩
    | there i t tv hth htv hr =>
      rw [HM.find_at hT.out s i t hth] at hr
      have hti := (things_at (hh.out.up (hu0.trans hu)) hth htv)
      cases hti with
      | arr vals b av hb hcb hrow =>
        obtain ⟨sa, cap, rfl, hm⟩ := ThingIs.arrow hrow
        have hcell := cell_of hcb 0
        have hblt := lt_of_heap hcb
        simp only [List.getElem?_toArray, List.getElem?_cons_zero] at hcell
        by_cases hs : (s.toList == lengthS) = true
        · have HR : Hid (r = some ⟨3, vals.length, ⟨#[]⟩⟩) := by simp [Hid, ← hr, Thing.own, hs]
          have HS := Lib.hid hs
          clear hr hb hcb hrow hth htv hs
          go_wp2_with (first | (go_at_call 121; refine (own_a_yes b s _ sa _ cap hblt hcell HS.out).mono ?_; rintro e w' ⟨rfl, hu⟩; obtain ⟨hc, hf⟩ := And.intro hu.cells hu.ice; have hz := hu.size; (try simp only [World.size_alloc] at hz); (try (have hz0 : w.heap.size < w'.heap.size := by omega))))
          refine bodyPost_eq (by (simp [results, Tryz.results48, go_sem, *]) <;> rfl) rfl (by rw [HR.out]; rfl) ⟨rfl, (by repeat (first | with_reducible exact Up.refl _ | with_reducible assumption | with_reducible refine Up.drewN ?_ _ | with_reducible refine Up.drew ?_ | with_reducible refine Up.alloc ?_ _ | with_reducible refine Up.setCell ?_ (by first | omega | (simp; done) | (simp; omega)) _ | with_reducible refine Up.trans ?_ (by assumption)))⟩
        · have HR : Hid (r = none) := by simp [Hid, ← hr, Thing.own, hs, HM.find]
          have HS := Lib.hid (show (s.toList == lengthS) = false by simpa using hs)
          clear hr hb hcb hrow hth htv hs
          go_wp2_with (first | (go_at_call 121; refine (own_a_no b s _ HS.out).mono ?_; rintro e w' ⟨rfl, hu⟩; obtain ⟨hc, hf⟩ := And.intro hu.cells hu.ice; have hz := hu.size; (try simp only [World.size_alloc] at hz); (try (have hz0 : w.heap.size < w'.heap.size := by omega))) | (go_at_call 119; refine (behind_a _ _).mono ?_; rintro e w' ⟨rfl, hu⟩; obtain ⟨hc, hf⟩ := And.intro hu.cells hu.ice; have hz := hu.size; (try simp only [World.size_alloc] at hz); (try (have hz0 : w.heap.size < w'.heap.size := by omega))))
          go_roundg 0
          case measure => omega
          case rel => exact ⟨.stop HR.out, (by repeat (first | with_reducible exact Up.refl _ | with_reducible assumption | with_reducible refine Up.drewN ?_ _ | with_reducible refine Up.drew ?_ | with_reducible refine Up.alloc ?_ _ | with_reducible refine Up.setCell ?_ (by first | omega | (simp; done) | (simp; omega)) _ | with_reducible refine Up.trans ?_ (by assumption)))⟩
      | obj k p l b mv kv hk hp hpi hb hcb hm hrow hn =>
        rcases slot_cases l s with hs | ⟨j, x, hs⟩
        · have HR : Hid (H.find s (p + 1).toNat p = r) := by rw [own_slots_miss hk hs] at hr; exact hr
          have HX := Lib.hid (And.intro hs (And.intro hcb hm))
          have hnext : Hid (FindAt H tvs s r (p + 1).toNat (protoV tvs p)) := by
            by_cases hp0 : p < 0
            · have : p = -1 := by omega
              subst this
              exact .stop (by rw [← HR.out]; rfl)
            · obtain ⟨q, rfl⟩ := Int.eq_ofNat_of_zero_le (by omega : 0 ≤ p)
              have hi : i < H.things.length := by
                rcases Nat.lt_or_ge i H.things.length with h' | h'
                · exact h'
                · rw [List.getElem?_eq_none h'] at hth; cases hth
              have hq : H.there (q : Int) = true := by simp [HM.there]; omega
              obtain ⟨_, tv', t', h1, h2, _⟩ := there_get hh.out hq
              rw [Int.toNat_natCast] at h1 h2
              have e1 : ((q : Int) + 1).toNat = q + 1 := by omega
              have e2 : protoV tvs (q : Int) = tv' := by
                unfold protoV
                rw [if_neg (by omega), Int.toNat_natCast, List.getD, h2]
                rfl
              rw [e1, e2]
              exact .there q t' tv' h1 h2 (by rw [← HR.out, e1])
          clear hr hb hcb hrow hth htv hs hk hm hn
          go_wp2_with (first | (go_at_call 44; refine (own_m_no b s _ own _ mv kv l HX.out.2.1 HX.out.2.2 HX.out.1).mono ?_; rintro e w' ⟨rfl, hu⟩; obtain ⟨hc, hf⟩ := And.intro hu.cells hu.ice; have hz := hu.size; (try simp only [World.size_alloc] at hz); (try (have hz0 : w.heap.size < w'.heap.size := by omega))) | (go_at_call 122; refine (behind_o _ _ _ _).mono ?_; rintro e w' ⟨rfl, hu⟩; obtain ⟨hc, hf⟩ := And.intro hu.cells hu.ice; have hz := hu.size; (try simp only [World.size_alloc] at hz); (try (have hz0 : w.heap.size < w'.heap.size := by omega))))
          go_roundg (p + 1).toNat
          case measure => omega
          case rel => exact ⟨hnext.out, (by repeat (first | with_reducible exact Up.refl _ | with_reducible assumption | with_reducible refine Up.drewN ?_ _ | with_reducible refine Up.drew ?_ | with_reducible refine Up.alloc ?_ _ | with_reducible refine Up.setCell ?_ (by first | omega | (simp; done) | (simp; omega)) _ | with_reducible refine Up.trans ?_ (by assumption)))⟩
        · have HR : Hid (r = some x) := by rw [own_slots_hit hk hn hs] at hr; exact hr.symm
          have HX := Lib.hid (And.intro hs (And.intro hcb (And.intro hm hn)))
          clear hr hb hcb hrow hth htv hs hk hm hn
          go_wp2_with (first | (go_at_call 44; refine (own_m_yes b s _ own _ mv kv l HX.out.2.1 HX.out.2.2.1 HX.out.2.2.2 j x HX.out.1).mono ?_; rintro e w' ⟨rfl, hu⟩; obtain ⟨hc, hf⟩ := And.intro hu.cells hu.ice; have hz := hu.size; (try simp only [World.size_alloc] at hz); (try (have hz0 : w.heap.size < w'.heap.size := by omega))))
          refine bodyPost_eq (by (simp [results, Tryz.results48, go_sem, *]) <;> rfl) rfl (by rw [HR.out]; rfl) ⟨rfl, (by repeat (first | with_reducible exact Up.refl _ | with_reducible assumption | with_reducible refine Up.drewN ?_ _ | with_reducible refine Up.drew ?_ | with_reducible refine Up.alloc ?_ _ | with_reducible refine Up.setCell ?_ (by first | omega | (simp; done) | (simp; omega)) _ | with_reducible refine Up.trans ?_ (by assumption)))⟩

/-- what Get answers: a value, a text that is thrown, a fault -/
def HM.get (H : HM) (x : Val) (s : ByteArray) (runes : Nat) : Val × ByteArray × Int :=
  let v := plainS H x
  if v.k = 0 ∨ v.k = 1 then (⟨0, 0, ⟨#[]⟩⟩, noMembers, 1)
  else if v.k = 4 then (if s.toList == lengthS then (⟨3, runes, ⟨#[]⟩⟩, ⟨#[]⟩, 0) else (⟨0, 0, ⟨#[]⟩⟩, ⟨#[]⟩, 0))
  else if v.k = 5 then (optV (H.find s (v.n + 1).toNat v.n), ⟨#[]⟩, 0)
  else (⟨0, 0, ⟨#[]⟩⟩, ⟨#[]⟩, 0)

end Go.Proofs.YtmbipadiaggolaaGreatDoor
