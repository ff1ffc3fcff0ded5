import Derived.Test.YtmbipadiaggolaaGreatDoorHeapWA
import Derived.Deep.RegionLaw
/- Walks: Push. -/
namespace Go.Proofs.YtmbipadiaggolaaGreatDoor
open Go.RowKit
set_option linter.unusedSimpArgs false
attribute [local go_sem] ta_aa ta_ao ta_an ta_oa ta_oo ta_on m_kind_a m_kind_o m_behind_a m_behind_o m_own_a m_own_o

theorem val_info : (Tryz.prog.info? 34).map (fun i => (i.zero, i.size, i.bytes)) = some (some (.agg #[.int .i64 0, .int .i64 0, .string ⟨#[]⟩]), 3, 32) := by kernel_rfl

/-- the values of an array, one more -/
def HM.pushAt (H : HM) (n : Nat) (vals : List Val) (x : Val) : HM := ⟨H.room, H.used + 1, H.things.set n ⟨2, -1, [], vals ++ [plainS H x]⟩⟩

/-- Push, as a whole -/
def HM.push (H : HM) (n : Int) (x : Val) : HM × Int × Int :=
  if H.there n = true then
    match H.things[n.toNat]? with
    | none => (H, -1, 1)
    | some t =>
      if t.kind = 2 then (if H.used < H.room then (H.pushAt n.toNat t.vals x, (t.vals.length : Int) + 1, 0) else (H, -1, 3))
      else (H, -1, 1)
  else (H, -1, 1)

set_option maxRecDepth 100000 in
set_option maxHeartbeats 1600000 in
theorem Push_none (hv : Value) (H : HM) (tvs : List Value) (own : Own) (n : Int) (x : Val) (w : World) (h : HRep w hv H tvs own) (ha : arrOf H tvs 5 n = .pointer none) :
    Calls Tryz.prog 32 #[hv, .int .i64 n, .agg #[.int .i64 (x).k, .int .i64 (x).n, .string (x).s]] w fun e w' => e = .returned (.tuple #[.int .i64 (-1), .int .i64 1]) ∧ Up w w' := by
  have hh := Lib.hid h
  have HA := Lib.hid ha
  clear h ha
  go_enter Tryz.func32, Tryz.ntmps32
  go_wp2_with (first | (go_at_call 42; refine (array_any hv H tvs own _ _ _ _ (hh.out.up (by repeat (first | with_reducible exact Up.refl _ | with_reducible assumption | with_reducible refine Up.drewN ?_ _ | with_reducible refine Up.drew ?_ | with_reducible refine Up.alloc ?_ _ | with_reducible refine Up.setCell ?_ (by first | omega | (simp; done) | (simp; omega)) _ | with_reducible refine Up.trans ?_ (by assumption))))).mono ?_; rintro e w' ⟨rfl, hu⟩; rw [HA.out]; obtain ⟨hc, hf⟩ := And.intro hu.cells hu.ice; have hz := hu.size; (try simp only [World.size_alloc] at hz); (try (have hz0 : w.heap.size < w'.heap.size := by omega))))
  go_ret2
  exact ⟨rfl, (by repeat (first | with_reducible exact Up.refl _ | with_reducible assumption | with_reducible refine Up.drewN ?_ _ | with_reducible refine Up.drew ?_ | with_reducible refine Up.alloc ?_ _ | with_reducible refine Up.setCell ?_ (by first | omega | (simp; done) | (simp; omega)) _ | with_reducible refine Up.trans ?_ (by assumption)))⟩

set_option maxRecDepth 100000 in
set_option maxHeartbeats 1600000 in
theorem Push_full (hb : Nat) (H : HM) (tvs : List Value) (own : Own) (n : Int) (x : Val) (w : World) (h : Rep w hb H tvs own) (b : Nat) (ha : arrOf H tvs 5 n = .pointer (some ⟨b, 0, none⟩)) (hf : H.room ≤ H.used) :
    Calls Tryz.prog 32 #[.pointer (some ⟨hb, 0, none⟩), .int .i64 n, .agg #[.int .i64 (x).k, .int .i64 (x).n, .string (x).s]] w fun e w' => e = .returned (.tuple #[.int .i64 (-1), .int .i64 3]) ∧ Up w w' := by
  have hh := Lib.hid h
  have HA := Lib.hid ha
  have HF := Lib.hid hf
  clear h ha hf
  go_enter Tryz.func32, Tryz.ntmps32
  go_wp2_with (first | (go_at_call 42; refine (array_any _ H tvs own _ _ _ _ (.some hb _ _ _ (hh.out.up (by repeat (first | with_reducible exact Up.refl _ | with_reducible assumption | with_reducible refine Up.drewN ?_ _ | with_reducible refine Up.drew ?_ | with_reducible refine Up.alloc ?_ _ | with_reducible refine Up.setCell ?_ (by first | omega | (simp; done) | (simp; omega)) _ | with_reducible refine Up.trans ?_ (by assumption)))))).mono ?_; rintro e w' ⟨rfl, hu⟩; rw [HA.out]; obtain ⟨hc, hf⟩ := And.intro hu.cells hu.ice; have hz := hu.size; (try simp only [World.size_alloc] at hz); (try (have hz0 : w.heap.size < w'.heap.size := by omega))) | (go_at_call 43; refine (takes_full _ H tvs own _ (.some hb _ _ _ (hh.out.up (by repeat (first | with_reducible exact Up.refl _ | with_reducible assumption | with_reducible refine Up.drewN ?_ _ | with_reducible refine Up.drew ?_ | with_reducible refine Up.alloc ?_ _ | with_reducible refine Up.setCell ?_ (by first | omega | (simp; done) | (simp; omega)) _ | with_reducible refine Up.trans ?_ (by assumption))))) HF.out).mono ?_; rintro e w2 ⟨rfl, hu2⟩))
  go_ret2
  exact ⟨rfl, (by repeat (first | with_reducible exact Up.refl _ | with_reducible assumption | with_reducible refine Up.drewN ?_ _ | with_reducible refine Up.drew ?_ | with_reducible refine Up.alloc ?_ _ | with_reducible refine Up.setCell ?_ (by first | omega | (simp; done) | (simp; omega)) _ | with_reducible refine Up.trans ?_ (by assumption)))⟩

section
variable {P : Program} {w : World}
theorem step_append_row {ops : Array Oper} {o : Oper} {a : Act} {K : Act → World → Prop} {Q : Exit → Act → World → Prop} {E : Prop} (hgd : o.guard = none) (s x : Operand) (t : TypeId)
    (ho : o.op = .call { callee := .builtin .append, args := #[s, x], argTypes := #[t, t] })
    (e : TypeId) (i : TypeInfo) (z : Value) (size bytes : Nat) (ht : P.underlying t = some (.slice e)) (hi : P.info? e = some i) (hz : i.zero = some z)
    (hsize : i.size = size) (hby : i.bytes = bytes) (hzs : z.cells.size = size) (hsz : 0 < size)
    (v : Value) (n : Nat) (xs : List Value) (hs : a.eval s = v) (hown : w.ownsRow 0 e size v n xs)
    (ad : Addr) (m c : Nat) (news : List Value) (hx : a.eval x = .slice (some ad) m c) (hl : news.length = m * size) (hnews : ∀ j u, news[j]? = some u → w.cell? (ad.add j) = some u) (h1 : ∀ u ∈ news, u.oneCell' = true)
    (h63 : n + m ≤ maxLen) (hbytes : (n + m) * bytes ≤ 140737488355328)
    (h : ∀ sa cap w', w'.ownsRow 0 e size (.slice sa (n + m) cap) (n + m) (xs ++ news) → w.grownBy w' v.ownBlock →
      ((Value.slice sa (n + m) cap).ownBlock = v.ownBlock ∨ ∃ g, (Value.slice sa (n + m) cap).ownBlock = some g ∧ w.heap.size ≤ g) → K (a.put o.dst (.slice sa (n + m) cap)) w') :
    if Region.wanted o (yielded ops a.tmps) = true then Oper.wp P o a w K Q else E := by
  have hw : Region.wanted o (yielded ops a.tmps) = true := by simp [Region.wanted, hgd]
  rw [if_pos hw]
  exact wp_append_row s x t ho e i z size bytes ht hi hz hsize hby hzs hsz v n xs hs hown ad m c news hx hl hnews h1 h63 hbytes h

/-- append of elements that the operation ahead has laid into a block of their own, within a region -/
theorem step_append_new {W : World} {cs : Array Value} {te : TypeId} {ops : Array Oper} {o : Oper} {a : Act} {K : Act → World → Prop} {Q : Exit → Act → World → Prop} {E : Prop} (hgd : o.guard = none) (s x : Operand) (t : TypeId)
    (ho : o.op = .call { callee := .builtin .append, args := #[s, x], argTypes := #[t, t] })
    (e : TypeId) (i : TypeInfo) (z : Value) (size bytes : Nat) (ht : P.underlying t = some (.slice e)) (hi : P.info? e = some i) (hz : i.zero = some z)
    (hsize : i.size = size) (hby : i.bytes = bytes) (hzs : z.cells.size = size) (hsz : 0 < size)
    (v : Value) (n : Nat) (xs : List Value) (hs : a.eval s = v) (hown : (W.alloc (.cells cs te)).ownsRow 0 e size v n xs)
    (b m c : Nat) (hx : a.eval x = .slice (some ⟨b, 0, none⟩) m c) (hb : b = W.heap.size) (hl : cs.size = m * size) (h1 : ∀ u ∈ cs.toList, u.oneCell' = true)
    (h63 : n + m ≤ maxLen) (hbytes : (n + m) * bytes ≤ 140737488355328)
    (h : ∀ sa cap w', w'.ownsRow 0 e size (.slice sa (n + m) cap) (n + m) (xs ++ cs.toList) → (W.alloc (.cells cs te)).grownBy w' v.ownBlock →
      ((Value.slice sa (n + m) cap).ownBlock = v.ownBlock ∨ ∃ g, (Value.slice sa (n + m) cap).ownBlock = some g ∧ W.heap.size + 1 ≤ g) → K (a.put o.dst (.slice sa (n + m) cap)) w') :
    if Region.wanted o (yielded ops a.tmps) = true then Oper.wp P o a (W.alloc (.cells cs te)) K Q else E :=
  step_append_row hgd s x t ho e i z size bytes ht hi hz hsize hby hzs hsz v n xs hs hown ⟨b, 0, none⟩ m c cs.toList hx (by rw [Array.length_toList]; exact hl) (cells_new W cs te b hb) h1 h63 hbytes
    (fun sa cap w' g1 g2 g3 => h sa cap w' g1 g2 (by simpa only [World.size_alloc] using g3))
end

/-- an array has one value more -/
theorem push_turned {W w4 : World} {hb : Nat} {H : HM} {tvs : List Value} {own : Own} {i : Nat} {vals : List Val} {b : Nat} {sa sa' : Option Addr} {cap cap' : Nat} {x : Val} (h : Rep W hb H tvs own)
    (ht : H.things[i]? = some ⟨2, -1, [], vals⟩) (htv : tvs[i]? = some (.iface 86 (.pointer (some ⟨b, 0, none⟩)))) (hbc : W.heap[b]? = some (.cells #[.slice sa vals.length cap] 89 (0, 0))) (hbo : own b = some (i + 1, 0))
    (hrow : Row W own (i + 1, 1) 34 3 (.slice sa vals.length cap) vals.length (vals.flatMap Val.cells))
    (hown : w4.ownsRow 0 34 3 (.slice sa' (vals.length + 1) cap') (vals.length + 1) (vals.flatMap Val.cells ++ x.cells)) (hgrow : W.grownBy w4 (Value.slice sa vals.length cap).ownBlock)
    (hblk : (Value.slice sa' (vals.length + 1) cap').ownBlock = (Value.slice sa vals.length cap).ownBlock ∨ ∃ g, (Value.slice sa' (vals.length + 1) cap').ownBlock = some g ∧ W.heap.size ≤ g)
    (hsz : (sizes (H.things.set i ⟨2, -1, [], vals ++ [x]⟩) : Int) ≤ H.used) :
    ∃ own', Rep (w4.setCell ⟨b, 0, none⟩ (.slice sa' (vals.length + 1) cap')) hb ⟨H.room, H.used, H.things.set i ⟨2, -1, [], vals ++ [x]⟩⟩ tvs own' ∧ Mut own own' W (w4.setCell ⟨b, 0, none⟩ (.slice sa' (vals.length + 1) cap')) := by
  have hbl := lt_of_heap hbc
  have hold : (Value.slice sa vals.length cap).ownBlock ≠ some b := fun e => by
    have := hrow.2 b e
    rw [hbo] at this; cases this
  have hne : (Value.slice sa' (vals.length + 1) cap').ownBlock ≠ some b := fun e => by
    rcases hblk with hk | ⟨g, hk, hk'⟩
    · exact hold (by rw [← hk]; exact e)
    · rw [hk] at e; cases e; omega
  have hin : ∀ g, (Value.slice sa' (vals.length + 1) cap').ownBlock = some g → own g = some (i + 1, 1) ∨ W.heap.size ≤ g := fun g hg => by
    rcases hblk with hk | ⟨g', hk, hk'⟩
    · exact .inl (hrow.2 g (by rw [← hk]; exact hg))
    · rw [hk] at hg; cases hg; exact .inr hk'
  have hw4 := hgrow.size
  refine ⟨fun c => if (Value.slice sa' (vals.length + 1) cap').ownBlock = some c then some (i + 1, 1) else own c, ?_⟩
  refine Rep.turned h ?_ ?_ ?_ ht htv ?_ hsz
  · exact ((Kept.refl _ W).grow hgrow fun k hk => .inl ⟨_, hrow.2 k hk, rfl⟩).setCell (.inl ⟨_, hbo, rfl⟩) _
  · intro c hc
    show (if _ then _ else _) = _
    by_cases hg : (Value.slice sa' (vals.length + 1) cap').ownBlock = some c
    · rw [if_pos hg]
      rcases hin c hg with h' | h'
      · exact h'.symm
      · omega
    · rw [if_neg hg]
  · intro c m hm
    have hm : (if (Value.slice sa' (vals.length + 1) cap').ownBlock = some c then some (i + 1, 1) else own c) = some m := hm
    rw [setCell_size]
    by_cases hg : (Value.slice sa' (vals.length + 1) cap').ownBlock = some c
    · rw [if_pos hg] at hm
      cases hm
      exact ⟨ownBlock_lt hown hg, fun _ => rfl⟩
    · rw [if_neg hg] at hm
      have := h.lt c m hm
      exact ⟨Nat.lt_of_lt_of_le this hw4, fun h' => by omega⟩
  · refine .arr _ b (.slice sa' (vals.length + 1) cap') ?_ ?_ ?_
    · show (if _ then _ else _) = _
      rw [if_neg hne]; exact hbo
    · have := setCell_block (i := 0) (grown_get hgrow hbc hold) (.slice sa' (vals.length + 1) cap')
      simpa using this
    · refine ⟨ownsRow_keep ?_ fun g hg => setCell_other (fun e => by subst e; exact hne hg) _, fun g hg => by
        show (if _ then _ else _) = _
        rw [if_pos]; simpa using hg⟩
      simpa using hown

set_option maxRecDepth 100000 in
set_option maxHeartbeats 1600000 in
theorem Push_room (hb : Nat) (H : HM) (tvs : List Value) (own : Own) (n : Int) (x : Val) (w : World) (h : Rep w hb H tvs own) (b : Nat) (vals : List Val) (htv : tvs[n.toNat]? = some (.iface 86 (.pointer (some ⟨b, 0, none⟩)))) (ht : H.things[n.toNat]? = some ⟨2, -1, [], vals⟩) (ha : arrOf H tvs 5 n = .pointer (some ⟨b, 0, none⟩)) (hf : H.used < H.room) :
    Calls Tryz.prog 32 #[.pointer (some ⟨hb, 0, none⟩), .int .i64 n, .agg #[.int .i64 (x).k, .int .i64 (x).n, .string (x).s]] w (Wrote hb (H.pushAt n.toNat vals x) own w (.tuple #[.int .i64 ((vals.length : Int) + 1), .int .i64 0])) := by
  obtain ⟨i0, hi, y0, y1, y2⟩ := info_parts val_info
  have hlen : vals.length ≤ 1048576 := by
    have q1 := sizes_at _ _ _ ht; have q2 := h.few; have q3 := h.roomU; have q4 := h.roomM; simp only [Thing.size] at q1; omega
  have hh := Lib.hid h
  have HA := Lib.hid ha
  have HF := Lib.hid hf
  have HT := Lib.hid (And.intro htv ht)
  clear h ha hf htv ht
  go_enter Tryz.func32, Tryz.ntmps32
  go_wp2_with (first | (go_at_call 42; refine (array_any _ H tvs own _ _ _ _ (.some hb _ _ _ (hh.out.up (by repeat (first | with_reducible exact Up.refl _ | with_reducible assumption | with_reducible refine Up.drewN ?_ _ | with_reducible refine Up.drew ?_ | with_reducible refine Up.alloc ?_ _ | with_reducible refine Up.setCell ?_ (by first | omega | (simp; done) | (simp; omega)) _ | with_reducible refine Up.trans ?_ (by assumption)))))).mono ?_; rintro e w' ⟨rfl, hu⟩; rw [HA.out]; obtain ⟨hc, hf⟩ := And.intro hu.cells hu.ice; have hz := hu.size; (try simp only [World.size_alloc] at hz); (try (have hz0 : w.heap.size < w'.heap.size := by omega))))
  refine (takes_ok hb H tvs own _ (hh.out.up (by repeat (first | with_reducible exact Up.refl _ | with_reducible assumption | with_reducible refine Up.drewN ?_ _ | with_reducible refine Up.drew ?_ | with_reducible refine Up.alloc ?_ _ | with_reducible refine Up.setCell ?_ (by first | omega | (simp; done) | (simp; omega)) _ | with_reducible refine Up.trans ?_ (by assumption)))) HF.out).mono ?_
  rintro e w2 ⟨rfl, hR, hM⟩
  have hMw : Mut own own w w2 := Mut.after (show Up w w' from (by repeat (first | with_reducible exact Up.refl _ | with_reducible assumption | with_reducible refine Up.drewN ?_ _ | with_reducible refine Up.drew ?_ | with_reducible refine Up.alloc ?_ _ | with_reducible refine Up.setCell ?_ (by first | omega | (simp; done) | (simp; omega)) _ | with_reducible refine Up.trans ?_ (by assumption)))) hM
  have HV := Lib.hid (hM.get (hu.get (alloc_get w _)) (by
    cases ho : own w.heap.size with
    | none => rfl
    | some m => have := hh.out.lt _ _ ho; omega))
  have hti := things_at (HRep.some hb ⟨H.room, H.used + 1, H.things⟩ tvs own hR) HT.out.2 HT.out.1
  obtain ⟨sa, cap, hbc, hbo, hrow⟩ : ∃ sa cap, w2.heap[b]? = some (.cells #[.slice sa vals.length cap] 89 (0, 0)) ∧ own b = some (n.toNat + 1, 0) ∧ Row w2 own (n.toNat + 1, 1) 34 3 (.slice sa vals.length cap) vals.length (vals.flatMap Val.cells) := by
    cases hti with
    | arr _ _ av hb' hc' hr' =>
      obtain ⟨sa, cap, rfl, _⟩ := ThingIs.arrow hr'
      exact ⟨sa, cap, hc', hb', hr'⟩
  have s0 := HV.out
  have a0 := cell_of s0 0; have a1 := cell_of s0 1; have a2 := cell_of s0 2; have f0 := ice_of s0 0; have f1 := ice_of s0 1; have f2 := ice_of s0 2; have a4 := lt_of_heap s0; (try simp only [World.size_alloc, List.getElem?_toArray, List.getElem?_cons_zero, List.getElem?_cons_succ] at a0 a1 a2 f0 f1 f2 a4); clear s0
  have HB := Lib.hid (And.intro hbc (And.intro hbo hrow))
  have s0 := hbc
  have a0 := cell_of s0 0; have a1 := cell_of s0 1; have a2 := cell_of s0 2; have f0 := ice_of s0 0; have f1 := ice_of s0 1; have f2 := ice_of s0 2; have a4 := lt_of_heap s0; (try simp only [World.size_alloc, List.getElem?_toArray, List.getElem?_cons_zero, List.getElem?_cons_succ] at a0 a1 a2 f0 f1 f2 a4); clear s0
  clear hc hf hu hbc hbo hrow hti
  go_wp2_with fail
  go_region_law
    (first | (go_simp; go_at_call 35; refine (plain_any _ ⟨H.room, H.used + 1, H.things⟩ tvs own _ _ _ _ (.some hb _ _ _ (hR.up (by repeat (first | with_reducible exact Up.refl _ | with_reducible assumption | with_reducible refine Up.drewN ?_ _ | with_reducible refine Up.drew ?_ | with_reducible refine Up.alloc ?_ _ | with_reducible refine Up.setCell ?_ (by first | omega | (simp; done) | (simp; omega)) _ | with_reducible refine Up.trans ?_ (by assumption)))))).mono ?_; rintro e w3 ⟨rfl, hu3⟩; have s0 := hu3.get (Up.get (by repeat (first | with_reducible exact Up.refl _ | with_reducible assumption | with_reducible refine Up.drewN ?_ _ | with_reducible refine Up.drew ?_ | with_reducible refine Up.alloc ?_ _ | with_reducible refine Up.setCell ?_ (by first | omega | (simp; done) | (simp; omega)) _ | with_reducible refine Up.trans ?_ (by assumption))) HV.out); have a0 := cell_of s0 0; have a1 := cell_of s0 1; have a2 := cell_of s0 2; have f0 := ice_of s0 0; have f1 := ice_of s0 1; have f2 := ice_of s0 2; have a4 := lt_of_heap s0; (try simp only [World.size_alloc, List.getElem?_toArray, List.getElem?_cons_zero, List.getElem?_cons_succ] at a0 a1 a2 f0 f1 f2 a4); clear s0; have s0 := hu3.get (Up.get (by repeat (first | with_reducible exact Up.refl _ | with_reducible assumption | with_reducible refine Up.drewN ?_ _ | with_reducible refine Up.drew ?_ | with_reducible refine Up.alloc ?_ _ | with_reducible refine Up.setCell ?_ (by first | omega | (simp; done) | (simp; omega)) _ | with_reducible refine Up.trans ?_ (by assumption))) HB.out.1); have a0 := cell_of s0 0; have a1 := cell_of s0 1; have a2 := cell_of s0 2; have f0 := ice_of s0 0; have f1 := ice_of s0 1; have f2 := ice_of s0 2; have a4 := lt_of_heap s0; (try simp only [World.size_alloc, List.getElem?_toArray, List.getElem?_cons_zero, List.getElem?_cons_succ] at a0 a1 a2 f0 f1 f2 a4); clear s0) | (refine step_append_new rfl _ _ 83 rfl 34 i0 (.agg #[.int .i64 0, .int .i64 0, .string ⟨#[]⟩]) 3 32 Tryz.underlying83 hi y0 y1 y2 rfl (by decide) (.slice sa vals.length cap) vals.length (vals.flatMap Val.cells) rfl (HB.out.2.2.up (by repeat (first | with_reducible exact Up.refl _ | with_reducible assumption | with_reducible refine Up.drewN ?_ _ | with_reducible refine Up.drew ?_ | with_reducible refine Up.alloc ?_ _ | with_reducible refine Up.setCell ?_ (by first | omega | (simp; done) | (simp; omega)) _ | with_reducible refine Up.trans ?_ (by assumption)))).1 _ 1 1 rfl ?_ rfl ?_ ?_ ?_ ?_; rfl; (simp [Value.oneCell']); (unfold maxLen; omega); omega; intro sa' cap' w4 hown' hgrow hblk; have s0 := grown_get hgrow (Up.get (by repeat (first | with_reducible exact Up.refl _ | with_reducible assumption | with_reducible refine Up.drewN ?_ _ | with_reducible refine Up.drew ?_ | with_reducible refine Up.alloc ?_ _ | with_reducible refine Up.setCell ?_ (by first | omega | (simp; done) | (simp; omega)) _ | with_reducible refine Up.trans ?_ (by assumption))) HB.out.1) (fun e => by have h9 := HB.out.2.2.2 b e; rw [HB.out.2.1] at h9; cases h9); have a0 := cell_of s0 0; have a1 := cell_of s0 1; have a2 := cell_of s0 2; have f0 := ice_of s0 0; have f1 := ice_of s0 1; have f2 := ice_of s0 2; have a4 := lt_of_heap s0; (try simp only [World.size_alloc, List.getElem?_toArray, List.getElem?_cons_zero, List.getElem?_cons_succ] at a0 a1 a2 f0 f1 f2 a4); clear s0; have s0 := grown_get hgrow (Up.get (w := w2) (by repeat (first | with_reducible exact Up.refl _ | with_reducible assumption | with_reducible refine Up.drewN ?_ _ | with_reducible refine Up.drew ?_ | with_reducible refine Up.alloc ?_ _ | with_reducible refine Up.setCell ?_ (by first | omega | (simp; done) | (simp; omega)) _ | with_reducible refine Up.trans ?_ (by assumption))) HV.out) (fun e => by have h9 := hR.lt _ _ (HB.out.2.2.2 _ e); have h8 := HB.out.2.2.2 _ e; have h7 := hh.out.lt _ _ h8; omega); have a0 := cell_of s0 0; have a1 := cell_of s0 1; have a2 := cell_of s0 2; have f0 := ice_of s0 0; have f1 := ice_of s0 1; have f2 := ice_of s0 2; have a4 := lt_of_heap s0; (try simp only [World.size_alloc, List.getElem?_toArray, List.getElem?_cons_zero, List.getElem?_cons_succ] at a0 a1 a2 f0 f1 f2 a4); clear s0))
  all_goals
    have HG := Lib.hid (And.intro hown' (And.intro hgrow hblk))
    clear hown' hgrow hblk
    go_wp2
    go_ret2
    obtain ⟨hown', hgrow, hblk⟩ := HG.out
    obtain ⟨own', h1, h2⟩ := push_turned (x := plainS H x) (hR.up (by repeat (first | with_reducible exact Up.refl _ | with_reducible assumption | with_reducible refine Up.drewN ?_ _ | with_reducible refine Up.drew ?_ | with_reducible refine Up.alloc ?_ _ | with_reducible refine Up.setCell ?_ (by first | omega | (simp; done) | (simp; omega)) _ | with_reducible refine Up.trans ?_ (by assumption)))) HT.out.2 HT.out.1 (Up.get (by repeat (first | with_reducible exact Up.refl _ | with_reducible assumption | with_reducible refine Up.drewN ?_ _ | with_reducible refine Up.drew ?_ | with_reducible refine Up.alloc ?_ _ | with_reducible refine Up.setCell ?_ (by first | omega | (simp; done) | (simp; omega)) _ | with_reducible refine Up.trans ?_ (by assumption))) HB.out.1) HB.out.2.1 (HB.out.2.2.up (by repeat (first | with_reducible exact Up.refl _ | with_reducible assumption | with_reducible refine Up.drewN ?_ _ | with_reducible refine Up.drew ?_ | with_reducible refine Up.alloc ?_ _ | with_reducible refine Up.setCell ?_ (by first | omega | (simp; done) | (simp; omega)) _ | with_reducible refine Up.trans ?_ (by assumption)))) hown' hgrow (by simpa only [World.size_alloc] using hblk) (by
      have q1 := sizes_set H.things n.toNat _ ⟨2, -1, [], vals ++ [plainS H x]⟩ HT.out.2
      have q2 := hh.out.few
      simp only [Thing.size, List.length_append, List.length_singleton] at q1
      show (sizes (H.things.set n.toNat ⟨2, -1, [], vals ++ [plainS H x]⟩) : Int) ≤ H.used + 1
      omega)
    exact ⟨rfl, tvs, own', h1, (hMw.up (by repeat (first | with_reducible exact Up.refl _ | with_reducible assumption | with_reducible refine Up.drewN ?_ _ | with_reducible refine Up.drew ?_ | with_reducible refine Up.alloc ?_ _ | with_reducible refine Up.setCell ?_ (by first | omega | (simp; done) | (simp; omega)) _ | with_reducible refine Up.trans ?_ (by assumption)))).trans h2⟩

theorem Push_any (hb : Nat) (H : HM) (tvs : List Value) (own : Own) (n : Int) (x : Val) (w : World) (h : Rep w hb H tvs own) :
    Calls Tryz.prog 32 #[.pointer (some ⟨hb, 0, none⟩), .int .i64 n, .agg #[.int .i64 (x).k, .int .i64 (x).n, .string (x).s]] w (Wrote hb (H.push n x).1 own w (.tuple #[.int .i64 (H.push n x).2.1, .int .i64 (H.push n x).2.2])) := by
  have hw : ∀ (v : Value) (e : Ending) (w' : World), (e = .returned v ∧ Up w w') → Wrote hb H own w v e w' := fun v e w' ⟨h1, h2⟩ => ⟨h1, tvs, own, h.up h2, h2.mut own⟩
  unfold HM.push
  by_cases ht : H.there n = true
  · rw [if_pos ht]
    obtain ⟨h0, tv, t, hth, htv, hti⟩ := there_get (.some hb _ _ _ h) ht
    rw [hth]
    cases hti with
    | arr vals b av hb' hc hr =>
      dsimp only
      rw [if_pos rfl]
      have ha : arrOf H tvs 5 n = .pointer (some ⟨b, 0, none⟩) := by simp [arrOf, ht, List.getD, htv]
      by_cases hf : H.used < H.room
      · rw [if_pos hf]
        exact Push_room hb H tvs own n x w h b vals htv hth ha hf
      · rw [if_neg hf]
        exact (Push_full hb H tvs own n x w h b ha (by omega)).mono (hw _)
    | obj k' p l b mv kv hk' hp hpi hb' hc hm hr hn =>
      dsimp only
      rw [if_neg (by omega)]
      exact (Push_none _ H tvs own n x w (.some hb _ _ _ h) (by simp [arrOf, ht, List.getD, htv])).mono (hw _)
  · rw [if_neg ht]
    exact (Push_none _ H tvs own n x w (.some hb _ _ _ h) (by simp [arrOf, ht])).mono (hw _)

end Go.Proofs.YtmbipadiaggolaaGreatDoor
