import Derived.Deep.RegionLaw
import Derived.RangeFuncNested
import Derived.RangeFuncBound
import Derived.RangeFuncCalls
import Derived.RangeFuncLeaves
import Derived.OwnWalkIn
import Derived.TacticsInMore
import Derived.LoopNIn
import Derived.LoopIn
import Derived.Deep.RegionHeld3
import Derived.Deep.CutRange
import Derived.Deep.DeepCutAuto
import Derived.Test.YtmbipadiaggolaaGreatDoorM11
import Derived.Test.YtmbipadiaggolaaGreatDoorM10
/- YtmbipadiaggolaaGreatDoorM12: lemmas of the proof, in order: HeapWB, HeapWC, TextG. -/
/- Walks: Push. -/
namespace Go.Proofs.YtmbipadiaggolaaGreatDoor
open Go.RowKit
set_option linter.unusedSimpArgs false
attribute [local go_sem] ta_aa ta_ao ta_an ta_oa ta_oo ta_on m_kind_a m_kind_o m_behind_a m_behind_o m_own_a m_own_o

theorem val_info : (Tryz.prog.info? 34).map (fun i => (i.zero, i.size, i.bytes)) = some (some (.agg #[.int .i64 0, .int .i64 0, .string ⟨#[]⟩]), 3, 32) := by kernel_rfl

/-- the values of an array, one more -/
def HM.pushAt (H : HM) (n : Nat) (vals : List Val) (x : Val) : HM := ⟨H.room, H.used + 1, H.things.set n ⟨2, -1, [], vals ++ [plainS H x]⟩⟩

/-- Push, as a whole -/
def HM.push (H : HM) (n : Int) (x : Val) : HM × Int × Int :=
  if H.there n = true then
    match H.things[n.toNat]? with
    | none => (H, -1, 1)
    | some t =>
      if t.kind = 2 then (if H.used < H.room then (H.pushAt n.toNat t.vals x, (t.vals.length : Int) + 1, 0) else (H, -1, 3))
      else (H, -1, 1)
  else (H, -1, 1)

set_option maxRecDepth 100000 in
set_option maxHeartbeats 1600000 in
theorem Push_none (hv : Value) (H : HM) (tvs : List Value) (own : Own) (n : Int) (x : Val) (w : World) (h : HRep w hv H tvs own) (ha : arrOf H tvs 5 n = .pointer none) :
    Calls Tryz.prog 32 #[hv, .int .i64 n, .agg #[.int .i64 (x).k, .int .i64 (x).n, .string (x).s]] w fun e w' => e = .returned (.tuple #[.int .i64 (-1), .int .i64 1]) ∧ Up w w' := by
  have hh := Lib.hid h
  have HA := Lib.hid ha
  clear h ha
  go_enter Tryz.func32, Tryz.ntmps32
  go_wp2_with (first | (go_at_call 42; refine (array_any hv H tvs own _ _ _ _ (hh.out.up uq)).mono ?_; rintro e w' ⟨rfl, hu⟩; rw [HA.out]; obtain ⟨hc, hf⟩ := And.intro hu.cells hu.ice; have hz := hu.size; (try simp only [World.size_alloc] at hz); (try (have hz0 : w.heap.size < w'.heap.size := by omega))))
  go_ret2
  exact ⟨rfl, uq⟩

set_option maxRecDepth 100000 in
set_option maxHeartbeats 1600000 in
theorem Push_full (hb : Nat) (H : HM) (tvs : List Value) (own : Own) (n : Int) (x : Val) (w : World) (h : Rep w hb H tvs own) (b : Nat) (ha : arrOf H tvs 5 n = .pointer (some ⟨b, 0, none⟩)) (hf : H.room ≤ H.used) :
    Calls Tryz.prog 32 #[.pointer (some ⟨hb, 0, none⟩), .int .i64 n, .agg #[.int .i64 (x).k, .int .i64 (x).n, .string (x).s]] w fun e w' => e = .returned (.tuple #[.int .i64 (-1), .int .i64 3]) ∧ Up w w' := by
  have hh := Lib.hid h
  have HA := Lib.hid ha
  have HF := Lib.hid hf
  clear h ha hf
  go_enter Tryz.func32, Tryz.ntmps32
  go_wp2_with (first | (go_at_call 42; refine (array_any _ H tvs own _ _ _ _ (.some hb _ _ _ (hh.out.up uq))).mono ?_; rintro e w' ⟨rfl, hu⟩; rw [HA.out]; obtain ⟨hc, hf⟩ := And.intro hu.cells hu.ice; have hz := hu.size; (try simp only [World.size_alloc] at hz); (try (have hz0 : w.heap.size < w'.heap.size := by omega))) | (go_at_call 43; refine (takes_full _ H tvs own _ (.some hb _ _ _ (hh.out.up uq)) HF.out).mono ?_; rintro e w2 ⟨rfl, hu2⟩))
  go_ret2
  exact ⟨rfl, uq⟩

section
variable {P : Program} {w : World}
theorem step_append_row {ops : Array Oper} {o : Oper} {a : Act} {K : Act → World → Prop} {Q : Exit → Act → World → Prop} {E : Prop} (hgd : o.guard = none) (s x : Operand) (t : TypeId)
    (ho : o.op = .call { callee := .builtin .append, args := #[s, x], argTypes := #[t, t] })
    (e : TypeId) (i : TypeInfo) (z : Value) (size bytes : Nat) (ht : P.underlying t = some (.slice e)) (hi : P.info? e = some i) (hz : i.zero = some z)
    (hsize : i.size = size) (hby : i.bytes = bytes) (hzs : z.cells.size = size) (hsz : 0 < size)
    (v : Value) (n : Nat) (xs : List Value) (hs : a.eval s = v) (hown : w.ownsRow 0 e size v n xs)
    (ad : Addr) (m c : Nat) (news : List Value) (hx : a.eval x = .slice (some ad) m c) (hl : news.length = m * size) (hnews : ∀ j u, news[j]? = some u → w.cell? (ad.add j) = some u) (h1 : ∀ u ∈ news, u.oneCell' = true)
    (h63 : n + m ≤ maxLen) (hbytes : (n + m) * bytes ≤ 140737488355328)
    (h : ∀ sa cap w', w'.ownsRow 0 e size (.slice sa (n + m) cap) (n + m) (xs ++ news) → w.grownBy w' v.ownBlock →
      ((Value.slice sa (n + m) cap).ownBlock = v.ownBlock ∨ ∃ g, (Value.slice sa (n + m) cap).ownBlock = some g ∧ w.heap.size ≤ g) → K (a.put o.dst (.slice sa (n + m) cap)) w') :
    if Region.wanted o (yielded ops a.tmps) = true then Oper.wp P o a w K Q else E := by
  have hw : Region.wanted o (yielded ops a.tmps) = true := by simp [Region.wanted, hgd]
  rw [if_pos hw]
  exact wp_append_row s x t ho e i z size bytes ht hi hz hsize hby hzs hsz v n xs hs hown ad m c news hx hl hnews h1 h63 hbytes h

/-- append of elements that the operation ahead has laid into a block of their own, within a region -/
theorem step_append_new {W : World} {cs : Array Value} {te : TypeId} {ops : Array Oper} {o : Oper} {a : Act} {K : Act → World → Prop} {Q : Exit → Act → World → Prop} {E : Prop} (hgd : o.guard = none) (s x : Operand) (t : TypeId)
    (ho : o.op = .call { callee := .builtin .append, args := #[s, x], argTypes := #[t, t] })
    (e : TypeId) (i : TypeInfo) (z : Value) (size bytes : Nat) (ht : P.underlying t = some (.slice e)) (hi : P.info? e = some i) (hz : i.zero = some z)
    (hsize : i.size = size) (hby : i.bytes = bytes) (hzs : z.cells.size = size) (hsz : 0 < size)
    (v : Value) (n : Nat) (xs : List Value) (hs : a.eval s = v) (hown : (W.alloc (.cells cs te)).ownsRow 0 e size v n xs)
    (b m c : Nat) (hx : a.eval x = .slice (some ⟨b, 0, none⟩) m c) (hb : b = W.heap.size) (hl : cs.size = m * size) (h1 : ∀ u ∈ cs.toList, u.oneCell' = true)
    (h63 : n + m ≤ maxLen) (hbytes : (n + m) * bytes ≤ 140737488355328)
    (h : ∀ sa cap w', w'.ownsRow 0 e size (.slice sa (n + m) cap) (n + m) (xs ++ cs.toList) → (W.alloc (.cells cs te)).grownBy w' v.ownBlock →
      ((Value.slice sa (n + m) cap).ownBlock = v.ownBlock ∨ ∃ g, (Value.slice sa (n + m) cap).ownBlock = some g ∧ W.heap.size + 1 ≤ g) → K (a.put o.dst (.slice sa (n + m) cap)) w') :
    if Region.wanted o (yielded ops a.tmps) = true then Oper.wp P o a (W.alloc (.cells cs te)) K Q else E :=
  step_append_row hgd s x t ho e i z size bytes ht hi hz hsize hby hzs hsz v n xs hs hown ⟨b, 0, none⟩ m c cs.toList hx (by rw [Array.length_toList]; exact hl) (cells_new W cs te b hb) h1 h63 hbytes
    (fun sa cap w' g1 g2 g3 => h sa cap w' g1 g2 (by simpa only [World.size_alloc] using g3))
end

/-- an array has one value more -/
theorem push_turned {W w4 : World} {hb : Nat} {H : HM} {tvs : List Value} {own : Own} {i : Nat} {vals : List Val} {b : Nat} {sa sa' : Option Addr} {cap cap' : Nat} {x : Val} (h : Rep W hb H tvs own)
    (ht : H.things[i]? = some ⟨2, -1, [], vals⟩) (htv : tvs[i]? = some (.iface 86 (.pointer (some ⟨b, 0, none⟩)))) (hbc : W.heap[b]? = some (.cells #[.slice sa vals.length cap] 89 (0, 0))) (hbo : own b = some (i + 1, 0))
    (hrow : Row W own (i + 1, 1) 34 3 (.slice sa vals.length cap) vals.length (vals.flatMap Val.cells))
    (hown : w4.ownsRow 0 34 3 (.slice sa' (vals.length + 1) cap') (vals.length + 1) (vals.flatMap Val.cells ++ x.cells)) (hgrow : W.grownBy w4 (Value.slice sa vals.length cap).ownBlock)
    (hblk : (Value.slice sa' (vals.length + 1) cap').ownBlock = (Value.slice sa vals.length cap).ownBlock ∨ ∃ g, (Value.slice sa' (vals.length + 1) cap').ownBlock = some g ∧ W.heap.size ≤ g)
    (hsz : (sizes (H.things.set i ⟨2, -1, [], vals ++ [x]⟩) : Int) ≤ H.used) :
    ∃ own', Rep (w4.setCell ⟨b, 0, none⟩ (.slice sa' (vals.length + 1) cap')) hb ⟨H.room, H.used, H.things.set i ⟨2, -1, [], vals ++ [x]⟩⟩ tvs own' ∧ Mut own own' W (w4.setCell ⟨b, 0, none⟩ (.slice sa' (vals.length + 1) cap')) := by
  have hbl := lt_of_heap hbc
  have hold : (Value.slice sa vals.length cap).ownBlock ≠ some b := fun e => by
    have := hrow.2 b e
    rw [hbo] at this; cases this
  have hne : (Value.slice sa' (vals.length + 1) cap').ownBlock ≠ some b := fun e => by
    rcases hblk with hk | ⟨g, hk, hk'⟩
    · exact hold (by rw [← hk]; exact e)
    · rw [hk] at e; cases e; omega
  have hin : ∀ g, (Value.slice sa' (vals.length + 1) cap').ownBlock = some g → own g = some (i + 1, 1) ∨ W.heap.size ≤ g := fun g hg => by
    rcases hblk with hk | ⟨g', hk, hk'⟩
    · exact .inl (hrow.2 g (by rw [← hk]; exact hg))
    · rw [hk] at hg; cases hg; exact .inr hk'
  have hw4 := hgrow.size
  refine ⟨fun c => if (Value.slice sa' (vals.length + 1) cap').ownBlock = some c then some (i + 1, 1) else own c, ?_⟩
  refine Rep.turned h ?_ ?_ ?_ ht htv ?_ hsz
  · exact ((Kept.refl _ W).grow hgrow fun k hk => .inl ⟨_, hrow.2 k hk, rfl⟩).setCell (.inl ⟨_, hbo, rfl⟩) _
  · intro c hc
    show (if _ then _ else _) = _
    by_cases hg : (Value.slice sa' (vals.length + 1) cap').ownBlock = some c
    · rw [if_pos hg]
      rcases hin c hg with h' | h'
      · exact h'.symm
      · omega
    · rw [if_neg hg]
  · intro c m hm
    have hm : (if (Value.slice sa' (vals.length + 1) cap').ownBlock = some c then some (i + 1, 1) else own c) = some m := hm
    rw [setCell_size]
    by_cases hg : (Value.slice sa' (vals.length + 1) cap').ownBlock = some c
    · rw [if_pos hg] at hm
      cases hm
      exact ⟨ownBlock_lt hown hg, fun _ => rfl⟩
    · rw [if_neg hg] at hm
      have := h.lt c m hm
      exact ⟨Nat.lt_of_lt_of_le this hw4, fun h' => by omega⟩
  · refine .arr _ b (.slice sa' (vals.length + 1) cap') ?_ ?_ ?_
    · show (if _ then _ else _) = _
      rw [if_neg hne]; exact hbo
    · have := setCell_block (i := 0) (grown_get hgrow hbc hold) (.slice sa' (vals.length + 1) cap')
      simpa using this
    · refine ⟨ownsRow_keep ?_ fun g hg => setCell_other (fun e => by subst e; exact hne hg) _, fun g hg => by
        show (if _ then _ else _) = _
        rw [if_pos]; simpa using hg⟩
      simpa using hown

set_option maxRecDepth 100000 in
set_option maxHeartbeats 1600000 in
theorem Push_room (hb : Nat) (H : HM) (tvs : List Value) (own : Own) (n : Int) (x : Val) (w : World) (h : Rep w hb H tvs own) (b : Nat) (vals : List Val) (htv : tvs[n.toNat]? = some (.iface 86 (.pointer (some ⟨b, 0, none⟩)))) (ht : H.things[n.toNat]? = some ⟨2, -1, [], vals⟩) (ha : arrOf H tvs 5 n = .pointer (some ⟨b, 0, none⟩)) (hf : H.used < H.room) :
    Calls Tryz.prog 32 #[.pointer (some ⟨hb, 0, none⟩), .int .i64 n, .agg #[.int .i64 (x).k, .int .i64 (x).n, .string (x).s]] w (Wrote hb (H.pushAt n.toNat vals x) own w (.tuple #[.int .i64 ((vals.length : Int) + 1), .int .i64 0])) := by
  obtain ⟨i0, hi, y0, y1, y2⟩ := info_parts val_info
  have hlen : vals.length ≤ 1048576 := by
    have q1 := sizes_at _ _ _ ht; have q2 := h.few; have q3 := h.roomU; have q4 := h.roomM; simp only [Thing.size] at q1; omega
  have hh := Lib.hid h
  have HA := Lib.hid ha
  have HF := Lib.hid hf
  have HT := Lib.hid (And.intro htv ht)
  clear h ha hf htv ht
  go_enter Tryz.func32, Tryz.ntmps32
  go_wp2_with (first | (go_at_call 42; refine (array_any _ H tvs own _ _ _ _ (.some hb _ _ _ (hh.out.up uq))).mono ?_; rintro e w' ⟨rfl, hu⟩; rw [HA.out]; obtain ⟨hc, hf⟩ := And.intro hu.cells hu.ice; have hz := hu.size; (try simp only [World.size_alloc] at hz); (try (have hz0 : w.heap.size < w'.heap.size := by omega))))
  refine (takes_ok hb H tvs own _ (hh.out.up uq) HF.out).mono ?_
  rintro e w2 ⟨rfl, hR, hM⟩
  have hMw : Mut own own w w2 := Mut.after (show Up w w' from uq) hM
  have HV := Lib.hid (hM.get (hu.get (alloc_get w _)) (by
    cases ho : own w.heap.size with
    | none => rfl
    | some m => have := hh.out.lt _ _ ho; omega))
  have hti := things_at (HRep.some hb ⟨H.room, H.used + 1, H.things⟩ tvs own hR) HT.out.2 HT.out.1
  obtain ⟨sa, cap, hbc, hbo, hrow⟩ : ∃ sa cap, w2.heap[b]? = some (.cells #[.slice sa vals.length cap] 89 (0, 0)) ∧ own b = some (n.toNat + 1, 0) ∧ Row w2 own (n.toNat + 1, 1) 34 3 (.slice sa vals.length cap) vals.length (vals.flatMap Val.cells) := by
    cases hti with
    | arr _ _ av hb' hc' hr' =>
      obtain ⟨sa, cap, rfl, _⟩ := ThingIs.arrow hr'
      exact ⟨sa, cap, hc', hb', hr'⟩
  have s0 := HV.out
  have a0 := cell_of s0 0; have a1 := cell_of s0 1; have a2 := cell_of s0 2; have f0 := ice_of s0 0; have f1 := ice_of s0 1; have f2 := ice_of s0 2; have a4 := lt_of_heap s0; (try simp only [World.size_alloc, List.getElem?_toArray, List.getElem?_cons_zero, List.getElem?_cons_succ] at a0 a1 a2 f0 f1 f2 a4); clear s0
  have HB := Lib.hid (And.intro hbc (And.intro hbo hrow))
  have s0 := hbc
  have a0 := cell_of s0 0; have a1 := cell_of s0 1; have a2 := cell_of s0 2; have f0 := ice_of s0 0; have f1 := ice_of s0 1; have f2 := ice_of s0 2; have a4 := lt_of_heap s0; (try simp only [World.size_alloc, List.getElem?_toArray, List.getElem?_cons_zero, List.getElem?_cons_succ] at a0 a1 a2 f0 f1 f2 a4); clear s0
  clear hc hf hu hbc hbo hrow hti
  go_wp2_with fail
  go_region_law
    (first | (go_simp; go_at_call 35; refine (plain_any _ ⟨H.room, H.used + 1, H.things⟩ tvs own _ _ _ _ (.some hb _ _ _ (hR.up uq))).mono ?_; rintro e w3 ⟨rfl, hu3⟩; have s0 := hu3.get (Up.get uq HV.out); have a0 := cell_of s0 0; have a1 := cell_of s0 1; have a2 := cell_of s0 2; have f0 := ice_of s0 0; have f1 := ice_of s0 1; have f2 := ice_of s0 2; have a4 := lt_of_heap s0; (try simp only [World.size_alloc, List.getElem?_toArray, List.getElem?_cons_zero, List.getElem?_cons_succ] at a0 a1 a2 f0 f1 f2 a4); clear s0; have s0 := hu3.get (Up.get uq HB.out.1); have a0 := cell_of s0 0; have a1 := cell_of s0 1; have a2 := cell_of s0 2; have f0 := ice_of s0 0; have f1 := ice_of s0 1; have f2 := ice_of s0 2; have a4 := lt_of_heap s0; (try simp only [World.size_alloc, List.getElem?_toArray, List.getElem?_cons_zero, List.getElem?_cons_succ] at a0 a1 a2 f0 f1 f2 a4); clear s0) | (refine step_append_new rfl _ _ 83 rfl 34 i0 (.agg #[.int .i64 0, .int .i64 0, .string ⟨#[]⟩]) 3 32 Tryz.underlying83 hi y0 y1 y2 rfl (by decide) (.slice sa vals.length cap) vals.length (vals.flatMap Val.cells) rfl (HB.out.2.2.up uq).1 _ 1 1 rfl ?_ rfl ?_ ?_ ?_ ?_; rfl; (simp [Value.oneCell']); (unfold maxLen; omega); omega; intro sa' cap' w4 hown' hgrow hblk; have s0 := grown_get hgrow (Up.get uq HB.out.1) (fun e => by have h9 := HB.out.2.2.2 b e; rw [HB.out.2.1] at h9; cases h9); have a0 := cell_of s0 0; have a1 := cell_of s0 1; have a2 := cell_of s0 2; have f0 := ice_of s0 0; have f1 := ice_of s0 1; have f2 := ice_of s0 2; have a4 := lt_of_heap s0; (try simp only [World.size_alloc, List.getElem?_toArray, List.getElem?_cons_zero, List.getElem?_cons_succ] at a0 a1 a2 f0 f1 f2 a4); clear s0; have s0 := grown_get hgrow (Up.get (w := w2) uq HV.out) (fun e => by have h9 := hR.lt _ _ (HB.out.2.2.2 _ e); have h8 := HB.out.2.2.2 _ e; have h7 := hh.out.lt _ _ h8; omega); have a0 := cell_of s0 0; have a1 := cell_of s0 1; have a2 := cell_of s0 2; have f0 := ice_of s0 0; have f1 := ice_of s0 1; have f2 := ice_of s0 2; have a4 := lt_of_heap s0; (try simp only [World.size_alloc, List.getElem?_toArray, List.getElem?_cons_zero, List.getElem?_cons_succ] at a0 a1 a2 f0 f1 f2 a4); clear s0))
  all_goals
    have HG := Lib.hid (And.intro hown' (And.intro hgrow hblk))
    clear hown' hgrow hblk
    go_wp2
    go_ret2
    obtain ⟨hown', hgrow, hblk⟩ := HG.out
    obtain ⟨own', h1, h2⟩ := push_turned (x := plainS H x) (hR.up uq) HT.out.2 HT.out.1 (Up.get uq HB.out.1) HB.out.2.1 (HB.out.2.2.up uq) hown' hgrow (by simpa only [World.size_alloc] using hblk) (by
      have q1 := sizes_set H.things n.toNat _ ⟨2, -1, [], vals ++ [plainS H x]⟩ HT.out.2
      have q2 := hh.out.few
      simp only [Thing.size, List.length_append, List.length_singleton] at q1
      show (sizes (H.things.set n.toNat ⟨2, -1, [], vals ++ [plainS H x]⟩) : Int) ≤ H.used + 1
      omega)
    exact ⟨rfl, tvs, own', h1, (hMw.up uq).trans h2⟩

theorem Push_any (hb : Nat) (H : HM) (tvs : List Value) (own : Own) (n : Int) (x : Val) (w : World) (h : Rep w hb H tvs own) :
    Calls Tryz.prog 32 #[.pointer (some ⟨hb, 0, none⟩), .int .i64 n, .agg #[.int .i64 (x).k, .int .i64 (x).n, .string (x).s]] w (Wrote hb (H.push n x).1 own w (.tuple #[.int .i64 (H.push n x).2.1, .int .i64 (H.push n x).2.2])) := by
  have hw : ∀ (v : Value) (e : Ending) (w' : World), (e = .returned v ∧ Up w w') → Wrote hb H own w v e w' := fun v e w' ⟨h1, h2⟩ => ⟨h1, tvs, own, h.up h2, h2.mut own⟩
  unfold HM.push
  by_cases ht : H.there n = true
  · rw [if_pos ht]
    obtain ⟨h0, tv, t, hth, htv, hti⟩ := there_get (.some hb _ _ _ h) ht
    rw [hth]
    cases hti with
    | arr vals b av hb' hc hr =>
      dsimp only
      rw [if_pos rfl]
      have ha : arrOf H tvs 5 n = .pointer (some ⟨b, 0, none⟩) := by simp [arrOf, ht, List.getD, htv]
      by_cases hf : H.used < H.room
      · rw [if_pos hf]
        exact Push_room hb H tvs own n x w h b vals htv hth ha hf
      · rw [if_neg hf]
        exact (Push_full hb H tvs own n x w h b ha (by omega)).mono (hw _)
    | obj k' p l b mv kv hk' hp hpi hb' hc hm hr hn =>
      dsimp only
      rw [if_neg (by omega)]
      exact (Push_none _ H tvs own n x w (.some hb _ _ _ h) (by simp [arrOf, ht, List.getD, htv])).mono (hw _)
  · rw [if_neg ht]
    exact (Push_none _ H tvs own n x w (.some hb _ _ _ h) (by simp [arrOf, ht])).mono (hw _)

end Go.Proofs.YtmbipadiaggolaaGreatDoor

/- Walks: At, of an array. -/
namespace Go.Proofs.YtmbipadiaggolaaGreatDoor
open Go.RowKit
set_option linter.unusedSimpArgs false
attribute [local go_sem] Oper.semAt_some ta_aa ta_ao ta_an ta_oa ta_oo ta_on m_kind_a m_kind_o m_behind_a m_behind_o m_own_a m_own_o

/-- the boxes of At: v and index as they count, and its results -/
structure AtBoxes (w : World) (v i : Val) (W : World) : Prop where
  up : Up w W
  v : W.heap[w.heap.size]? = some (.cells #[.int .i64 v.k, .int .i64 v.n, .string v.s] 34 (0, 0))
  i : W.heap[w.heap.size + 1]? = some (.cells #[.int .i64 i.k, .int .i64 i.n, .string i.s] 34 (0, 0))
  r0 : W.heap[w.heap.size + 1 + 1]? = some (.cells #[.int .i64 0, .int .i64 0, .string ⟨#[]⟩] 34 (0, 0))
  r1 : W.heap[w.heap.size + 1 + 1 + 1]? = some (.cells #[.string ⟨#[]⟩] 9 (0, 0))
  r2 : W.heap[w.heap.size + 1 + 1 + 1 + 1]? = some (.cells #[.int .i64 0] 3 (0, 0))

theorem AtBoxes.to {w W W' : World} {v i : Val} (h : AtBoxes w v i W) (k : Up W W') : AtBoxes w v i W' := ⟨h.up.trans k, k.get h.v, k.get h.i, k.get h.r0, k.get h.r1, k.get h.r2⟩

theorem alloc_keep {W : World} {c : Nat} {o p : Obj} (h : W.heap[c]? = some p) : (W.alloc o).heap[c]? = some p := by rw [alloc_old W o c (lt_of_heap h)]; exact h

theorem at_start (w : World) (v i : Val) : AtBoxes w v i (((((w.alloc (.cells #[.int .i64 v.k, .int .i64 v.n, .string v.s] 34)).alloc (.cells #[.int .i64 i.k, .int .i64 i.n, .string i.s] 34)).alloc (.cells #[.int .i64 0, .int .i64 0, .string ⟨#[]⟩] 34)).alloc (.cells #[.string ⟨#[]⟩] 9)).alloc (.cells #[.int .i64 0] 3)) where
  up := (((((Up.refl w).alloc _).alloc _).alloc _).alloc _).alloc _
  v := alloc_keep (alloc_keep (alloc_keep (alloc_keep (alloc_get w _))))
  i := alloc_keep (alloc_keep (alloc_keep (alloc_at _ _ _ (by simp))))
  r0 := alloc_keep (alloc_keep (alloc_at _ _ _ (by simp)))
  r1 := alloc_keep (alloc_at _ _ _ (by simp))
  r2 := alloc_at _ _ _ (by simp)

theorem at_set3 {W : World} {b : Nat} {x y z x' y' z' : Value} {T : TypeId} (h : W.heap[b]? = some (.cells #[x, y, z] T (0, 0))) : (((W.setCell ⟨b, 0, none⟩ x').setCell ⟨b, 1, none⟩ y').setCell ⟨b, 2, none⟩ z').heap[b]? = some (.cells #[x', y', z'] T (0, 0)) := by
  have h1 := setCell_block (i := 0) h x'
  have h2 := setCell_block (i := 1) h1 y'
  have h3 := setCell_block (i := 2) h2 z'
  simpa using h3
theorem at_skip3 {W : World} {b c : Nat} {o : Obj} {x' y' z' : Value} (h : W.heap[c]? = some o) (hne : c ≠ b) : (((W.setCell ⟨b, 0, none⟩ x').setCell ⟨b, 1, none⟩ y').setCell ⟨b, 2, none⟩ z').heap[c]? = some o := by
  rw [setCell_other hne, setCell_other hne, setCell_other hne]; exact h

theorem AtBoxes.stored {w W : World} {v0 i0 : Val} (h : AtBoxes w v0 i0 W) (v i : Val) : AtBoxes w v i ((((((W.setCell ⟨w.heap.size, 0, none⟩ (.int .i64 v.k)).setCell ⟨w.heap.size, 1, none⟩ (.int .i64 v.n)).setCell ⟨w.heap.size, 2, none⟩ (.string v.s)).setCell ⟨w.heap.size + 1, 0, none⟩ (.int .i64 i.k)).setCell ⟨w.heap.size + 1, 1, none⟩ (.int .i64 i.n)).setCell ⟨w.heap.size + 1, 2, none⟩ (.string i.s)) where
  up := Below.trans h.up (show Below w.heap.size W _ from ((((((Below.refl _ W).setCell (p := ⟨w.heap.size, 0, none⟩) (Nat.le_refl _) _).setCell (p := ⟨w.heap.size, 1, none⟩) (Nat.le_refl _) _).setCell (p := ⟨w.heap.size, 2, none⟩) (Nat.le_refl _) _).setCell (p := ⟨w.heap.size + 1, 0, none⟩) (by show w.heap.size ≤ w.heap.size + 1; omega) _).setCell (p := ⟨w.heap.size + 1, 1, none⟩) (by show w.heap.size ≤ w.heap.size + 1; omega) _).setCell (p := ⟨w.heap.size + 1, 2, none⟩) (by show w.heap.size ≤ w.heap.size + 1; omega) _)
  v := at_skip3 (at_set3 h.v) (by omega)
  i := at_set3 (at_skip3 h.i (by omega))
  r0 := at_skip3 (at_skip3 h.r0 (by omega)) (by omega)
  r1 := at_skip3 (at_skip3 h.r1 (by omega)) (by omega)
  r2 := at_skip3 (at_skip3 h.r2 (by omega)) (by omega)

theorem cell_lt3 {w : World} {b o : Nat} {v : Value} (h : w.cell? ⟨b, o, none⟩ = some v) : b < w.heap.size := by
  rcases Nat.lt_or_ge b w.heap.size with h' | h'
  · exact h'
  · simp [World.cell?, Array.getElem?_eq_none h'] at h

theorem cell_set_ne' {w : World} {b c i j : Nat} {v : Value} (h : c ≠ b) : (w.setCell ⟨b, i, none⟩ v).cell? ⟨c, j, none⟩ = w.cell? ⟨c, j, none⟩ := by
  simp [World.cell?, setCell_other h]

/-- what stands at an index -/
def atVal (vals : List Val) (m : Int) : Val := if 0 ≤ m then optV (vals[m.toNat]?) else ⟨0, 0, ⟨#[]⟩⟩

set_option maxRecDepth 100000 in
set_option maxHeartbeats 4000000 in
theorem At_in (hv : Value) (H : HM) (tvs : List Value) (own : Own) (n m : Int) (s s2 : ByteArray) (w : World) (h : HRep w hv H tvs own) (b : Nat) (vals : List Val) (htv : tvs[n.toNat]? = some (.iface 86 (.pointer (some ⟨b, 0, none⟩)))) (ht : H.things[n.toNat]? = some ⟨2, -1, [], vals⟩) (hpn : plainS H ⟨5, n, s⟩ = ⟨5, n, ⟨#[]⟩⟩) (hpm : plainS H ⟨3, m, s2⟩ = ⟨3, m, ⟨#[]⟩⟩) (ha : arrOf H tvs 5 n = .pointer (some ⟨b, 0, none⟩)) :
    Calls Tryz.prog 28 #[hv, .agg #[.int .i64 5, .int .i64 n, .string s], .agg #[.int .i64 3, .int .i64 m, .string s2]] w fun e w' => e = .returned (.tuple #[.agg #[.int .i64 (atVal vals m).k, .int .i64 (atVal vals m).n, .string (atVal vals m).s], .string ⟨#[]⟩, .int .i64 0]) ∧ Up w w' := by
  obtain ⟨sa, cap, hbc, hrow⟩ : ∃ sa cap, w.heap[b]? = some (.cells #[.slice sa vals.length cap] 89 (0, 0)) ∧ Row w own (n.toNat + 1, 1) 34 3 (.slice sa vals.length cap) vals.length (vals.flatMap Val.cells) := by
    have hti := things_at h ht htv
    cases hti with
    | arr _ _ av hb' hc' hr' =>
      obtain ⟨sa, cap, rfl, _⟩ := ThingIs.arrow hr'
      exact ⟨sa, cap, hc', hr'⟩
  have hlen : vals.length ≤ 1048576 := by
    cases h with
    | nil => simp at ht
    | some hb _ _ _ h => have q1 := sizes_at _ _ _ ht; have q2 := h.few; have q3 := h.roomU; have q4 := h.roomM; simp only [Thing.size] at q1; omega
  have HB := Lib.hid (And.intro hbc hrow)
  have hbl := lt_of_heap hbc
  have hh := Lib.hid h
  have HA := Lib.hid ha
  have HP := Lib.hid (And.intro hpn hpm)
  clear h ha htv hpn hpm hbc hrow ht
  refine callsIn_wide.1 (callsIn_of_wp_marks (n := 2) Tryz.func28 rfl trivial ?_)
  refine wpIn_wide.2 ?_
  simp only [Tryz.ntmps28, List.size_toArray, List.length_cons, List.length_nil, Nat.reduceAdd, Nat.reduceSub, Array.replicate_succ, Array.replicate_zero, List.push_toArray, List.append_toArray, List.nil_append, List.cons_append]
  go_wp2_with fail
  have hx : AtBoxes w ⟨5, n, s⟩ ⟨3, m, s2⟩ (((((w.alloc (.cells #[.int .i64 5, .int .i64 n, .string s] 34)).alloc (.cells #[.int .i64 3, .int .i64 m, .string s2] 34)).alloc (.cells #[.int .i64 0, .int .i64 0, .string ⟨#[]⟩] 34)).alloc (.cells #[.string ⟨#[]⟩] 9)).alloc (.cells #[.int .i64 0] 3)) :=
    at_start w _ _
  go_cut [4] from 13 to 18 (fun v4 wx => v4 = .pointer (some ⟨w.heap.size, 0, none⟩) ∧ AtBoxes w ⟨5, n, ⟨#[]⟩⟩ ⟨3, m, ⟨#[]⟩⟩ wx)
  case first =>
    refine wp_region_noPanic ?_
    go_region_law (first | (go_simp; go_at_call 35; refine (plain_any hv H tvs own _ _ _ _ (hh.out.up (hx.up.trans uq))).mono ?_; rintro e w' ⟨rfl, hu⟩; simp only [HP.out.1, HP.out.2]; have hx := hx.to (show Up _ w' from Up.trans uq hu); have s0 := hx.v; have a0 := cell_of s0 0; have a1 := cell_of s0 1; have a2 := cell_of s0 2; have f0 := ice_of s0 0; have f1 := ice_of s0 1; have f2 := ice_of s0 2; have a4 := lt_of_heap s0; (try simp only [World.size_alloc, List.getElem?_toArray, List.getElem?_cons_zero, List.getElem?_cons_succ] at a0 a1 a2 f0 f1 f2 a4); clear s0; have s0 := hx.i; have a0 := cell_of s0 0; have a1 := cell_of s0 1; have a2 := cell_of s0 2; have f0 := ice_of s0 0; have f1 := ice_of s0 1; have f2 := ice_of s0 2; have a4 := lt_of_heap s0; (try simp only [World.size_alloc, List.getElem?_toArray, List.getElem?_cons_zero, List.getElem?_cons_succ] at a0 a1 a2 f0 f1 f2 a4); clear s0; have s0 := hx.r0; have a0 := cell_of s0 0; have a1 := cell_of s0 1; have a2 := cell_of s0 2; have f0 := ice_of s0 0; have f1 := ice_of s0 1; have f2 := ice_of s0 2; have a4 := lt_of_heap s0; (try simp only [World.size_alloc, List.getElem?_toArray, List.getElem?_cons_zero, List.getElem?_cons_succ] at a0 a1 a2 f0 f1 f2 a4); clear s0; have s0 := hx.r1; have a0 := cell_of s0 0; have a1 := cell_of s0 1; have a2 := cell_of s0 2; have f0 := ice_of s0 0; have f1 := ice_of s0 1; have f2 := ice_of s0 2; have a4 := lt_of_heap s0; (try simp only [World.size_alloc, List.getElem?_toArray, List.getElem?_cons_zero, List.getElem?_cons_succ] at a0 a1 a2 f0 f1 f2 a4); clear s0; have s0 := hx.r2; have a0 := cell_of s0 0; have a1 := cell_of s0 1; have a2 := cell_of s0 2; have f0 := ice_of s0 0; have f1 := ice_of s0 1; have f2 := ice_of s0 2; have a4 := lt_of_heap s0; (try simp only [World.size_alloc, List.getElem?_toArray, List.getElem?_cons_zero, List.getElem?_cons_succ] at a0 a1 a2 f0 f1 f2 a4); clear s0))
    all_goals refine NoPanic.normal ?_
    all_goals (go_wp2_with fail; go_meet)
    all_goals exact ⟨rfl, hx.stored _ _⟩
  case rest =>
    obtain ⟨rfl, hx⟩ := hcut
    have s0 := hx.v; have a0 := cell_of s0 0; have a1 := cell_of s0 1; have a2 := cell_of s0 2; have f0 := ice_of s0 0; have f1 := ice_of s0 1; have f2 := ice_of s0 2; have a4 := lt_of_heap s0; (try simp only [World.size_alloc, List.getElem?_toArray, List.getElem?_cons_zero, List.getElem?_cons_succ] at a0 a1 a2 f0 f1 f2 a4); clear s0; have s0 := hx.i; have a0 := cell_of s0 0; have a1 := cell_of s0 1; have a2 := cell_of s0 2; have f0 := ice_of s0 0; have f1 := ice_of s0 1; have f2 := ice_of s0 2; have a4 := lt_of_heap s0; (try simp only [World.size_alloc, List.getElem?_toArray, List.getElem?_cons_zero, List.getElem?_cons_succ] at a0 a1 a2 f0 f1 f2 a4); clear s0; have s0 := hx.r0; have a0 := cell_of s0 0; have a1 := cell_of s0 1; have a2 := cell_of s0 2; have f0 := ice_of s0 0; have f1 := ice_of s0 1; have f2 := ice_of s0 2; have a4 := lt_of_heap s0; (try simp only [World.size_alloc, List.getElem?_toArray, List.getElem?_cons_zero, List.getElem?_cons_succ] at a0 a1 a2 f0 f1 f2 a4); clear s0; have s0 := hx.r1; have a0 := cell_of s0 0; have a1 := cell_of s0 1; have a2 := cell_of s0 2; have f0 := ice_of s0 0; have f1 := ice_of s0 1; have f2 := ice_of s0 2; have a4 := lt_of_heap s0; (try simp only [World.size_alloc, List.getElem?_toArray, List.getElem?_cons_zero, List.getElem?_cons_succ] at a0 a1 a2 f0 f1 f2 a4); clear s0; have s0 := hx.r2; have a0 := cell_of s0 0; have a1 := cell_of s0 1; have a2 := cell_of s0 2; have f0 := ice_of s0 0; have f1 := ice_of s0 1; have f2 := ice_of s0 2; have a4 := lt_of_heap s0; (try simp only [World.size_alloc, List.getElem?_toArray, List.getElem?_cons_zero, List.getElem?_cons_succ] at a0 a1 a2 f0 f1 f2 a4); clear s0
    have hup := hx.up
    go_wp2_with (first | (go_at_call 42; refine (array_any hv H tvs own _ _ _ _ (hh.out.up (hx.up.trans uq))).mono ?_; rintro e w2 ⟨rfl, hu⟩; rw [HA.out]; have hx := hx.to (show Up _ w2 from Up.trans uq hu); have s0 := hx.v; have a0 := cell_of s0 0; have a1 := cell_of s0 1; have a2 := cell_of s0 2; have f0 := ice_of s0 0; have f1 := ice_of s0 1; have f2 := ice_of s0 2; have a4 := lt_of_heap s0; (try simp only [World.size_alloc, List.getElem?_toArray, List.getElem?_cons_zero, List.getElem?_cons_succ] at a0 a1 a2 f0 f1 f2 a4); clear s0; have s0 := hx.i; have a0 := cell_of s0 0; have a1 := cell_of s0 1; have a2 := cell_of s0 2; have f0 := ice_of s0 0; have f1 := ice_of s0 1; have f2 := ice_of s0 2; have a4 := lt_of_heap s0; (try simp only [World.size_alloc, List.getElem?_toArray, List.getElem?_cons_zero, List.getElem?_cons_succ] at a0 a1 a2 f0 f1 f2 a4); clear s0; have s0 := hx.r0; have a0 := cell_of s0 0; have a1 := cell_of s0 1; have a2 := cell_of s0 2; have f0 := ice_of s0 0; have f1 := ice_of s0 1; have f2 := ice_of s0 2; have a4 := lt_of_heap s0; (try simp only [World.size_alloc, List.getElem?_toArray, List.getElem?_cons_zero, List.getElem?_cons_succ] at a0 a1 a2 f0 f1 f2 a4); clear s0; have s0 := hx.r1; have a0 := cell_of s0 0; have a1 := cell_of s0 1; have a2 := cell_of s0 2; have f0 := ice_of s0 0; have f1 := ice_of s0 1; have f2 := ice_of s0 2; have a4 := lt_of_heap s0; (try simp only [World.size_alloc, List.getElem?_toArray, List.getElem?_cons_zero, List.getElem?_cons_succ] at a0 a1 a2 f0 f1 f2 a4); clear s0; have s0 := hx.r2; have a0 := cell_of s0 0; have a1 := cell_of s0 1; have a2 := cell_of s0 2; have f0 := ice_of s0 0; have f1 := ice_of s0 1; have f2 := ice_of s0 2; have a4 := lt_of_heap s0; (try simp only [World.size_alloc, List.getElem?_toArray, List.getElem?_cons_zero, List.getElem?_cons_succ] at a0 a1 a2 f0 f1 f2 a4); clear s0))
    have hb0 := cell_of (hx.up.get HB.out.1) 0
    simp only [List.getElem?_toArray, List.getElem?_cons_zero] at hb0
    have hbl2 : b < w2.heap.size := Nat.lt_of_lt_of_le hbl hx.up.size
    by_cases h0 : m < 0
    · have ha0 : Hid (atVal vals m = ⟨0, 0, ⟨#[]⟩⟩) := if_neg (by omega)
      have h0' : decide (0 ≤ m) = false := by simpa using h0
      go_quiet (fail)
      go_wp2_with fail
      refine ⟨.tuple #[.agg #[.int .i64 (atVal vals m).k, .int .i64 (atVal vals m).n, .string (atVal vals m).s], .string ⟨#[]⟩, .int .i64 0], ?_, rfl, ?_⟩
      · rw [ha0.out]
        simp [results, Tryz.results28, go_sem, *]
      · have hw2 : Up w w2 := hx.up
        exact uq
    · obtain ⟨M, rfl⟩ := Int.eq_ofNat_of_zero_le (show 0 ≤ m by omega)
      have h0' : decide (0 ≤ (M : Int)) = true := by simp
      by_cases hM : M < vals.length
      · obtain ⟨v, hv⟩ : ∃ v, vals[M]? = some v := ⟨_, List.getElem?_eq_getElem hM⟩
        have ha0 : Hid (atVal vals M = v) := by unfold atVal Hid; rw [if_pos (by omega), Int.toNat_natCast, hv]; rfl
        obtain ⟨f0, f1, f2⟩ := flat_at vals M v hv
        obtain ⟨g, rfl, e0⟩ := row_at HB.out.2 _ _ f0
        obtain ⟨g', hg', e1⟩ := row_at HB.out.2 _ _ f1
        obtain ⟨g'', hg'', e2⟩ := row_at HB.out.2 _ _ f2
        cases hg'
        cases hg''
        have hgl := cell_lt3 e0
        have d0 := (hx.up.cells g _ hgl).trans e0
        have d1 := (hx.up.cells g _ hgl).trans e1
        have d2 := (hx.up.cells g _ hgl).trans e2
        clear hv f0 f1 f2 e0 e1 e2
        have hi1 := cell_of hx.i 1
        simp only [List.getElem?_toArray, List.getElem?_cons_zero, List.getElem?_cons_succ] at hi1
        have hMi : (M : Int) < (vals.length : Int) := by omega
        go_quiet (fail)
        go_wp2_with fail
        go_region_held3 (fun W => W.cell? ⟨b, 0, none⟩ = some (.slice (some ⟨g, 0, none⟩) vals.length cap) ∧ W.cell? ⟨w.heap.size + 1, 1, none⟩ = some (.int .i64 M) ∧ W.cell? ⟨g, M * 3, none⟩ = some (.int .i64 v.k) ∧ W.cell? ⟨g, M * 3 + 1, none⟩ = some (.int .i64 v.n) ∧ W.cell? ⟨g, M * 3 + 2, none⟩ = some (.string v.s)) (((try dsimp only); (repeat' apply And.intro); all_goals (first | go_keep | ((simp (disch := omega) only [cell_set_ne']); first | exact hb0 | exact hi1 | exact d0 | exact d1 | exact d2)))) (first | fail)
        go_wp2_with fail
        refine ⟨.tuple #[.agg #[.int .i64 (atVal vals M).k, .int .i64 (atVal vals M).n, .string (atVal vals M).s], .string ⟨#[]⟩, .int .i64 0], ?_, rfl, ?_⟩
        · rw [ha0.out]
          simp [results, Tryz.results28, go_sem, *]
        · have hw2 : Up w w2 := hx.up
          exact uq
      · have ha0 : Hid (atVal vals M = ⟨0, 0, ⟨#[]⟩⟩) := by unfold atVal Hid; rw [if_pos (by omega), Int.toNat_natCast, List.getElem?_eq_none (by omega)]; rfl
        have hMi : decide ((M : Int) < (vals.length : Int)) = false := by simp; omega
        go_quiet (fail)
        go_wp2_with fail
        refine ⟨.tuple #[.agg #[.int .i64 (atVal vals M).k, .int .i64 (atVal vals M).n, .string (atVal vals M).s], .string ⟨#[]⟩, .int .i64 0], ?_, rfl, ?_⟩
        · rw [ha0.out]
          simp [results, Tryz.results28, go_sem, *]
        · have hw2 : Up w w2 := hx.up
          exact uq

end Go.Proofs.YtmbipadiaggolaaGreatDoor

/- Walks: Get of a text's length, At of a text's rune: loops over Runes. -/
namespace Go.Proofs.YtmbipadiaggolaaGreatDoor
open Go.RowKit
set_option linter.unusedSimpArgs false
attribute [local go_sem] Oper.semAt_some ta_aa ta_ao ta_an ta_oa ta_oo ta_on m_kind_a m_kind_o m_behind_a m_behind_o m_own_a m_own_o valV conv_sb

theorem keep_own {W W' : World} {row : Option Nat} {B b : Nat} {cs : Array Value} {t : TypeId} {f : Nat × Nat} (h : W.heap[b]? = some (.cells cs t f)) (hg : W.grownBy W' row) (hr : ∀ r, row = some r → B ≤ r ∧ ∃ o : Obj, W.heap[r]? = some o ∧ o.isCells = false) : W'.heap[b]? = some (.cells cs t f) := by
  rw [hg.block b (lt_of_heap h) (fun e => by
    obtain ⟨_, o, h1, h2⟩ := hr b e.symm
    rw [h] at h1; cases h1; cases h2)]
  exact h
theorem Up.grown {a W W' : World} {row : Option Nat} (h : Up a W) (hg : W.grownBy W' row) (hr : ∀ r, row = some r → a.heap.size ≤ r) : Up a W' :=
  ⟨hg.os.trans h.os, hg.tape.trans h.tape, hg.output.trans h.output, Nat.le_trans h.size hg.size, fun b hb => (hg.block b (Nat.lt_of_lt_of_le hb h.size) (fun e => by have := hr b e.symm; omega)).trans (h.block b hb)⟩

/-- Runes over a text that was turned to bytes -/
theorem p_runes_at (s : ByteArray) (w0 W : World) (q cap : Nat) (hW : W = bytesLaid w0 s) (hq : q = w0.heap.size) (hs : s.size ≤ 1000000000) : Calls Tryz.prog 46 #[.slice (some ⟨q, 0, none⟩) s.size cap] W fun e w' => ∃ tb, e = .returned (.func (.func 63) #[] #[.pointer (some ⟨tb, 0, none⟩)]) ∧ w'.heap[tb]? = some (.cells #[.string s] 9 (0, 0)) ∧ W.heap.size ≤ tb ∧ Up W w' := by
  subst hW hq
  have := p_runes w0.heap.size cap s.data.toList (bytesLaid w0 s) (bytesLaid_at w0 s hs)
  rw [show s.data.toList.length = s.size by simp] at this
  refine this.mono ?_
  rintro e w' ⟨rfl, rfl⟩
  exact ⟨_, rfl, alloc_get _ _, Nat.le_refl _, (Up.refl _).alloc _⟩

theorem range_named {P : Program} {c : Code} {Q : Exit → Act → World → Prop} {a : Act} {w : World} (h : ∀ (A : Act) (W : World), A = a → W = w → c.wp P Q A W) : c.wp P Q a w := h a w rfl rfl

theorem runesS_le : ∀ (f a : Nat) (l : List UInt8), (runesS f a l).length ≤ f
  | 0, _, _ => Nat.le_refl _
  | _ + 1, _, [] => Nat.zero_le _
  | f + 1, a, x :: r => by simp only [runesS, List.length_cons]; have := runesS_le f (a + (decS (x :: r)).2) ((x :: r).drop (decS (x :: r)).2); omega
theorem runesOf_le (l : List UInt8) : (runesOf l).length ≤ l.length := runesS_le _ _ _

/-- between two rounds of a count of runes -/
def CountI (w : World) (nb : Nat) (o0 o1 : Array Value) (pre : List (Nat × Nat)) (W : World) : Prop :=
  Up w W ∧ W.heap[w.heap.size]? = some (.cells o0 34 (0, 0)) ∧ W.heap[w.heap.size + 1]? = some (.cells o1 34 (0, 0)) ∧ W.heap[nb]? = some (.cells #[.int .i64 pre.length] 3 (0, 0))
theorem CountI.own (w : World) (nb : Nat) (o0 o1 : Array Value) (B : Nat) (hB : w.heap.size ≤ B) : OwnFrom B (CountI w nb o0 o1) := fun _ _ _ _ hs hg hr =>
  ⟨hs.1.grown hg (fun r e => Nat.le_trans hB (hr r e).1), keep_own hs.2.1 hg hr, keep_own hs.2.2.1 hg hr, keep_own hs.2.2.2 hg hr⟩

set_option maxRecDepth 100000 in
set_option maxHeartbeats 1600000 in
/-- of a text its length, in runes -/
theorem Get_len (hv : Value) (H : HM) (tvs : List Value) (own : Own) (k n : Int) (s key : ByteArray) (w : World) (h : HRep w hv H tvs own) (pn : Int) (ps : ByteArray) (hp : plainS H ⟨k, n, s⟩ = ⟨4, pn, ps⟩) (hkey : (key.toList == [108, 101, 110, 103, 116, 104]) = true) (hs : ps.size ≤ 1000000000) :
    Calls Tryz.prog 22 #[hv, .agg #[.int .i64 k, .int .i64 n, .string s], .string key] w fun e w' => e = .returned (.tuple #[.agg #[.int .i64 3, .int .i64 (runesOf ps.data.toList).length, .string ⟨#[]⟩], .string ⟨#[]⟩, .int .i64 0]) ∧ Up w w' := by
  have hh := Lib.hid h
  have HP := Lib.hid hp
  have HS := Lib.hid hs
  clear h hp hs
  refine callsIn_wide.1 (callsIn_of_wp_marks (n := 2) Tryz.func22 rfl trivial ?_)
  refine wpIn_wide.2 ?_
  simp only [Tryz.ntmps22, List.size_toArray, List.length_cons, List.length_nil, Nat.reduceAdd, Nat.reduceSub, Array.replicate_succ, Array.replicate_zero, List.push_toArray, List.append_toArray, List.nil_append, List.cons_append]
  go_wp2_with (first | (go_at_call 35; refine (plain_any hv H tvs own _ _ _ _ (hh.out.up uq)).mono ?_; rintro e w' ⟨rfl, hu⟩; simp only [HP.out]; have hd := hu.get (Up.get uq (alloc_get w _)); have B0 := Lib.hid hd; have a0 := cell_of hd 0; have a1 := cell_of hd 1; have a2 := cell_of hd 2; have f0 := ice_of hd 0; have f1 := ice_of hd 1; have f2 := ice_of hd 2; have a4 := lt_of_heap hd; (try simp only [World.size_alloc, List.getElem?_toArray, List.getElem?_cons_zero, List.getElem?_cons_succ] at a0 a1 a2 f0 f1 f2 a4); clear hd; have hd := hu.get (Up.get uq (alloc_get (w.alloc _) _)); (try simp only [World.size_alloc] at hd); have B1 := Lib.hid hd; have a0 := cell_of hd 0; have a1 := cell_of hd 1; have a2 := cell_of hd 2; have f0 := ice_of hd 0; have f1 := ice_of hd 1; have f2 := ice_of hd 2; have a4 := lt_of_heap hd; (try simp only [World.size_alloc, List.getElem?_toArray, List.getElem?_cons_zero, List.getElem?_cons_succ] at a0 a1 a2 f0 f1 f2 a4); clear hd) | (go_at_call 46; refine (p_runes_at ps _ _ _ _ rfl (by simp) HS.out).mono ?_; rintro e w2 ⟨tb, rfl, htb, htl, hu2⟩))
  have h0 : w2.heap[w.heap.size]? = some (.cells #[.int .i64 4, .int .i64 pn, .string ps] 34 (0, 0)) := hu2.get ((bytesLaid_up _ _).get (alloc_keep (at_set3 B0.out)))
  have h1 : w2.heap[w.heap.size + 1]? = some (.cells #[.int .i64 0, .int .i64 0, .string ⟨#[]⟩] 34 (0, 0)) := hu2.get ((bytesLaid_up _ _).get (alloc_keep (at_skip3 B1.out (by omega))))
  have hn : w2.heap[w'.heap.size]? = some (.cells #[.int .i64 ([] : List (Nat × Nat)).length] 3 (0, 0)) := hu2.get ((bytesLaid_up _ _).get (alloc_at _ _ _ (by simp)))
  have hup : Up w w2 := by
    refine Up.trans ?_ hu2
    refine Up.trans ?_ (bytesLaid_up _ _)
    have hu' : Up w w' := uq
    exact uq
  have htn : tb ≠ w'.heap.size := by rw [bytesLaid_size] at htl; simp at htl; omega
  have hw2 := lt_of_heap hn
  clear hu2 htl B0 B1 hu
  refine range_named fun A W4 hA hW => ?_
  subst hW
  refine (wpIn_wide (n := 2)).1 ?_
  refine wpIn_rangeFunc_ownF rfl (by omega) (gf := 63) (lb := #[.pointer (some ⟨tb, 0, none⟩)]) (by subst hA; rfl) trivial (enters_of Tryz.func63 (by kernel_rfl) rfl)
    (runes_stops tb ps HS.out (OneKeep w'.heap.size) (OneKeep.refl _) (fun _ _ _ => OneKeep.trans) (fun _ _ _ => OneKeep.up) W4 (fun X Y hX hY => ⟨by have := cell_of (hY.same tb _ htn (hX.get htb) rfl) 0; simpa using this, hY.size⟩))
    OneKeep.trans (fun W l o o' _ h1 h2 _ => OneKeep.putObj _ W l o o' h1 h2) (Below.refl _ _) (fun _ => rfl)
    (CountI w w'.heap.size #[.int .i64 4, .int .i64 pn, .string ps] #[.int .i64 0, .int .i64 0, .string ⟨#[]⟩]) (fun _ _ _ => False) (CountI.own _ _ _ _ _ hup.size) (fun _ _ _ _ _ h => h.elim) ⟨hup, h0, h1, hn⟩
    (fun x => { tmps := (A.tmps.setIfInBounds 30 (.int .i64 x.1)).setIfInBounds 31 (.int .i32 x.2), defers := [] }) ?assign ?body ?done ?stop
  case assign => intro l x W K hK; gi_wp2; simpa [encR] using hK
  case body =>
    rintro l pre x W ⟨i1, i2, i3, i4⟩ hlen
    have hb := cell_of i4 0
    have hf := ice_of i4 0
    simp only [List.getElem?_toArray, List.getElem?_cons_zero] at hb
    subst hA
    simp only [List.setIfInBounds_toArray, List.set_cons_succ, List.set_cons_zero]
    have hle := runesOf_le ps.data.toList
    have hps : ps.data.toList.length = ps.size := by simp
    have hq := HS.out
    have hle2 : (pre.length : Int) < 1000000000 := by omega
    clear hle hps hq
    gi_wp2
    exact ⟨KeepsOthers.setCell _ _ _, OneKeep.setCell _ _ _ _, i1.setCell (by show w.heap.size ≤ w'.heap.size; omega) _, by rw [setCell_other (by omega)]; exact i2, by rw [setCell_other (by omega)]; exact i3, by have := setCell_block (i := 0) i4 (.int .i64 ((pre.length : Int) + 1)); simpa using this⟩
  case done =>
    rintro D xs W hD rfl ⟨i1, i2, i3, i4⟩ hK
    have s0 := i2
    have a0 := cell_of s0 0; have a1 := cell_of s0 1; have a2 := cell_of s0 2; have f0 := ice_of s0 0; have f1 := ice_of s0 1; have f2 := ice_of s0 2; have a4 := lt_of_heap s0; (try simp only [World.size_alloc, List.getElem?_toArray, List.getElem?_cons_zero, List.getElem?_cons_succ] at a0 a1 a2 f0 f1 f2 a4); clear s0
    have s0 := i3
    have a0 := cell_of s0 0; have a1 := cell_of s0 1; have a2 := cell_of s0 2; have f0 := ice_of s0 0; have f1 := ice_of s0 1; have f2 := ice_of s0 2; have a4 := lt_of_heap s0; (try simp only [World.size_alloc, List.getElem?_toArray, List.getElem?_cons_zero, List.getElem?_cons_succ] at a0 a1 a2 f0 f1 f2 a4); clear s0
    have hb := cell_of i4 0
    have hbl := lt_of_heap i4
    simp only [List.getElem?_toArray, List.getElem?_cons_zero] at hb
    have HK := Lib.hid hK
    clear hK
    subst hA
    go_wp2_with (first | (go_at_call 47; refine (number_any _ _).mono ?_; rintro e w5 ⟨rfl, hu5⟩; have s0 := hu5.get i3; have a0 := cell_of s0 0; have a1 := cell_of s0 1; have a2 := cell_of s0 2; have f0 := ice_of s0 0; have f1 := ice_of s0 1; have f2 := ice_of s0 2; have a4 := lt_of_heap s0; (try simp only [World.size_alloc, List.getElem?_toArray, List.getElem?_cons_zero, List.getElem?_cons_succ] at a0 a1 a2 f0 f1 f2 a4); clear s0))
    have hKX := at_skip3 (b := w.heap.size + 1) (x' := .int .i64 3) (y' := .int .i64 (runesOf ps.data.toList).length) (z' := .string ⟨#[]⟩) (hu5.get HK.out) (by omega)
    have hX := at_set3 (x' := .int .i64 3) (y' := .int .i64 (runesOf ps.data.toList).length) (z' := .string ⟨#[]⟩) (hu5.get i3)
    refine ⟨by simp, .inl ⟨_, _, rfl, run_takeDeferred hKX, ?_⟩⟩
    have hY := fun o => (World.putObj_heap_other (o := o) (show w.heap.size + 1 ≠ D by omega)).trans hX
    have hup5 : Up w w5 := i1.trans hu5
    clear a0 a1 a2
    refine ⟨.tuple #[.agg #[.int .i64 3, .int .i64 (runesOf ps.data.toList).length, .string ⟨#[]⟩], .string ⟨#[]⟩, .int .i64 0], ?_, rfl, ?_⟩
    · have s0 := hY (.deferred none)
      have a0 := cell_of s0 0; have a1 := cell_of s0 1; have a2 := cell_of s0 2; have f0 := ice_of s0 0; have f1 := ice_of s0 1; have f2 := ice_of s0 2; have a4 := lt_of_heap s0; (try simp only [World.size_alloc, List.getElem?_toArray, List.getElem?_cons_zero, List.getElem?_cons_succ] at a0 a1 a2 f0 f1 f2 a4); clear s0
      simp [results, Tryz.results22, go_sem, *]
    · refine Up.grown (W := _) ?_ (grownBy_putObj' _ D _) (fun r e => by cases e; omega)
      exact ((hup5.setCell (by show w.heap.size ≤ w.heap.size + 1; omega) _).setCell (by show w.heap.size ≤ w.heap.size + 1; omega) _).setCell (by show w.heap.size ≤ w.heap.size + 1; omega) _
  case stop => rintro D c pre W hD hSp h hK; exact h.elim

end Go.Proofs.YtmbipadiaggolaaGreatDoor
