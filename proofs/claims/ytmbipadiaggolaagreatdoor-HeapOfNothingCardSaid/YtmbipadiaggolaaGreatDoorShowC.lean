import Derived.Test.YtmbipadiaggolaaGreatDoorShowB
import Derived.RangeFuncNested
import Derived.RangeFuncBound
import Derived.RangeFuncCalls
import Derived.RangeFuncLeaves
import Derived.OwnWalkIn
import Derived.TacticsInMore
import Derived.LoopNIn
import Derived.LoopIn
/- The parts of a thing, one after the other. -/
namespace Go.Proofs.YtmbipadiaggolaaGreatDoor
open Go.RowKit
set_option linter.unusedSimpArgs false
attribute [local go_sem] Oper.semAt_some ta_aa ta_ao ta_an ta_oa ta_oo ta_on

structure Part where
  i : Nat
  key : ByteArray
  keyed : Bool
  v : Val

def Part.encs (x : Part) : Array Value := #[.int .i64 x.i, .agg #[.string x.key, .bool x.keyed, .int .i64 x.v.k, .int .i64 x.v.n, .string x.v.s]]

def arrParts (vals : List Val) : List Part := vals.mapIdx fun i v => ⟨i, ⟨#[]⟩, false, v⟩
def objParts (l : List (ByteArray × Val)) : List Part := l.mapIdx fun i x => ⟨i, x.1, true, x.2⟩

/-- what a round keeps of cells and maps -/
structure SKeep (sb : Nat) (a b : World) : Prop where
  size : a.heap.size ≤ b.heap.size
  same : ∀ x o, a.heap[x]? = some o → (o.isCells = true ∨ o.isWalk = true) → x ≠ sb → bufOf a sb ≠ some x → b.heap[x]? = some o
  buf : ∀ x, bufOf b sb = some x → bufOf a sb = some x ∨ a.heap.size ≤ x

theorem SKeep.refl (sb : Nat) (w : World) : SKeep sb w w := ⟨Nat.le_refl _, fun _ _ h _ _ _ => h, fun _ h => .inl h⟩
theorem SKeep.trans {sb : Nat} {a b c : World} (h : SKeep sb a b) (k : SKeep sb b c) : SKeep sb a c where
  size := Nat.le_trans h.size k.size
  same := fun x o hx ho h1 h2 => k.same x o (h.same x o hx ho h1 h2) ho h1 fun e => by
    rcases h.buf x e with e | e
    · exact h2 e
    · have := lt_of_heap hx; omega
  buf := fun x e => by
    rcases k.buf x e with e | e
    · exact h.buf x e
    · exact .inr (Nat.le_trans h.size e)
theorem Showed.skeep {sb : Nat} {a b : World} (h : Showed sb a b) : SKeep sb a b where
  size := h.kept.size
  same := fun _ _ hx _ h1 h2 => h.get hx h1 h2
  buf := h.buf
theorem SKeep.putObj {sb : Nat} {w : World} (W : World) (l : Nat) (o o' : Obj) (hs : sb < w.heap.size) (hl : w.heap.size ≤ l) (h : W.heap[l]? = some o) (hc : o.isCells = false) (hw : o.isWalk = false) : SKeep sb W (W.putObj l o') where
  size := by simp
  same := fun x u hx hu _ _ => by
    rw [World.putObj_heap_other (fun e => by subst e; rw [h] at hx; cases hx; rcases hu with hu | hu; rw [hc] at hu; cases hu; rw [hw] at hu; cases hu)]
    exact hx
  buf := fun x e => .inl (by rw [← e]; exact (bufOf_up (World.putObj_heap_other (by omega))).symm)
theorem SKeep.up {sb : Nat} {a b c : World} (h : SKeep sb a b) (k : Up b c) (hsb : sb < b.heap.size) : SKeep sb a c := h.trans (Showed.of_up k hsb).skeep

theorem arrParts_take (vals : List Val) (k : Nat) (v : Val) (h : vals[k]? = some v) : (arrParts vals).take (k + 1) = (arrParts vals).take k ++ [⟨k, ⟨#[]⟩, false, v⟩] := by
  rw [List.take_add_one]
  simp [arrParts, h]

set_option maxRecDepth 100000 in
set_option maxHeartbeats 2000000 in
theorem parts_arr (l tb sb b : Nat) (sa : Option Addr) (cap : Nat) (vals : List Val) (hlen : vals.length ≤ 1048576) (J Jx : List Part → World → Prop) (W : World) (okP : Part → Prop) (hok : ∀ x ∈ arrParts vals, okP x)
    (hJ : AbidesFrom W.heap.size J)
    (hY : ∀ pre x W1, okP x → J pre W1 → pre.length < vals.length → YieldAt Fence.wide 0 Tryz.prog l (Part.encs x) W1 fun e W' =>
      (e = .returned (.bool true) ∧ J (pre ++ [x]) W' ∧ SKeep sb W1 W') ∨ (e = .returned (.bool false) ∧ Jx (pre ++ [x]) W'))
    (htb : W.cell? ⟨tb, 0, none⟩ = some (.iface 86 (.pointer (some ⟨b, 0, none⟩)))) (hb : W.cell? ⟨b, 0, none⟩ = some (.slice sa vals.length cap))
    (hel : ∀ W', SKeep sb W W' → ∀ k v, vals[k]? = some v → ∃ g, sa = some ⟨g, 0, none⟩ ∧ W'.cell? ⟨g, k * 3, none⟩ = some (.int .i64 v.k) ∧ W'.cell? ⟨g, k * 3 + 1, none⟩ = some (.int .i64 v.n) ∧ W'.cell? ⟨g, k * 3 + 2, none⟩ = some (.string v.s))
    (hsb : sb < W.heap.size) (h0 : J [] W) :
    CallsIn Fence.wide 1 Tryz.prog 74 #[.func (.yield l) #[] #[], .pointer (some ⟨tb, 0, none⟩)] W fun e W' => (∃ v, e = .returned v) ∧
      ((∃ xs, xs = arrParts vals ∧ J xs W') ∨ (∃ pre, pre <+: arrParts vals ∧ Jx pre W')) := by
  refine callsIn_of_wp Tryz.func74 rfl trivial ?_ rfl
  simp only [Tryz.ntmps74, List.size_toArray, List.length_cons, List.length_nil, Nat.reduceAdd, Nat.reduceSub, Array.replicate_succ, Array.replicate_zero, List.push_toArray, List.append_toArray, List.nil_append, List.cons_append]
  gi_wp2
  gi_loopw [18] (fun i wr => ∃ k : Nat, k ≤ vals.length ∧ i = .int .i64 k ∧ J ((arrParts vals).take k) wr ∧ SKeep sb W wr)
    (fun i _ => vals.length - (intOf i).toNat)
  case atStart => exact ⟨0, Nat.zero_le _, rfl, h0, SKeep.refl _ _⟩
  case round =>
    obtain ⟨k, hk, rfl, hJs, hnx⟩ := hrel
    by_cases hlt : k < vals.length
    · obtain ⟨v, hv⟩ : ∃ v, vals[k]? = some v := ⟨_, List.getElem?_eq_getElem hlt⟩
      obtain ⟨g, hg, e0, e1, e2⟩ := hel wr hnx k v hv
      subst hg
      obtain ⟨fn, tmps, assign, body, hy, hR⟩ := hY _ ⟨k, ⟨#[]⟩, false, v⟩ (wr.alloc (.cells #[.int .i64 v.k, .int .i64 v.n, .string v.s] 34)) (hok _ (by rw [arrParts, List.mem_iff_getElem?]; exact ⟨k, by simp [hv]⟩)) (hJ _ _ _ none hJs (World.grownBy_alloc _ _ none) (fun r e => by cases e)) (by rw [List.length_take]; simp [arrParts]; omega)
      simp only [Part.encs] at hy
      have hz := hnx.size
      gi_wp2
      refine hR.mono ?_
      rintro e W3 (⟨rfl, hJ3, hk3⟩ | ⟨rfl, hJx3⟩)
      · gi_wp2
        go_roundw
        case rel => exact ⟨k + 1, by omega, by simp, by rw [arrParts_take vals k v hv]; exact hJ3, (hnx.up ((Up.refl wr).alloc _) (by omega)).trans hk3⟩
        case measure => simp [intOf]; omega
      · gi_wp2
        refine bodyPost_ret (results_none rfl _ _ _) rfl ?_
        exact ⟨⟨_, rfl⟩, .inr ⟨_, by rw [← arrParts_take vals k v hv]; exact List.take_prefix _ _, hJx3⟩⟩
    · obtain rfl : k = vals.length := by omega
      gi_wp2
      go_end0
      exact ⟨⟨_, rfl⟩, .inl ⟨_, rfl, by rwa [List.take_of_length_le (by simp [arrParts])] at hJs⟩⟩

theorem objParts_take (l : List (ByteArray × Val)) (k : Nat) (s : ByteArray) (v : Val) (h : l[k]? = some (s, v)) : (objParts l).take (k + 1) = (objParts l).take k ++ [⟨k, s, true, v⟩] := by
  rw [List.take_add_one]
  simp [objParts, h]

set_option maxRecDepth 100000 in
set_option maxHeartbeats 2000000 in
theorem parts_obj (l tb sb b : Nat) (kk : Int) (pv mv : Value) (hpv : pv = .nilIface ∨ ∃ T y, pv = .iface T y) (sa : Option Addr) (cap : Nat) (ms : List (ByteArray × Val)) (hlen : ms.length ≤ 1048576) (J Jx : List Part → World → Prop) (W : World) (okP : Part → Prop) (hok : ∀ x ∈ objParts ms, okP x)
    (hJ : AbidesFrom W.heap.size J)
    (hY : ∀ pre x W1, okP x → J pre W1 → pre.length < ms.length → YieldAt Fence.wide 0 Tryz.prog l (Part.encs x) W1 fun e W' =>
      (e = .returned (.bool true) ∧ J (pre ++ [x]) W' ∧ SKeep sb W1 W') ∨ (e = .returned (.bool false) ∧ Jx (pre ++ [x]) W'))
    (htb : W.cell? ⟨tb, 0, none⟩ = some (.iface 96 (.agg #[.pointer (some ⟨b, 0, none⟩), .int .i64 kk, pv])))
    (hel : ∀ W', SKeep sb W W' → W'.cell? ⟨b, 0, none⟩ = some mv ∧ W'.cell? ⟨b, 1, none⟩ = some (.slice sa ms.length cap) ∧ ∀ k s v, ms[k]? = some (s, v) → ∃ g, sa = some ⟨g, 0, none⟩ ∧ W'.cell? ⟨g, k, none⟩ = some (.string s) ∧ (Instr.lookup 91 mv (.string s) false).run Tryz.prog W' = .ok (.agg #[.int .i64 (v).k, .int .i64 (v).n, .string (v).s]) W')
    (hsb : sb < W.heap.size) (hbuf : ∀ x, bufOf W sb = some x → x < W.heap.size) (h0 : J [] W) :
    CallsIn Fence.wide 1 Tryz.prog 74 #[.func (.yield l) #[] #[], .pointer (some ⟨tb, 0, none⟩)] W fun e W' => (∃ v, e = .returned v) ∧
      ((∃ xs, xs = objParts ms ∧ J xs W') ∨ (∃ pre, pre <+: objParts ms ∧ Jx pre W')) := by
  obtain ⟨i0, i1, _⟩ := hel _ ((SKeep.refl sb W).up ((Up.refl W).alloc (.cells #[.pointer (some ⟨b, 0, none⟩), .int .i64 kk, pv] 96)) hsb)
  rcases hpv with rfl | ⟨T, y, rfl⟩
  ·
    refine callsIn_of_wp Tryz.func74 rfl trivial ?_ rfl
    simp only [Tryz.ntmps74, List.size_toArray, List.length_cons, List.length_nil, Nat.reduceAdd, Nat.reduceSub, Array.replicate_succ, Array.replicate_zero, List.push_toArray, List.append_toArray, List.nil_append, List.cons_append]
    gi_wp2
    gi_loopw [39] (fun i wr => ∃ k : Nat, k ≤ ms.length ∧ i = .int .i64 k ∧ J ((objParts ms).take k) wr ∧ SKeep sb (W.alloc (.cells #[.pointer (some ⟨b, 0, none⟩), .int .i64 kk, .nilIface] 96)) wr)
      (fun i _ => ms.length - (intOf i).toNat)
    case atStart => exact ⟨0, Nat.zero_le _, rfl, hJ _ _ _ none h0 (World.grownBy_alloc _ _ none) (fun r e => by cases e), SKeep.refl _ _⟩
    case round =>
      obtain ⟨k, hk, rfl, hJs, hnx⟩ := hrel
      by_cases hlt : k < ms.length
      · obtain ⟨s, v, hv⟩ : ∃ s v, ms[k]? = some (s, v) := ⟨_, _, List.getElem?_eq_getElem hlt⟩
        obtain ⟨j0, j1, j2⟩ := hel wr (((SKeep.refl sb W).up ((Up.refl W).alloc _) hsb).trans hnx)
        obtain ⟨g, hg, e0, e1⟩ := j2 k s v hv
        subst hg
        have hbox := hnx.same W.heap.size _ (alloc_get W _) (.inl rfl) (by omega) (fun e => by
          rw [show bufOf (W.alloc (.cells #[.pointer (some ⟨b, 0, none⟩), .int .i64 kk, .nilIface] 96)) sb = bufOf W sb from bufOf_up (alloc_old W _ sb hsb)] at e
          have := hbuf _ e; omega)
        have a0 := cell_of hbox 0; have a1 := cell_of hbox 1; have a2 := cell_of hbox 2; have f0 := ice_of hbox 0; have f1 := ice_of hbox 1; have f2 := ice_of hbox 2; have a4 := lt_of_heap hbox; (try simp only [World.size_alloc, List.getElem?_toArray, List.getElem?_cons_zero, List.getElem?_cons_succ] at a0 a1 a2 f0 f1 f2 a4); clear hbox
        obtain ⟨fn, tmps, assign, body, hy, hR⟩ := hY _ ⟨k, s, true, v⟩ wr (hok _ (by rw [objParts, List.mem_iff_getElem?]; exact ⟨k, by simp [hv]⟩)) hJs (by rw [List.length_take]; simp [objParts]; omega)
        simp only [Part.encs] at hy
        have hz := hnx.size
        clear hel j2
        gi_wp2
        refine hR.mono ?_
        rintro e W3 (⟨rfl, hJ3, hk3⟩ | ⟨rfl, hJx3⟩)
        · gi_wp2
          go_roundw
          case rel => exact ⟨k + 1, by omega, by simp, by rw [objParts_take ms k s v hv]; exact hJ3, hnx.trans hk3⟩
          case measure => simp [intOf]; omega
        · gi_wp2
          refine bodyPost_ret (results_none rfl _ _ _) rfl ?_
          exact ⟨⟨_, rfl⟩, .inr ⟨_, by rw [← objParts_take ms k s v hv]; exact List.take_prefix _ _, hJx3⟩⟩
      · obtain rfl : k = ms.length := by omega
        gi_wp2
        go_end0
        exact ⟨⟨_, rfl⟩, .inl ⟨_, rfl, by rwa [List.take_of_length_le (by simp [objParts])] at hJs⟩⟩
  ·
    refine callsIn_of_wp Tryz.func74 rfl trivial ?_ rfl
    simp only [Tryz.ntmps74, List.size_toArray, List.length_cons, List.length_nil, Nat.reduceAdd, Nat.reduceSub, Array.replicate_succ, Array.replicate_zero, List.push_toArray, List.append_toArray, List.nil_append, List.cons_append]
    gi_wp2
    gi_loopw [39] (fun i wr => ∃ k : Nat, k ≤ ms.length ∧ i = .int .i64 k ∧ J ((objParts ms).take k) wr ∧ SKeep sb (W.alloc (.cells #[.pointer (some ⟨b, 0, none⟩), .int .i64 kk, .iface T y] 96)) wr)
      (fun i _ => ms.length - (intOf i).toNat)
    case atStart => exact ⟨0, Nat.zero_le _, rfl, hJ _ _ _ none h0 (World.grownBy_alloc _ _ none) (fun r e => by cases e), SKeep.refl _ _⟩
    case round =>
      obtain ⟨k, hk, rfl, hJs, hnx⟩ := hrel
      by_cases hlt : k < ms.length
      · obtain ⟨s, v, hv⟩ : ∃ s v, ms[k]? = some (s, v) := ⟨_, _, List.getElem?_eq_getElem hlt⟩
        obtain ⟨j0, j1, j2⟩ := hel wr (((SKeep.refl sb W).up ((Up.refl W).alloc _) hsb).trans hnx)
        obtain ⟨g, hg, e0, e1⟩ := j2 k s v hv
        subst hg
        have hbox := hnx.same W.heap.size _ (alloc_get W _) (.inl rfl) (by omega) (fun e => by
          rw [show bufOf (W.alloc (.cells #[.pointer (some ⟨b, 0, none⟩), .int .i64 kk, .iface T y] 96)) sb = bufOf W sb from bufOf_up (alloc_old W _ sb hsb)] at e
          have := hbuf _ e; omega)
        have a0 := cell_of hbox 0; have a1 := cell_of hbox 1; have a2 := cell_of hbox 2; have f0 := ice_of hbox 0; have f1 := ice_of hbox 1; have f2 := ice_of hbox 2; have a4 := lt_of_heap hbox; (try simp only [World.size_alloc, List.getElem?_toArray, List.getElem?_cons_zero, List.getElem?_cons_succ] at a0 a1 a2 f0 f1 f2 a4); clear hbox
        obtain ⟨fn, tmps, assign, body, hy, hR⟩ := hY _ ⟨k, s, true, v⟩ wr (hok _ (by rw [objParts, List.mem_iff_getElem?]; exact ⟨k, by simp [hv]⟩)) hJs (by rw [List.length_take]; simp [objParts]; omega)
        simp only [Part.encs] at hy
        have hz := hnx.size
        clear hel j2
        gi_wp2
        refine hR.mono ?_
        rintro e W3 (⟨rfl, hJ3, hk3⟩ | ⟨rfl, hJx3⟩)
        · gi_wp2
          go_roundw
          case rel => exact ⟨k + 1, by omega, by simp, by rw [objParts_take ms k s v hv]; exact hJ3, hnx.trans hk3⟩
          case measure => simp [intOf]; omega
        · gi_wp2
          refine bodyPost_ret (results_none rfl _ _ _) rfl ?_
          exact ⟨⟨_, rfl⟩, .inr ⟨_, by rw [← objParts_take ms k s v hv]; exact List.take_prefix _ _, hJx3⟩⟩
      · obtain rfl : k = ms.length := by omega
        gi_wp2
        go_end0
        exact ⟨⟨_, rfl⟩, .inl ⟨_, rfl, by rwa [List.take_of_length_le (by simp [objParts])] at hJs⟩⟩

end Go.Proofs.YtmbipadiaggolaaGreatDoor
