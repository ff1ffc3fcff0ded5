import Derived.Lib.SmallJoins
import Derived.RangeFuncNested
import Derived.RangeFuncBound
import Derived.RangeFuncCalls
import Derived.RangeFuncLeaves
import Derived.OwnWalkIn
import Derived.TacticsInMore
import Derived.LoopNIn
import Derived.LoopIn
import Derived.Laws.IdiomStrings
import Derived.Test.YtmbipadiaggolaaGreatDoorM08
import Derived.Test.YtmbipadiaggolaaGreatDoorM09
import Derived.Test.YtmbipadiaggolaaGreatDoorM07
/- YtmbipadiaggolaaGreatDoorM10: lemmas of the proof, in order: ShowB, ShowC, ShowD, TextI. -/
/- Walks: a value as text (package value). -/
namespace Go.Proofs.YtmbipadiaggolaaGreatDoor
open Go.RowKit
set_option linter.unusedSimpArgs false

theorem vtruth (b : Bool) (w : World) : Calls Tryz.prog 84 #[.bool b] w fun e w' => e = .returned (.agg #[.int .i64 2, .int .i64 (if b then 1 else 0), .string ⟨#[]⟩]) ∧ Up w w' := by
  cases b
  all_goals
    go_enter Tryz.func84, Tryz.ntmps84
    go_wp2
    refine bodyPost_eq (by (simp [results, Tryz.results84, go_sem, *]) <;> rfl) rfl rfl ⟨rfl, uq⟩

theorem vnumber (n : Int) (w : World) : Calls Tryz.prog 85 #[.int .i64 n] w fun e w' => e = .returned (.agg #[.int .i64 3, .int .i64 n, .string ⟨#[]⟩]) ∧ Up w w' := by
  go_enter Tryz.func85, Tryz.ntmps85
  go_wp2
  refine bodyPost_eq (by (simp [results, Tryz.results85, go_sem, *]) <;> rfl) rfl rfl ⟨rfl, uq⟩

/-- a value as package value counts it -/
def plainV (x : Val) : Val :=
  if x.k = 1 then ⟨1, 0, ⟨#[]⟩⟩
  else if x.k = 2 then ⟨2, if x.n = 0 then 0 else 1, ⟨#[]⟩⟩
  else if x.k = 3 then ⟨3, clampN x.n, ⟨#[]⟩⟩
  else if x.k = 4 then ⟨4, 0, x.s⟩
  else if x.k = 5 then ⟨5, x.n, ⟨#[]⟩⟩
  else ⟨0, 0, ⟨#[]⟩⟩

set_option maxHeartbeats 800000 in
theorem vplain (k n : Int) (s : ByteArray) (w : World) :
    Calls Tryz.prog 71 #[.agg #[.int .i64 k, .int .i64 n, .string s]] w fun e w' => e = .returned (.agg #[.int .i64 (plainV ⟨k, n, s⟩).k, .int .i64 (plainV ⟨k, n, s⟩).n, .string (plainV ⟨k, n, s⟩).s]) ∧ Up w w' := by
  go_enter Tryz.func71, Tryz.ntmps71
  go_wp2_with (first | (go_at_call 84; refine (vtruth _ _).mono ?_; rintro e w' ⟨rfl, hu⟩; have hd := hu.get (Up.get uq (alloc_get w _)); have a0 := cell_of hd 0; have a1 := cell_of hd 1; have a2 := cell_of hd 2; have f0 := ice_of hd 0; have f1 := ice_of hd 1; have f2 := ice_of hd 2; have a4 := lt_of_heap hd; (try simp only [World.size_alloc, List.getElem?_toArray, List.getElem?_cons_zero, List.getElem?_cons_succ] at a0 a1 a2 f0 f1 f2 a4); clear hd; have hd := hu.get (Up.get uq (alloc_get (w.alloc _) _)); have a0 := cell_of hd 0; have a1 := cell_of hd 1; have a2 := cell_of hd 2; have f0 := ice_of hd 0; have f1 := ice_of hd 1; have f2 := ice_of hd 2; have a4 := lt_of_heap hd; (try simp only [World.size_alloc, List.getElem?_toArray, List.getElem?_cons_zero, List.getElem?_cons_succ] at a0 a1 a2 f0 f1 f2 a4); clear hd) | (go_at_call 85; refine (vnumber _ _).mono ?_; rintro e w' ⟨rfl, hu⟩; have hd := hu.get (Up.get uq (alloc_get w _)); have a0 := cell_of hd 0; have a1 := cell_of hd 1; have a2 := cell_of hd 2; have f0 := ice_of hd 0; have f1 := ice_of hd 1; have f2 := ice_of hd 2; have a4 := lt_of_heap hd; (try simp only [World.size_alloc, List.getElem?_toArray, List.getElem?_cons_zero, List.getElem?_cons_succ] at a0 a1 a2 f0 f1 f2 a4); clear hd; have hd := hu.get (Up.get uq (alloc_get (w.alloc _) _)); have a0 := cell_of hd 0; have a1 := cell_of hd 1; have a2 := cell_of hd 2; have f0 := ice_of hd 0; have f1 := ice_of hd 1; have f2 := ice_of hd 2; have a4 := lt_of_heap hd; (try simp only [World.size_alloc, List.getElem?_toArray, List.getElem?_cons_zero, List.getElem?_cons_succ] at a0 a1 a2 f0 f1 f2 a4); clear hd))
  all_goals (refine bodyPost_eq (by (simp [results, Tryz.results71, go_sem, *]) <;> rfl) rfl ?_ ⟨rfl, uq⟩)
  all_goals (go_light; simp_all [plainV, clampN]; try (repeat' split))
  all_goals omega

theorem vbool (b : Bool) (w : World) : Calls Tryz.prog 72 #[.bool b] w fun e w' => e = .returned (.string (if b = true then ⟨#[116, 114, 117, 101]⟩ else ⟨#[102, 97, 108, 115, 101]⟩)) ∧ w' = w := by
  cases b
  all_goals
    go_enter Tryz.func72, Tryz.ntmps72
    go_wp2
    go_ret
    exact ⟨rfl, rfl⟩

/-- the table of strconv -/
def Tab (w : World) : Prop := Lib.TabIs Tryz.prog w "internal/strconv.uint64pow10" .u64 Lib.pow10Tab

def nullS : ByteArray := ⟨#[110, 117, 108, 108]⟩
def trueS : ByteArray := ⟨#[116, 114, 117, 101]⟩
def falseS : ByteArray := ⟨#[102, 97, 108, 115, 101]⟩
def undefS : ByteArray := ⟨#[117, 110, 100, 101, 102, 105, 110, 101, 100]⟩
/-- a value as text -/
def textOf (x : Val) : ByteArray :=
  if (plainV x).k = 1 then nullS
  else if (plainV x).k = 2 then (if (plainV x).n = 0 then falseS else trueS)
  else if (plainV x).k = 3 then ⟨(Lib.itoa (plainV x).n).toArray⟩
  else if (plainV x).k = 4 then (plainV x).s
  else if (plainV x).k = 5 then ⟨#[]⟩
  else undefS

theorem plainV_kinds (x : Val) : (plainV x).k = 0 ∨ (plainV x).k = 1 ∨ (plainV x).k = 2 ∨ (plainV x).k = 3 ∨ (plainV x).k = 4 ∨ (plainV x).k = 5 := by
  unfold plainV
  split
  · simp
  · split
    · simp
    · split
      · simp
      · split
        · simp
        · split <;> simp

theorem plainV_num {x : Val} (h : (plainV x).k = 3) : x.k = 3 ∧ (plainV x).n = clampN x.n := by
  unfold plainV at h ⊢
  split at h
  · simp at h
  · split at h
    · simp at h
    · split at h
      · rename_i h1 h2 h3
        refine ⟨h3, ?_⟩
        rw [if_neg h1, if_neg h2, if_pos h3]
      · split at h
        · simp at h
        · split at h <;> simp at h
theorem clampN_le (n : Int) : -9007199254740991 ≤ clampN n ∧ clampN n ≤ 9007199254740991 := by
  unfold clampN
  split
  · omega
  · split <;> omega
theorem clampN_id {n : Int} (h : -9007199254740991 ≤ n) (h' : n ≤ 9007199254740991) : clampN n = n := by
  unfold clampN
  rw [if_neg (by omega), if_neg (by omega)]

theorem tabNamed : (Tryz.prog.globalNamed "internal/strconv.uint64pow10").isSome = true := by kernel_rfl
theorem Tab.up {w w' : World} (h : Tab w) (hu : Up w w') : Tab w' := by
  obtain ⟨g, hg⟩ := Option.isSome_iff_exists.1 tabNamed
  exact Joins.tab_stays hg h hu (Nat.le_refl _)
theorem Up.grow (w : World) (k : Nat) (os : Array Obj) : Up w (Go.Sort.grow (w.drewN k) os) :=
  ⟨rfl, rfl, rfl, by simp [Go.Sort.grow, World.drewN], fun b hb => by
    show (w.heap ++ os)[b]? = _
    rw [Array.getElem?_append_left hb]⟩

theorem itoa_any (n : Int) (h0 : -9007199254740991 ≤ n) (h1 : n ≤ 9007199254740991) (w : World) (ht : (0 ≤ n ∧ n < 100) ∨ Tab w) :
    Calls Tryz.prog 73 #[.int .i64 n] w fun e w' => e = .returned (.string ⟨(Lib.itoa n).toArray⟩) ∧ Up w w' := by
  rcases ht with ⟨h2, h3⟩ | ht
  · obtain ⟨k, rfl⟩ := Int.eq_ofNat_of_zero_le h2
    refine (Tryz.strconv_Itoa_small k (by omega) w).mono ?_
    rintro e w' ⟨rfl, rfl⟩
    refine ⟨?_, Up.refl _⟩
    unfold Lib.itoa
    rw [if_neg (by omega), Int.toNat_natCast]
  · refine (Tryz.strconv_Itoa n (by omega) (by omega) w ht).mono ?_
    rintro e w' ⟨rfl, k, os, rfl⟩
    exact ⟨rfl, Up.grow _ _ _⟩

set_option maxHeartbeats 1600000 in
theorem vtext (k n : Int) (s : ByteArray) (w : World) (ht : k = 3 → (0 ≤ n ∧ n < 100) ∨ Tab w) :
    Calls Tryz.prog 58 #[.agg #[.int .i64 k, .int .i64 n, .string s]] w fun e w' => e = .returned (.string (textOf ⟨k, n, s⟩)) ∧ Up w w' := by
  have hk := plainV_kinds ⟨k, n, s⟩
  have hn := @plainV_num ⟨k, n, s⟩
  unfold textOf
  rcases e : plainV ⟨k, n, s⟩ with ⟨pk, pn, ps⟩
  simp only [e] at hk hn
  have HP := Lib.hid e
  have HN := Lib.hid hn
  have HT := Lib.hid ht
  clear e hn ht
  rcases hk with rfl | rfl | rfl | rfl | rfl | rfl
  all_goals
    go_enter Tryz.func58, Tryz.ntmps58
    go_wp2_with (first | (go_at_call 71; refine (vplain _ _ _ _).mono ?_; rintro e w' ⟨rfl, hu⟩; simp only [HP.out]; have hd := hu.get (Up.get uq (alloc_get w _)); have a0 := cell_of hd 0; have a1 := cell_of hd 1; have a2 := cell_of hd 2; have f0 := ice_of hd 0; have f1 := ice_of hd 1; have f2 := ice_of hd 2; have a4 := lt_of_heap hd; (try simp only [World.size_alloc, List.getElem?_toArray, List.getElem?_cons_zero, List.getElem?_cons_succ] at a0 a1 a2 f0 f1 f2 a4); clear hd) | (go_at_call 72; refine (vbool _ _).mono ?_; rintro e w2 ⟨rfl, rfl⟩) | (go_at_call 73; refine (itoa_any _ (by have := (HN.out rfl).2; have := clampN_le n; omega) (by have := (HN.out rfl).2; have := clampN_le n; omega) _ ?_).mono ?_; (rcases HT.out (HN.out rfl).1 with h | h; (left; rw [(HN.out rfl).2, clampN_id (by omega) (by omega)]; exact h); exact .inr (h.up uq)); rintro e w2 ⟨rfl, hu2⟩))
    all_goals (refine bodyPost_eq (by (simp [results, Tryz.results58, go_sem, *]) <;> rfl) rfl rfl ⟨rfl, uq⟩)

end Go.Proofs.YtmbipadiaggolaaGreatDoor

/- The parts of a thing, one after the other. -/
namespace Go.Proofs.YtmbipadiaggolaaGreatDoor
open Go.RowKit
set_option linter.unusedSimpArgs false
attribute [local go_sem] Oper.semAt_some ta_aa ta_ao ta_an ta_oa ta_oo ta_on

structure Part where
  i : Nat
  key : ByteArray
  keyed : Bool
  v : Val

def Part.encs (x : Part) : Array Value := #[.int .i64 x.i, .agg #[.string x.key, .bool x.keyed, .int .i64 x.v.k, .int .i64 x.v.n, .string x.v.s]]

def arrParts (vals : List Val) : List Part := vals.mapIdx fun i v => ⟨i, ⟨#[]⟩, false, v⟩
def objParts (l : List (ByteArray × Val)) : List Part := l.mapIdx fun i x => ⟨i, x.1, true, x.2⟩

/-- what a round keeps of cells and maps -/
structure SKeep (sb : Nat) (a b : World) : Prop where
  size : a.heap.size ≤ b.heap.size
  same : ∀ x o, a.heap[x]? = some o → (o.isCells = true ∨ o.isWalk = true) → x ≠ sb → bufOf a sb ≠ some x → b.heap[x]? = some o
  buf : ∀ x, bufOf b sb = some x → bufOf a sb = some x ∨ a.heap.size ≤ x

theorem SKeep.refl (sb : Nat) (w : World) : SKeep sb w w := ⟨Nat.le_refl _, fun _ _ h _ _ _ => h, fun _ h => .inl h⟩
theorem SKeep.trans {sb : Nat} {a b c : World} (h : SKeep sb a b) (k : SKeep sb b c) : SKeep sb a c where
  size := Nat.le_trans h.size k.size
  same := fun x o hx ho h1 h2 => k.same x o (h.same x o hx ho h1 h2) ho h1 fun e => by
    rcases h.buf x e with e | e
    · exact h2 e
    · have := lt_of_heap hx; omega
  buf := fun x e => by
    rcases k.buf x e with e | e
    · exact h.buf x e
    · exact .inr (Nat.le_trans h.size e)
theorem Showed.skeep {sb : Nat} {a b : World} (h : Showed sb a b) : SKeep sb a b where
  size := h.kept.size
  same := fun _ _ hx _ h1 h2 => h.get hx h1 h2
  buf := h.buf
theorem SKeep.putObj {sb : Nat} {w : World} (W : World) (l : Nat) (o o' : Obj) (hs : sb < w.heap.size) (hl : w.heap.size ≤ l) (h : W.heap[l]? = some o) (hc : o.isCells = false) (hw : o.isWalk = false) : SKeep sb W (W.putObj l o') where
  size := by simp
  same := fun x u hx hu _ _ => by
    rw [World.putObj_heap_other (fun e => by subst e; rw [h] at hx; cases hx; rcases hu with hu | hu; rw [hc] at hu; cases hu; rw [hw] at hu; cases hu)]
    exact hx
  buf := fun x e => .inl (by rw [← e]; exact (bufOf_up (World.putObj_heap_other (by omega))).symm)
theorem SKeep.up {sb : Nat} {a b c : World} (h : SKeep sb a b) (k : Up b c) (hsb : sb < b.heap.size) : SKeep sb a c := h.trans (Showed.of_up k hsb).skeep

theorem arrParts_take (vals : List Val) (k : Nat) (v : Val) (h : vals[k]? = some v) : (arrParts vals).take (k + 1) = (arrParts vals).take k ++ [⟨k, ⟨#[]⟩, false, v⟩] := by
  rw [List.take_add_one]
  simp [arrParts, h]

set_option maxRecDepth 100000 in
set_option maxHeartbeats 2000000 in
theorem parts_arr (l tb sb b : Nat) (sa : Option Addr) (cap : Nat) (vals : List Val) (hlen : vals.length ≤ 1048576) (J Jx : List Part → World → Prop) (W : World) (okP : Part → Prop) (hok : ∀ x ∈ arrParts vals, okP x)
    (hJ : AbidesFrom W.heap.size J)
    (hY : ∀ pre x W1, okP x → J pre W1 → pre.length < vals.length → YieldAt Fence.wide 0 Tryz.prog l (Part.encs x) W1 fun e W' =>
      (e = .returned (.bool true) ∧ J (pre ++ [x]) W' ∧ SKeep sb W1 W') ∨ (e = .returned (.bool false) ∧ Jx (pre ++ [x]) W'))
    (htb : W.cell? ⟨tb, 0, none⟩ = some (.iface 86 (.pointer (some ⟨b, 0, none⟩)))) (hb : W.cell? ⟨b, 0, none⟩ = some (.slice sa vals.length cap))
    (hel : ∀ W', SKeep sb W W' → ∀ k v, vals[k]? = some v → ∃ g, sa = some ⟨g, 0, none⟩ ∧ W'.cell? ⟨g, k * 3, none⟩ = some (.int .i64 v.k) ∧ W'.cell? ⟨g, k * 3 + 1, none⟩ = some (.int .i64 v.n) ∧ W'.cell? ⟨g, k * 3 + 2, none⟩ = some (.string v.s))
    (hsb : sb < W.heap.size) (h0 : J [] W) :
    CallsIn Fence.wide 1 Tryz.prog 74 #[.func (.yield l) #[] #[], .pointer (some ⟨tb, 0, none⟩)] W fun e W' => (∃ v, e = .returned v) ∧
      ((∃ xs, xs = arrParts vals ∧ J xs W') ∨ (∃ pre, pre <+: arrParts vals ∧ Jx pre W')) := by
  refine callsIn_of_wp Tryz.func74 rfl trivial ?_ rfl
  simp only [Tryz.ntmps74, List.size_toArray, List.length_cons, List.length_nil, Nat.reduceAdd, Nat.reduceSub, Array.replicate_succ, Array.replicate_zero, List.push_toArray, List.append_toArray, List.nil_append, List.cons_append]
  gi_wp2
  gi_loopw [18] (fun i wr => ∃ k : Nat, k ≤ vals.length ∧ i = .int .i64 k ∧ J ((arrParts vals).take k) wr ∧ SKeep sb W wr)
    (fun i _ => vals.length - (intOf i).toNat)
  case atStart => exact ⟨0, Nat.zero_le _, rfl, h0, SKeep.refl _ _⟩
  case round =>
    obtain ⟨k, hk, rfl, hJs, hnx⟩ := hrel
    by_cases hlt : k < vals.length
    · obtain ⟨v, hv⟩ : ∃ v, vals[k]? = some v := ⟨_, List.getElem?_eq_getElem hlt⟩
      obtain ⟨g, hg, e0, e1, e2⟩ := hel wr hnx k v hv
      subst hg
      obtain ⟨fn, tmps, assign, body, hy, hR⟩ := hY _ ⟨k, ⟨#[]⟩, false, v⟩ (wr.alloc (.cells #[.int .i64 v.k, .int .i64 v.n, .string v.s] 34)) (hok _ (by rw [arrParts, List.mem_iff_getElem?]; exact ⟨k, by simp [hv]⟩)) (hJ _ _ _ none hJs (World.grownBy_alloc _ _ none) (fun r e => by cases e)) (by rw [List.length_take]; simp [arrParts]; omega)
      simp only [Part.encs] at hy
      have hz := hnx.size
      gi_wp2
      refine hR.mono ?_
      rintro e W3 (⟨rfl, hJ3, hk3⟩ | ⟨rfl, hJx3⟩)
      · gi_wp2
        go_roundw
        case rel => exact ⟨k + 1, by omega, by simp, by rw [arrParts_take vals k v hv]; exact hJ3, (hnx.up ((Up.refl wr).alloc _) (by omega)).trans hk3⟩
        case measure => simp [intOf]; omega
      · gi_wp2
        refine bodyPost_ret (results_none rfl _ _ _) rfl ?_
        exact ⟨⟨_, rfl⟩, .inr ⟨_, by rw [← arrParts_take vals k v hv]; exact List.take_prefix _ _, hJx3⟩⟩
    · obtain rfl : k = vals.length := by omega
      gi_wp2
      go_end0
      exact ⟨⟨_, rfl⟩, .inl ⟨_, rfl, by rwa [List.take_of_length_le (by simp [arrParts])] at hJs⟩⟩

theorem objParts_take (l : List (ByteArray × Val)) (k : Nat) (s : ByteArray) (v : Val) (h : l[k]? = some (s, v)) : (objParts l).take (k + 1) = (objParts l).take k ++ [⟨k, s, true, v⟩] := by
  rw [List.take_add_one]
  simp [objParts, h]

set_option maxRecDepth 100000 in
set_option maxHeartbeats 2000000 in
theorem parts_obj (l tb sb b : Nat) (kk : Int) (pv mv : Value) (hpv : pv = .nilIface ∨ ∃ T y, pv = .iface T y) (sa : Option Addr) (cap : Nat) (ms : List (ByteArray × Val)) (hlen : ms.length ≤ 1048576) (J Jx : List Part → World → Prop) (W : World) (okP : Part → Prop) (hok : ∀ x ∈ objParts ms, okP x)
    (hJ : AbidesFrom W.heap.size J)
    (hY : ∀ pre x W1, okP x → J pre W1 → pre.length < ms.length → YieldAt Fence.wide 0 Tryz.prog l (Part.encs x) W1 fun e W' =>
      (e = .returned (.bool true) ∧ J (pre ++ [x]) W' ∧ SKeep sb W1 W') ∨ (e = .returned (.bool false) ∧ Jx (pre ++ [x]) W'))
    (htb : W.cell? ⟨tb, 0, none⟩ = some (.iface 96 (.agg #[.pointer (some ⟨b, 0, none⟩), .int .i64 kk, pv])))
    (hel : ∀ W', SKeep sb W W' → W'.cell? ⟨b, 0, none⟩ = some mv ∧ W'.cell? ⟨b, 1, none⟩ = some (.slice sa ms.length cap) ∧ ∀ k s v, ms[k]? = some (s, v) → ∃ g, sa = some ⟨g, 0, none⟩ ∧ W'.cell? ⟨g, k, none⟩ = some (.string s) ∧ (Instr.lookup 91 mv (.string s) false).run Tryz.prog W' = .ok (.agg #[.int .i64 (v).k, .int .i64 (v).n, .string (v).s]) W')
    (hsb : sb < W.heap.size) (hbuf : ∀ x, bufOf W sb = some x → x < W.heap.size) (h0 : J [] W) :
    CallsIn Fence.wide 1 Tryz.prog 74 #[.func (.yield l) #[] #[], .pointer (some ⟨tb, 0, none⟩)] W fun e W' => (∃ v, e = .returned v) ∧
      ((∃ xs, xs = objParts ms ∧ J xs W') ∨ (∃ pre, pre <+: objParts ms ∧ Jx pre W')) := by
  obtain ⟨i0, i1, _⟩ := hel _ ((SKeep.refl sb W).up ((Up.refl W).alloc (.cells #[.pointer (some ⟨b, 0, none⟩), .int .i64 kk, pv] 96)) hsb)
  rcases hpv with rfl | ⟨T, y, rfl⟩
  ·
    refine callsIn_of_wp Tryz.func74 rfl trivial ?_ rfl
    simp only [Tryz.ntmps74, List.size_toArray, List.length_cons, List.length_nil, Nat.reduceAdd, Nat.reduceSub, Array.replicate_succ, Array.replicate_zero, List.push_toArray, List.append_toArray, List.nil_append, List.cons_append]
    gi_wp2
    gi_loopw [39] (fun i wr => ∃ k : Nat, k ≤ ms.length ∧ i = .int .i64 k ∧ J ((objParts ms).take k) wr ∧ SKeep sb (W.alloc (.cells #[.pointer (some ⟨b, 0, none⟩), .int .i64 kk, .nilIface] 96)) wr)
      (fun i _ => ms.length - (intOf i).toNat)
    case atStart => exact ⟨0, Nat.zero_le _, rfl, hJ _ _ _ none h0 (World.grownBy_alloc _ _ none) (fun r e => by cases e), SKeep.refl _ _⟩
    case round =>
      obtain ⟨k, hk, rfl, hJs, hnx⟩ := hrel
      by_cases hlt : k < ms.length
      · obtain ⟨s, v, hv⟩ : ∃ s v, ms[k]? = some (s, v) := ⟨_, _, List.getElem?_eq_getElem hlt⟩
        obtain ⟨j0, j1, j2⟩ := hel wr (((SKeep.refl sb W).up ((Up.refl W).alloc _) hsb).trans hnx)
        obtain ⟨g, hg, e0, e1⟩ := j2 k s v hv
        subst hg
        have hbox := hnx.same W.heap.size _ (alloc_get W _) (.inl rfl) (by omega) (fun e => by
          rw [show bufOf (W.alloc (.cells #[.pointer (some ⟨b, 0, none⟩), .int .i64 kk, .nilIface] 96)) sb = bufOf W sb from bufOf_up (alloc_old W _ sb hsb)] at e
          have := hbuf _ e; omega)
        have a0 := cell_of hbox 0; have a1 := cell_of hbox 1; have a2 := cell_of hbox 2; have f0 := ice_of hbox 0; have f1 := ice_of hbox 1; have f2 := ice_of hbox 2; have a4 := lt_of_heap hbox; (try simp only [World.size_alloc, List.getElem?_toArray, List.getElem?_cons_zero, List.getElem?_cons_succ] at a0 a1 a2 f0 f1 f2 a4); clear hbox
        obtain ⟨fn, tmps, assign, body, hy, hR⟩ := hY _ ⟨k, s, true, v⟩ wr (hok _ (by rw [objParts, List.mem_iff_getElem?]; exact ⟨k, by simp [hv]⟩)) hJs (by rw [List.length_take]; simp [objParts]; omega)
        simp only [Part.encs] at hy
        have hz := hnx.size
        clear hel j2
        gi_wp2
        refine hR.mono ?_
        rintro e W3 (⟨rfl, hJ3, hk3⟩ | ⟨rfl, hJx3⟩)
        · gi_wp2
          go_roundw
          case rel => exact ⟨k + 1, by omega, by simp, by rw [objParts_take ms k s v hv]; exact hJ3, hnx.trans hk3⟩
          case measure => simp [intOf]; omega
        · gi_wp2
          refine bodyPost_ret (results_none rfl _ _ _) rfl ?_
          exact ⟨⟨_, rfl⟩, .inr ⟨_, by rw [← objParts_take ms k s v hv]; exact List.take_prefix _ _, hJx3⟩⟩
      · obtain rfl : k = ms.length := by omega
        gi_wp2
        go_end0
        exact ⟨⟨_, rfl⟩, .inl ⟨_, rfl, by rwa [List.take_of_length_le (by simp [objParts])] at hJs⟩⟩
  ·
    refine callsIn_of_wp Tryz.func74 rfl trivial ?_ rfl
    simp only [Tryz.ntmps74, List.size_toArray, List.length_cons, List.length_nil, Nat.reduceAdd, Nat.reduceSub, Array.replicate_succ, Array.replicate_zero, List.push_toArray, List.append_toArray, List.nil_append, List.cons_append]
    gi_wp2
    gi_loopw [39] (fun i wr => ∃ k : Nat, k ≤ ms.length ∧ i = .int .i64 k ∧ J ((objParts ms).take k) wr ∧ SKeep sb (W.alloc (.cells #[.pointer (some ⟨b, 0, none⟩), .int .i64 kk, .iface T y] 96)) wr)
      (fun i _ => ms.length - (intOf i).toNat)
    case atStart => exact ⟨0, Nat.zero_le _, rfl, hJ _ _ _ none h0 (World.grownBy_alloc _ _ none) (fun r e => by cases e), SKeep.refl _ _⟩
    case round =>
      obtain ⟨k, hk, rfl, hJs, hnx⟩ := hrel
      by_cases hlt : k < ms.length
      · obtain ⟨s, v, hv⟩ : ∃ s v, ms[k]? = some (s, v) := ⟨_, _, List.getElem?_eq_getElem hlt⟩
        obtain ⟨j0, j1, j2⟩ := hel wr (((SKeep.refl sb W).up ((Up.refl W).alloc _) hsb).trans hnx)
        obtain ⟨g, hg, e0, e1⟩ := j2 k s v hv
        subst hg
        have hbox := hnx.same W.heap.size _ (alloc_get W _) (.inl rfl) (by omega) (fun e => by
          rw [show bufOf (W.alloc (.cells #[.pointer (some ⟨b, 0, none⟩), .int .i64 kk, .iface T y] 96)) sb = bufOf W sb from bufOf_up (alloc_old W _ sb hsb)] at e
          have := hbuf _ e; omega)
        have a0 := cell_of hbox 0; have a1 := cell_of hbox 1; have a2 := cell_of hbox 2; have f0 := ice_of hbox 0; have f1 := ice_of hbox 1; have f2 := ice_of hbox 2; have a4 := lt_of_heap hbox; (try simp only [World.size_alloc, List.getElem?_toArray, List.getElem?_cons_zero, List.getElem?_cons_succ] at a0 a1 a2 f0 f1 f2 a4); clear hbox
        obtain ⟨fn, tmps, assign, body, hy, hR⟩ := hY _ ⟨k, s, true, v⟩ wr (hok _ (by rw [objParts, List.mem_iff_getElem?]; exact ⟨k, by simp [hv]⟩)) hJs (by rw [List.length_take]; simp [objParts]; omega)
        simp only [Part.encs] at hy
        have hz := hnx.size
        clear hel j2
        gi_wp2
        refine hR.mono ?_
        rintro e W3 (⟨rfl, hJ3, hk3⟩ | ⟨rfl, hJx3⟩)
        · gi_wp2
          go_roundw
          case rel => exact ⟨k + 1, by omega, by simp, by rw [objParts_take ms k s v hv]; exact hJ3, hnx.trans hk3⟩
          case measure => simp [intOf]; omega
        · gi_wp2
          refine bodyPost_ret (results_none rfl _ _ _) rfl ?_
          exact ⟨⟨_, rfl⟩, .inr ⟨_, by rw [← objParts_take ms k s v hv]; exact List.take_prefix _ _, hJx3⟩⟩
      · obtain rfl : k = ms.length := by omega
        gi_wp2
        go_end0
        exact ⟨⟨_, rfl⟩, .inl ⟨_, rfl, by rwa [List.take_of_length_le (by simp [objParts])] at hJs⟩⟩

end Go.Proofs.YtmbipadiaggolaaGreatDoor

/- The parts of a thing: the iterator's contract. -/
namespace Go.Proofs.YtmbipadiaggolaaGreatDoor
open Go.RowKit
set_option linter.unusedSimpArgs false
attribute [local go_sem] Oper.semAt_some ta_aa ta_ao ta_an ta_oa ta_oo ta_on

def partsOf (t : Thing) : List Part := if t.kind = 2 then arrParts t.vals else objParts t.slots

theorem flat_at : ∀ (vals : List Val) (k : Nat) (v : Val), vals[k]? = some v → (vals.flatMap Val.cells)[k * 3]? = some (.int .i64 v.k) ∧ (vals.flatMap Val.cells)[k * 3 + 1]? = some (.int .i64 v.n) ∧ (vals.flatMap Val.cells)[k * 3 + 2]? = some (.string v.s)
  | [], k, v, h => by simp at h
  | u :: l, 0, v, h => by simp at h; subst h; simp [Val.cells]
  | u :: l, k + 1, v, h => by
    have h1 := flat_at l k v (by simpa using h)
    have e : ∀ i, (List.flatMap Val.cells (u :: l))[(k + 1) * 3 + i]? = (List.flatMap Val.cells l)[k * 3 + i]? := fun i => by
      rw [List.flatMap_cons, List.getElem?_append_right (by simp [Val.cells]; omega)]
      congr 1
      simp [Val.cells]; omega
    exact ⟨by rw [← h1.1]; exact e 0, by rw [← h1.2.1]; exact e 1, by rw [← h1.2.2]; exact e 2⟩

theorem ThingIs.skeep {w w' : World} {own : Own} {tvs : List Value} {i : Nat} {t : Thing} {v : Value} (h : ThingIs w own tvs i t v) (hk : ∀ b o, own b ≠ none → w.heap[b]? = some o → (o.isCells = true ∨ o.isWalk = true) → w'.heap[b]? = some o) : ThingIs w' own tvs i t v := by
  have hrow : ∀ {m e size v n xs}, Row w own m e size v n xs → Row w' own m e size v n xs := by
    rintro m e size v n xs ⟨⟨h1, h2⟩, h3⟩
    refine ⟨⟨h1, ?_⟩, h3⟩
    rcases h2 with h2 | ⟨g, cap, cur, hv, hg, hc, r⟩
    · exact Or.inl h2
    · exact Or.inr ⟨g, cap, cur, hv, hg, hk g _ (by rw [h3 g (by rw [hv]; rfl)]; simp) hc (Or.inl rfl), r⟩
  cases h with
  | arr vals b av hb hc hr => exact ThingIs.arr vals b av hb (hk b _ (by rw [hb]; simp) hc (Or.inl rfl)) (hrow hr)
  | obj k p l b mv kv hk' hp hpi hb hc hm hr hn =>
    refine ThingIs.obj k p l b mv kv hk' hp hpi hb (hk b _ (by rw [hb]; simp) hc (Or.inl rfl)) ?_ (hrow hr) hn
    rcases hm with h | ⟨g, es, clk, hv, ho, hg, r⟩
    · exact Or.inl h
    · exact Or.inr ⟨g, es, clk, hv, ho, hk g _ (by rw [ho]; simp) hg (Or.inr rfl), r⟩

theorem row_at {w : World} {own : Own} {m : Nat × Nat} {e : TypeId} {size : Nat} {sa : Option Addr} {n cap : Nat} {xs : List Value} (h : Row w own m e size (.slice sa n cap) n xs) (j : Nat) (x : Value) (hx : xs[j]? = some x) :
    ∃ g, sa = some ⟨g, 0, none⟩ ∧ w.cell? ⟨g, j, none⟩ = some x := by
  rcases h.1.2 with ⟨h2, h0⟩ | ⟨g, cap', cur, hv, hg, hc, r⟩
  · exfalso
    have h3 := h.1.1
    subst h0
    have : xs = [] := List.eq_nil_of_length_eq_zero (by simpa using h3)
    subst this
    simp at hx
  · injection hv with h1 h2 h3
    subst h1
    refine ⟨g, rfl, ?_⟩
    have := h.1.cells (g := g) rfl j x hx
    rw [Addr.add_lit, Nat.zero_add] at this
    exact this

theorem parts_stops (t : Thing) (tv : Value) (own : Own) (tvs : List Value) (i tb sb B : Nat) (w : World) (hti : ThingIs w own tvs i t tv) (htb : w.heap[tb]? = some (.cells #[tv] 79 (0, 0)))
    (hB : ∀ b m, own b = some m → b < B) (hsb : sb < w.heap.size) (hsB : B ≤ sb) (hbuf : ∀ x, bufOf w sb = some x → B ≤ x ∧ x < w.heap.size) (hlen : (partsOf t).length ≤ 1048576) (hpv : ∀ p : Int, p < i → protoV tvs p = .nilIface ∨ ∃ T y, protoV tvs p = .iface T y) (okP : Part → Prop) (hok : ∀ x ∈ partsOf t, okP x) :
    SeqStopsK Fence.wide 1 Tryz.prog 74 #[.pointer (some ⟨tb, 0, none⟩)] (fun x : { x : Part // okP x } => x.1.encs) (SKeep sb) (fun xs => xs.map (·.1) = partsOf t) (fun xs => xs.map (·.1) <+: partsOf t) (partsOf t).length w := by
  intro l J0 Jx0 W hW hJ0 hJx0 hY0 h00
  -- the lists of parts that are sound, as lists of parts
  have hJ : AbidesFrom W.heap.size (fun (pre : List Part) W' => ∃ q : List { x : Part // okP x }, q.map (·.1) = pre ∧ J0 q W') := fun s A C row hs hg hr => by
    obtain ⟨q, hq, hj⟩ := hs
    exact ⟨q, hq, hJ0 q A C row hj hg hr⟩
  have hY : ∀ pre x W1, okP x → (∃ q : List { x : Part // okP x }, q.map (·.1) = pre ∧ J0 q W1) → pre.length < (partsOf t).length → YieldAt Fence.wide 0 Tryz.prog l (Part.encs x) W1 fun e W' =>
      (e = .returned (.bool true) ∧ (∃ q : List { x : Part // okP x }, q.map (·.1) = pre ++ [x] ∧ J0 q W') ∧ SKeep sb W1 W') ∨ (e = .returned (.bool false) ∧ (∃ q : List { x : Part // okP x }, q.map (·.1) = pre ++ [x] ∧ Jx0 q W')) := fun pre x W1 hx hj hl => by
    obtain ⟨q, rfl, hj⟩ := hj
    obtain ⟨fn, tmps, assign, body, hy, hR⟩ := hY0 q ⟨x, hx⟩ W1 hj (by simpa using hl)
    refine ⟨fn, tmps, assign, body, hy, hR.mono ?_⟩
    rintro e W' (⟨rfl, h1, h2⟩ | ⟨rfl, h1⟩)
    · exact Or.inl ⟨rfl, ⟨_, by simp, h1⟩, h2⟩
    · exact Or.inr ⟨rfl, _, by simp, h1⟩
  have h0 : ∃ q : List { x : Part // okP x }, q.map (·.1) = [] ∧ J0 q W := ⟨[], rfl, h00⟩
  refine CallsIn.mono (R := fun e W' => (∃ v, e = .returned v) ∧ ((∃ xs, xs = partsOf t ∧ ∃ q : List { x : Part // okP x }, q.map (·.1) = xs ∧ J0 q W') ∨ (∃ pre, pre <+: partsOf t ∧ ∃ q : List { x : Part // okP x }, q.map (·.1) = pre ∧ Jx0 q W'))) ?_ ?_
  rotate_left
  · rintro e W' ⟨hv, ⟨xs, rfl, q, hq, hj⟩ | ⟨pre, hp, q, rfl, hj⟩⟩
    · exact ⟨hv, Or.inl ⟨q, hq, hj⟩⟩
    · exact ⟨hv, Or.inr ⟨q, hp, hj⟩⟩
  clear hY0 hJ0 h00 hJx0
  have hU : Up w W := hW
  have hbW : bufOf W sb = bufOf w sb := bufOf_up (hU.block sb hsb)
  have hkeep : ∀ W', SKeep sb W W' → ThingIs W' own tvs i t tv := fun W' hs => by
    refine (hti.up hU).skeep fun b o ho hb hc => hs.same b o hb hc (fun e => ?_) (fun e => ?_)
    · obtain ⟨m, hm⟩ := Option.ne_none_iff_exists'.1 ho
      have := hB b m hm; omega
    · obtain ⟨m, hm⟩ := Option.ne_none_iff_exists'.1 ho
      have := hB b m hm
      rw [hbW] at e
      have := hbuf b e; omega
  have htW := cell_of (hU.get htb) 0
  simp only [List.getElem?_toArray, List.getElem?_cons_zero] at htW
  cases hti with
  | arr vals b av hb hc hr =>
    obtain ⟨sa, cap, rfl, _⟩ := ThingIs.arrow hr
    have hcb := cell_of (hU.get hc) 0
    simp only [List.getElem?_toArray, List.getElem?_cons_zero] at hcb
    simp only [partsOf, if_true] at hlen hY hok ⊢
    refine parts_arr l tb sb b sa cap vals (by simpa [arrParts] using hlen) _ _ W okP hok hJ (by simpa [arrParts] using hY) htW hcb ?_ (Nat.lt_of_lt_of_le hsb hU.size) h0
    intro W' hs k v hv
    have h1 := hkeep W' hs
    obtain ⟨f0, f1, f2⟩ := flat_at vals k v hv
    cases h1 with
    | arr _ _ av' hb' hc' hr' =>
      have e : av' = .slice sa vals.length cap := by
        have h2 := hs.same b _ (hU.get hc) (.inl rfl) (fun e => by have := hB b _ hb; omega) (fun e => by rw [hbW] at e; have := hB b _ hb; have := hbuf b e; omega)
        rw [hc'] at h2
        simpa using h2
      subst e
      obtain ⟨g, hg, r0⟩ := row_at hr' _ _ f0
      obtain ⟨g', hg', r1⟩ := row_at hr' _ _ f1
      obtain ⟨g'', hg'', r2⟩ := row_at hr' _ _ f2
      rw [hg] at hg' hg''
      cases hg'
      cases hg''
      exact ⟨g, hg, r0, r1, r2⟩
  | obj k p ms b mv kv hk hp hpi hb hc hm hr hn =>
    have hk2 : k ≠ 2 := by omega
    simp only [partsOf, if_neg hk2] at hlen hY hok ⊢
    obtain ⟨sa, cap, rfl⟩ := ownsRow_form hr.1
    refine parts_obj l tb sb b k _ mv ?_ sa cap ms (by simpa [objParts] using hlen) _ _ W okP hok hJ (by simpa [objParts] using hY) htW ?_ (Nat.lt_of_lt_of_le hsb hU.size) (fun x e => by rw [hbW] at e; exact Nat.lt_of_lt_of_le (hbuf x e).2 hU.size) h0
    · exact hpv p hpi
    intro W' hs
    have h1 := hkeep W' hs
    cases h1 with
    | obj _ _ _ _ mv' kv' _ _ _ hb' hc' hm' hr' hn' =>
      have e : mv' = mv ∧ kv' = .slice sa ms.length cap := by
        have h2 := hs.same b _ (hU.get hc) (.inl rfl) (fun e => by have := hB b _ hb; omega) (fun e => by rw [hbW] at e; have := hB b _ hb; have := hbuf b e; omega)
        rw [hc'] at h2
        simpa using h2
      obtain ⟨rfl, rfl⟩ := e
      have c0 := cell_of hc' 0
      have c1 := cell_of hc' 1
      simp only [List.getElem?_toArray, List.getElem?_cons_zero, List.getElem?_cons_succ] at c0 c1
      refine ⟨c0, c1, fun k s v hv => ?_⟩
      obtain ⟨g, hg, r0⟩ := row_at hr' k (.string s) (by simp [keysOf, hv])
      refine ⟨g, hg, r0, ?_⟩
      rcases hm' with ⟨rfl, rfl⟩ | ⟨g, es, clk, rfl, _, hg, hes⟩
      · simp at hv
      · exact (run_lookup_hit Tryz.underlying91 Tryz.underlying9 strKeys hg hes s v k hv hn).2

end Go.Proofs.YtmbipadiaggolaaGreatDoor

/- Walks: the program's Runes: an iterator over the runes of a text. -/
namespace Go.Proofs.YtmbipadiaggolaaGreatDoor
open Go.RowKit
set_option linter.unusedSimpArgs false
attribute [local go_sem] Oper.semAt_some

theorem Up.grownBy {a b : World} (h : Up a b) (row : Option Nat) : a.grownBy b row := ⟨h.os, h.tape, h.output, h.size, fun i hi _ => h.block i hi⟩
/-- what a text converted to bytes leaves -/
def bytesLaid (w : World) (s : ByteArray) : World := w.drew.alloc (.cells (bytesRow s (grownCap w s.size 0 5)) 5 ((bytesRow s (grownCap w s.size 0 5)).size, (bytesRow s (grownCap w s.size 0 5)).size + 1))
theorem bytesLaid_up (w : World) (s : ByteArray) : Up w (bytesLaid w s) := (Up.refl w).drew.alloc _
theorem bytesLaid_size (w : World) (s : ByteArray) : (bytesLaid w s).heap.size = w.heap.size + 1 := by simp [bytesLaid]
theorem conv_sb (s : ByteArray) (w : World) : (convert 9 70 (.string s)).run Tryz.prog w = .ok (.slice (some ⟨w.heap.size, 0, none⟩) s.size (grownCap w s.size 0 5)) (bytesLaid w s) :=
  run_bytes_of_string w _ _ 5 s Tryz.underlying9 Tryz.underlying70 Tryz.underlying5
theorem bytesLaid_at (w : World) (s : ByteArray) (h : s.size ≤ 1000000000) : BytesAt (bytesLaid w s) (some ⟨w.heap.size, 0, none⟩) s.data.toList := by
  refine ⟨by simpa using h, fun k hk => ⟨_, 0, rfl, ?_⟩⟩
  have hk' : k < s.data.size := by simpa using hk
  have := World.cell?_alloc_mark w.drew (bytesRow s (grownCap w s.size 0 5)) 5 ((bytesRow s (grownCap w s.size 0 5)).size, (bytesRow s (grownCap w s.size 0 5)).size + 1) (0 + k)
  rw [Nat.zero_add] at this ⊢
  rw [bytesRow_at s _ k hk'] at this
  refine Eq.trans this ?_
  simp [List.getD, Array.getElem?_eq_getElem hk']

theorem conv_bs (b cap : Nat) (l : List UInt8) (w : World) (h : BytesAt w (some ⟨b, 0, none⟩) l) : (convert 70 9 (.slice (some ⟨b, 0, none⟩) l.length cap)).run Tryz.prog w = .ok (.string ⟨l.toArray⟩) w :=
  run_convert_bytes_back w _ _ 5 ⟨b, 0, none⟩ cap l Tryz.underlying70 Tryz.underlying5 Tryz.underlying9 fun j hj => by
    obtain ⟨b', off, h1, h2⟩ := h.2 j hj
    cases h1
    rw [Addr.add_lit]
    simpa [List.getD, List.getElem?_eq_getElem hj] using h2

/-- Runes: its closure holds the text in a box -/
theorem p_runes (b cap : Nat) (l : List UInt8) (w : World) (h : BytesAt w (some ⟨b, 0, none⟩) l) :
    Calls Tryz.prog 46 #[.slice (some ⟨b, 0, none⟩) l.length cap] w fun e w' => e = .returned (.func (.func 63) #[] #[.pointer (some ⟨w.heap.size, 0, none⟩)]) ∧ w' = w.alloc (.cells #[.string ⟨l.toArray⟩] 9) := by
  have hc := conv_bs b cap l w h
  clear h
  go_enter Tryz.func46, Tryz.ntmps46
  go_wp2_with fail
  go_ret
  exact ⟨rfl, rfl⟩

def encR (x : Nat × Nat) : Array Value := #[.int .i64 x.1, .int .i32 x.2]

theorem extract_list (s : ByteArray) (a m : Nat) : (s.extract a m).data.toList = (s.data.toList.drop a).take (m - a) := by
  simp [ByteArray.data_extract, Array.toList_extract, List.extract_eq_take_drop]

/-- Decode of a text's bytes -/
theorem p_decode_s (q : Nat) (cap : Nat) (s : ByteArray) (w : World) (h : BytesAt w (some ⟨q, 0, none⟩) s.data.toList) (hi : 0 < s.size) (hcap : s.size ≤ cap) :
    Calls Tryz.prog 64 #[.slice (some ⟨q, 0, none⟩) s.size cap, .int .i64 0] w fun e w' => (∃ g, e = .returned (decV (decS s.data.toList).1 (decS s.data.toList).2 g)) ∧ w' = w := by
  have e : s.data.toList.length = s.size := by simp
  have := p_decode (some ⟨q, 0, none⟩) cap s.data.toList w h (by omega) (by omega)
  rw [e] at this
  exact this
attribute [local go_sem] conv_sb


set_option maxRecDepth 100000 in
set_option maxHeartbeats 2000000 in
theorem runes_iter (l tb : Nat) (s : ByteArray) (hs : s.size ≤ 1000000000) (K : World → World → Prop) (hKr : ∀ W, K W W) (hKt : ∀ a b c, K a b → K b c → K a c) (hKu : ∀ a b c, K a b → Up b c → K a c) (J Jx : List (Nat × Nat) → World → Prop) (W : World)
    (hJ : AbidesFrom W.heap.size J)
    (hY : ∀ pre x W1, J pre W1 → pre.length < (runesOf s.data.toList).length → YieldAt Fence.wide 0 Tryz.prog l (encR x) W1 fun e W' =>
      (e = .returned (.bool true) ∧ J (pre ++ [x]) W' ∧ K W1 W') ∨ (e = .returned (.bool false) ∧ Jx (pre ++ [x]) W'))
    (hbox : ∀ W', K W W' → W'.cell? ⟨tb, 0, none⟩ = some (.string s) ∧ W.heap.size ≤ W'.heap.size) (h0 : J [] W) :
    CallsIn Fence.wide 1 Tryz.prog 63 #[.func (.yield l) #[] #[], .pointer (some ⟨tb, 0, none⟩)] W fun e W' => (∃ v, e = .returned v) ∧
      ((∃ xs, xs = runesOf s.data.toList ∧ J xs W') ∨ (∃ pre, pre <+: runesOf s.data.toList ∧ Jx pre W')) := by
  refine callsIn_of_wp Tryz.func63 rfl trivial ?_ rfl
  simp only [Tryz.ntmps63, List.size_toArray, List.length_cons, List.length_nil, Nat.reduceAdd, Nat.reduceSub, Array.replicate_succ, Array.replicate_zero, List.push_toArray, List.append_toArray, List.nil_append, List.cons_append]
  gi_wp2
  gi_loopw [3] (fun i wr => ∃ (a : Nat) (pre : List (Nat × Nat)), a ≤ s.size ∧ i = .int .i64 a ∧ pre ++ restS s.data.toList a = runesOf s.data.toList ∧ J pre wr ∧ K W wr)
    (fun i _ => s.size - (intOf i).toNat)
  case atStart => exact ⟨0, [], Nat.zero_le _, rfl, rfl, h0, hKr _⟩
  case round =>
    obtain ⟨a, pre, ha, rfl, hrest, hJs, hnx⟩ := hrel
    obtain ⟨hb0, hsz⟩ := hbox wr hnx
    by_cases hlt : a < s.size
    · obtain ⟨M, hM, hM2⟩ : ∃ M : Nat, (min (s.size : Int) ((a : Int) + 4)).toNat = M ∧ M = min s.size (a + 4) := ⟨_, rfl, by omega⟩
      obtain ⟨s4, hs4⟩ : ∃ s4, s.extract a M = s4 := ⟨_, rfl⟩
      have hl4 : s4.data.toList = (s.data.toList.drop a).take 4 := by
        rw [← hs4, extract_list, hM2]
        have : s.data.toList.length = s.size := by simp
        rw [List.take_eq_take_iff, List.length_drop]
        omega
      have hd : decS s4.data.toList = decS (s.data.toList.drop a) := by rw [hl4, decS_take]
      have hz4 : 0 < s4.size ∧ s4.size ≤ 4 := by
        have h1 : s4.data.toList.length = s4.size := by simp
        have h2 : s.data.toList.length = s.size := by simp
        rw [← h1, hl4, List.length_take, List.length_drop]
        omega
      obtain ⟨hr1, hr2, hr3⟩ := restS_at s.data.toList a (by simpa using hlt)
      rw [← hd] at hr1 hr2 hr3
      obtain ⟨r, n, hrn⟩ : ∃ r n, decS s4.data.toList = (r, n) := ⟨_, _, rfl⟩
      rw [hrn] at hr1 hr2 hr3
      dsimp only at hr1 hr2 hr3
      have hD := fun W1 (h : BytesAt W1 (some ⟨wr.heap.size, 0, none⟩) s4.data.toList) => p_decode_s wr.heap.size (grownCap wr s4.size 0 5) s4 W1 h hz4.1 (grownCap_ge _ _ _ _)
      rw [hrn] at hD
      dsimp only at hD
      have hn3 : a + n ≤ s.size := by simpa using hr3
      rw [hr1] at hrest
      have hlen : pre.length < (runesOf s.data.toList).length := by rw [← hrest]; simp
      obtain ⟨fn, tmps, assign, body, hy, hR⟩ := hY pre (a, r) (bytesLaid wr s4) (hJ _ _ _ none hJs ((bytesLaid_up wr s4).grownBy none) (fun r e => by cases e)) hlen
      simp only [encR] at hy
      clear hr1 hr3 hM2 hl4 hd
      gi_wp2_with (first | (refine ⟨trivial, ?_⟩; gi_at_call 64; refine (callsIn_wide.2 (hD _ (bytesLaid_at wr s4 (by omega)))).mono ?_; rintro e w2 ⟨⟨g, rfl⟩, rfl⟩))
      refine hR.mono ?_
      rintro e W3 (⟨rfl, hJ3, hk3⟩ | ⟨rfl, hJx3⟩)
      · gi_wp2
        go_roundw
        case rel => exact ⟨a + n, pre ++ [(a, r)], hn3, by congr 1, by rw [← hrest]; simp, hJ3, hKt _ _ _ (hKu _ _ _ hnx (bytesLaid_up wr s4)) hk3⟩
        case measure => simp [intOf]; omega
      · gi_wp2
        refine bodyPost_ret (results_none rfl _ _ _) rfl ?_
        exact ⟨⟨_, rfl⟩, .inr ⟨_, by rw [← hrest]; exact ⟨restS s.data.toList (a + n), by simp⟩, hJx3⟩⟩
    · obtain rfl : a = s.size := by omega
      gi_wp2
      go_end0
      exact ⟨⟨_, rfl⟩, .inl ⟨_, rfl, by rw [restS_end _ _ (by simp), List.append_nil] at hrest; exact hrest ▸ hJs⟩⟩

theorem runes_stops (tb : Nat) (s : ByteArray) (hs : s.size ≤ 1000000000) (K : World → World → Prop) (hKr : ∀ W, K W W) (hKt : ∀ a b c, K a b → K b c → K a c) (hKu : ∀ a b c, K a b → Up b c → K a c) (w : World)
    (hbox : ∀ W W', Up w W → K W W' → W'.cell? ⟨tb, 0, none⟩ = some (.string s) ∧ W.heap.size ≤ W'.heap.size) :
    SeqStopsK Fence.wide 1 Tryz.prog 63 #[.pointer (some ⟨tb, 0, none⟩)] encR K (fun xs => xs = runesOf s.data.toList) (fun xs => xs <+: runesOf s.data.toList) (runesOf s.data.toList).length w := by
  intro l J0 Jx0 W hW hJ0 hJx0 hY0 h00
  refine CallsIn.mono (runes_iter l tb s hs K hKr hKt hKu J0 Jx0 W hJ0 hY0 (fun W' hk => hbox W W' hW hk) h00) ?_
  rintro e W' ⟨hv, ⟨xs, rfl, hj⟩ | ⟨pre, hp, hj⟩⟩
  · exact ⟨hv, Or.inl ⟨_, rfl, hj⟩⟩
  · exact ⟨hv, Or.inr ⟨_, hp, hj⟩⟩

/-- what a round that turns one block of its own keeps -/
structure OneKeep (n : Nat) (a b : World) : Prop where
  size : a.heap.size ≤ b.heap.size
  same : ∀ x o, x ≠ n → a.heap[x]? = some o → (o.isCells = true) → b.heap[x]? = some o
theorem OneKeep.refl (n : Nat) (w : World) : OneKeep n w w := ⟨Nat.le_refl _, fun _ _ _ h _ => h⟩
theorem OneKeep.trans {n : Nat} {a b c : World} (h : OneKeep n a b) (k : OneKeep n b c) : OneKeep n a c := ⟨Nat.le_trans h.size k.size, fun x o hx h1 h2 => k.same x o hx (h.same x o hx h1 h2) h2⟩
theorem OneKeep.up {n : Nat} {a b c : World} (h : OneKeep n a b) (k : Up b c) : OneKeep n a c := ⟨Nat.le_trans h.size k.size, fun x o hx h1 h2 => k.get (h.same x o hx h1 h2)⟩
theorem OneKeep.putObj (n : Nat) (W : World) (l : Nat) (o o' : Obj) (h : W.heap[l]? = some o) (hc : o.isCells = false) : OneKeep n W (W.putObj l o') where
  size := by simp
  same := fun x u _ hx hu => by
    rw [World.putObj_heap_other (fun e => by subst e; rw [h] at hx; cases hx; rw [hc] at hu; cases hu)]
    exact hx
theorem OneKeep.setCell (n i : Nat) (W : World) (v : Value) : OneKeep n W (W.setCell ⟨n, i, none⟩ v) := ⟨by rw [setCell_size]; exact Nat.le_refl _, fun x o hx h _ => by rw [setCell_other hx]; exact h⟩

end Go.Proofs.YtmbipadiaggolaaGreatDoor
