import Derived.Test.YtmbipadiaggolaaGreatDoorM02
import Derived.Test.YtmbipadiaggolaaGreatDoorM03
/- YtmbipadiaggolaaGreatDoorM04: lemmas of the proof, in order: HeapW5. -/
/- Walks: takes, Make. -/
namespace Go.Proofs.YtmbipadiaggolaaGreatDoor
open Go.RowKit
attribute [local go_sem] ta_aa ta_ao ta_an ta_oa ta_oo ta_on m_kind_a m_kind_o m_behind_a m_behind_o m_own_a m_own_o

theorem takes_nil (w : World) : Calls Tryz.prog 43 #[.pointer none] w fun e w' => e = .returned (.bool false) ∧ Up w w' := by
  go_enter Tryz.func43, Tryz.ntmps43
  go_wp2
  go_quiet (fail)
  go_wp2
  go_ret
  exact ⟨rfl, uq⟩

theorem takes_full' (hb : Nat) (room used : Int) (w : World) (h0 : w.cell? ⟨hb, 0, none⟩ = some (.int .i64 room)) (h1 : w.cell? ⟨hb, 1, none⟩ = some (.int .i64 used)) (hf : room ≤ used) :
    Calls Tryz.prog 43 #[.pointer (some ⟨hb, 0, none⟩)] w fun e w' => e = .returned (.bool false) ∧ Up w w' := by
  go_enter Tryz.func43, Tryz.ntmps43
  go_wp2
  go_quiet (fail)
  go_wp2
  go_ret
  exact ⟨rfl, uq⟩

theorem takes_ok' (hb : Nat) (room used : Int) (w : World) (h0 : w.cell? ⟨hb, 0, none⟩ = some (.int .i64 room)) (h1 : w.cell? ⟨hb, 1, none⟩ = some (.int .i64 used)) (hz : w.frozen? ⟨hb, 1, none⟩ = false) (hf : used < room) (h2 : 0 ≤ used) (h3 : room ≤ 1048576) :
    Calls Tryz.prog 43 #[.pointer (some ⟨hb, 0, none⟩)] w fun e w' => e = .returned (.bool true) ∧ ∃ n, w' = (w.drewN n).setCell ⟨hb, 1, none⟩ (.int .i64 (used + 1)) := by
  go_enter Tryz.func43, Tryz.ntmps43
  go_wp2
  go_quiet (fail)
  go_wp2
  go_ret
  exact ⟨rfl, _, rfl⟩

theorem takes_full (hv : Value) (H : HM) (tvs : List Value) (own : Own) (w : World) (h : HRep w hv H tvs own) (hf : H.room ≤ H.used) :
    Calls Tryz.prog 43 #[hv] w fun e w' => e = .returned (.bool false) ∧ Up w w' := by
  cases h with
  | nil => exact takes_nil w
  | some hb _ _ _ h =>
    obtain ⟨sv, h1, h2⟩ := h.head
    exact takes_full' hb H.room H.used w (cell_of h1 0) (cell_of h1 1) hf

/-- what a call that writes its heap ends in -/
def Wrote (hb : Nat) (H' : HM) (own : Own) (w : World) (v : Value) (e : Ending) (w' : World) : Prop :=
  e = .returned v ∧ ∃ tvs' own', Rep w' hb H' tvs' own' ∧ Mut own own' w w'

theorem takes_ok (hb : Nat) (H : HM) (tvs : List Value) (own : Own) (w : World) (h : Rep w hb H tvs own) (hf : H.used < H.room) :
    Calls Tryz.prog 43 #[.pointer (some ⟨hb, 0, none⟩)] w fun e w' => e = .returned (.bool true) ∧ Rep w' hb ⟨H.room, H.used + 1, H.things⟩ tvs own ∧ Mut own own w w' := by
  obtain ⟨sv, h1, h2⟩ := h.head
  refine (takes_ok' hb H.room H.used w (cell_of h1 0) (cell_of h1 1) (ice_of h1 1) hf h.room0 h.roomM).mono ?_
  rintro e w' ⟨rfl, n, rfl⟩
  exact ⟨rfl, h.bump hf n⟩

/-- the kind that counts, and what stands behind it -/
def mkKind (k : Int) : Int := if k = 2 then 2 else if k < 1 ∨ 4 < k then 1 else k
def HM.mkProto (H : HM) (k p : Int) : Int := if k = 2 then -1 else if H.there p = true ∧ (H.kindOf p = 1 ∨ H.kindOf p = 4) then p else -1

theorem Make_full (hv : Value) (H : HM) (tvs : List Value) (own : Own) (k p : Int) (w : World) (h : HRep w hv H tvs own) (hf : H.room ≤ H.used) :
    Calls Tryz.prog 19 #[hv, .int .i64 k, .int .i64 p] w fun e w' => e = .returned (.tuple #[.int .i64 (-1), .int .i64 3]) ∧ Up w w' := by
  have hh := Lib.hid h
  clear h
  go_enter Tryz.func19, Tryz.ntmps19
  go_wp2_with (first | (go_at_call 43; refine (takes_full hv H tvs own _ (hh.out.up uq) hf).mono ?_; rintro e w' ⟨rfl, hu⟩))
  go_ret2
  exact ⟨rfl, uq⟩

theorem thing_info : (Tryz.prog.info? 79).map (fun i => (i.zero, i.size, i.bytes)) = some (some .nilIface, 1, 16) := by kernel_rfl

/-- the row of things and its head, where the rest is asked of the heap alone -/
theorem Rep.row {w : World} {hb : Nat} {H : HM} {tvs : List Value} {own : Own} (h : Rep w hb H tvs own) :
    ∃ sa cap, w.heap[hb]? = some (.cells #[.int .i64 H.room, .int .i64 H.used, .slice sa tvs.length cap] 46 (0, 0)) ∧ Row w own (0, 1) 79 1 (.slice sa tvs.length cap) tvs.length tvs := by
  obtain ⟨sv, h1, h2⟩ := h.head
  obtain ⟨sa, cap, rfl⟩ := ownsRow_form h2.1
  exact ⟨sa, cap, h1, h2⟩

set_option maxHeartbeats 800000 in
theorem Make_arr (hb : Nat) (H : HM) (tvs : List Value) (own : Own) (p : Int) (w : World) (h : Rep w hb H tvs own) (hf : H.used < H.room) :
    Calls Tryz.prog 19 #[.pointer (some ⟨hb, 0, none⟩), .int .i64 2, .int .i64 p] w (Wrote hb ⟨H.room, H.used + 1, H.things ++ [⟨2, -1, [], []⟩]⟩ own w (.tuple #[.int .i64 H.things.length, .int .i64 0])) := by
  have hh := Lib.hid h
  have hlen := Lib.hid h.len
  have hfew := Lib.hid h.few
  have hle := len_le h
  clear h
  obtain ⟨i0, hi, hz0, hz1, hz2⟩ := info_parts thing_info
  go_enter Tryz.func19, Tryz.ntmps19
  go_wp2_with fail
  refine (takes_ok hb H tvs own _ hh.out hf).mono ?_
  rintro e w1 ⟨rfl, hR, hM⟩
  obtain ⟨sa, cap, hhd, hrow⟩ := hR.row
  have hc0 := cell_of hhd 0
  have hc1 := cell_of hhd 1
  have hc2 := cell_of hhd 2
  have hic := ice_of hhd 2
  have hblt := lt_of_heap hhd
  simp only [List.getElem?_toArray, List.getElem?_cons_zero, List.getElem?_cons_succ] at hc0 hc1 hc2
  have HX := Lib.hid (And.intro hR (And.intro hM (And.intro hhd hrow)))
  clear hR hM hhd hrow
  go_wp2_with (first | (at_builtin; refine wpList_append_row rfl _ _ 44 rfl 79 i0 .nilIface 1 16 Tryz.underlying44 hi hz0 hz1 hz2 rfl (by decide) _ _ _ rfl (HX.out.2.2.2.up uq).1 ⟨w1.heap.size + 1, 0, none⟩ 1 1 [.iface 86 (.pointer (some ⟨w1.heap.size, 0, none⟩))] rfl rfl ?c1 ?c2 ?c3 ?c4 ?_))
  case c1 => exact cell_one_at _ _ _ _ (by simp)
  case c2 => simp [Value.oneCell']
  case c3 => unfold maxLen; omega
  case c4 => omega
  intro sa' cap' w2 hown' hgrow hblk
  have hhd2 : w2.heap[hb]? = some (.cells #[.int .i64 H.room, .int .i64 (H.used + 1), .slice sa tvs.length cap] 46 (0, 0)) := by
    rw [hgrow.block hb (by simp only [World.size_alloc]; omega) (fun e => by
      have h1 := HX.out.2.2.2.2 hb e.symm
      rw [HX.out.1.mine] at h1
      simp at h1)]
    exact Up.get uq HX.out.2.2.1
  have hd0 := cell_of hhd2 0
  have hd1 := cell_of hhd2 1
  have hd2 := cell_of hhd2 2
  have hic2 := ice_of hhd2 2
  have hb2 := lt_of_heap hhd2
  simp only [List.getElem?_toArray, List.getElem?_cons_zero, List.getElem?_cons_succ] at hd0 hd1 hd2
  have HY := Lib.hid (And.intro hown' (And.intro hgrow hblk))
  clear hown' hgrow hblk hhd2 hc0 hc1 hc2 hic
  go_wp2
  go_ret2
  obtain ⟨hown', hgrow, hblk⟩ := HY.out
  obtain ⟨hR, hM, hhd, hrow⟩ := HX.out
  have hnl := hlen.out
  refine ⟨ret_v (by simp; omega), ?_⟩
  obtain ⟨own', h1, h2⟩ := Rep.pushed (w0 := w1) (own1 := fun b => if b = w1.heap.size then some (tvs.length + 1, 0) else own b) (t := ⟨2, -1, [], []⟩) (hR.up uq) uq (Up.get uq hhd) (hrow.up uq)
    (fun b m hm => by
      have := hR.lt b m hm
      show (if _ then _ else _) = _
      rw [if_neg (by omega)]; exact hm)
    (fun b m hm => by
      have hm : (if b = w1.heap.size then some (tvs.length + 1, 0) else own b) = some m := hm
      split at hm
      · rename_i he; cases hm; subst he; exact .inr ⟨Nat.le_refl _, by simp only [World.size_alloc]; omega, rfl⟩
      · exact .inl hm)
    (.arr [] w1.heap.size (.slice none 0 0) (by simp) (by rw [alloc_old _ _ _ (by simp)]; exact alloc_get _ _) ⟨⟨rfl, .inl ⟨rfl, rfl⟩⟩, fun g hg => by simp [Value.ownBlock] at hg⟩)
    (by have := hfew.out; show (sizes H.things : Int) + 1 ≤ H.used + 1; omega) hown' hgrow (by simpa only [World.size_alloc] using hblk)
  exact ⟨_, own', h1, hM.trans h2⟩

theorem make_obj_close {w w1 wX w2 : World} {hb : Nat} {H : HM} {tvs : List Value} {own : Own} {k p : Int} {pv : Value} {o : Obj} {sa sa' : Option Addr} {cap cap' : Nat}
    (hR : Rep w1 hb ⟨H.room, H.used + 1, H.things⟩ tvs own) (hM : Mut own own w w1) (hu : Up w1 wX) (hfew : (sizes H.things : Int) ≤ H.used)
    (hhd : w1.heap[hb]? = some (.cells #[.int .i64 H.room, .int .i64 (H.used + 1), .slice sa tvs.length cap] 46 (0, 0))) (hrow : Row w1 own (0, 1) 79 1 (.slice sa tvs.length cap) tvs.length tvs)
    (hk : k = 1 ∨ k = 3 ∨ k = 4) (hp : -1 ≤ p) (hp2 : p < tvs.length) (hpv : pv = protoV tvs p)
    (hown' : w2.ownsRow 0 79 1 (.slice sa' (tvs.length + 1) cap') (tvs.length + 1) (tvs ++ [.iface 96 (.agg #[.pointer (some ⟨wX.heap.size, 0, none⟩), .int .i64 k, pv])]))
    (hgrow : ((wX.alloc (.cells #[.map none, .slice none 0 0] 94)).alloc o).grownBy w2 (Value.slice sa tvs.length cap).ownBlock)
    (hblk : (Value.slice sa' (tvs.length + 1) cap').ownBlock = (Value.slice sa tvs.length cap).ownBlock ∨ ∃ g, (Value.slice sa' (tvs.length + 1) cap').ownBlock = some g ∧ wX.heap.size + 1 + 1 ≤ g) :
    ∃ tvs' own', Rep (w2.setCell ⟨hb, 2, none⟩ (.slice sa' (tvs.length + 1) cap')) hb ⟨H.room, H.used + 1, H.things ++ [⟨k, p, [], []⟩]⟩ tvs' own' ∧ Mut own own' w (w2.setCell ⟨hb, 2, none⟩ (.slice sa' (tvs.length + 1) cap')) := by
  have hsz := hu.size
  have hprot : protoV (tvs ++ [.iface 96 (.agg #[.pointer (some ⟨wX.heap.size, 0, none⟩), .int .i64 k, pv])]) p = pv := by
    exact (protoV_more hp2 (Nat.le_refl _) (fun j hj => List.getElem?_append_left hj)).trans hpv.symm
  obtain ⟨own', h1, h2⟩ := Rep.pushed (w0 := wX) (W := (wX.alloc (.cells #[.map none, .slice none 0 0] 94)).alloc o) (own1 := fun b => if b = wX.heap.size then some (tvs.length + 1, 0) else own b) (t := ⟨k, p, [], []⟩) (hR.up uq) uq (Up.get uq hhd) (hrow.up uq)
    (fun b m hm => by
      have := hR.lt b m hm
      show (if _ then _ else _) = _
      rw [if_neg (by omega)]; exact hm)
    (fun b m hm => by
      have hm : (if b = wX.heap.size then some (tvs.length + 1, 0) else own b) = some m := hm
      split at hm
      · rename_i he; cases hm; subst he; exact .inr ⟨Nat.le_refl _, by simp only [World.size_alloc]; omega, rfl⟩
      · exact .inl hm)
    (by
      have := ThingIs.obj (w := (wX.alloc (.cells #[.map none, .slice none 0 0] 94)).alloc o) (own := fun b => if b = wX.heap.size then some (tvs.length + 1, 0) else own b)
        (tvs := tvs ++ [.iface 96 (.agg #[.pointer (some ⟨wX.heap.size, 0, none⟩), .int .i64 k, pv])]) (i := tvs.length) k p [] wX.heap.size (.map none) (.slice none 0 0) hk hp hp2 (by simp)
        (by rw [alloc_old _ _ _ (by simp)]; exact alloc_get _ _) (.inl ⟨rfl, rfl⟩) ⟨⟨rfl, .inl ⟨rfl, rfl⟩⟩, fun g hg => by simp [Value.ownBlock] at hg⟩ (by simp)
      rw [hprot] at this
      exact this)
    (by show (sizes H.things : Int) + 1 ≤ H.used + 1; omega) hown' hgrow (by simpa only [World.size_alloc] using hblk)
  exact ⟨_, own', h1, (hM.up hu).trans h2⟩

theorem Rep.headAfter {W w2 : World} {hb : Nat} {H : HM} {tvs : List Value} {own : Own} {o : Obj} {v : Value} {n : Nat} (hR : Rep W hb H tvs own) (hhd : W.heap[hb]? = some o) (hrow : Row W own (0, 1) 79 1 v n tvs)
    (hgrow : W.grownBy w2 v.ownBlock) : w2.heap[hb]? = some o := by
  rw [hgrow.block hb (lt_of_heap hhd) (fun e => by
    have h1 := hrow.2 hb e.symm
    rw [hR.mine] at h1
    simp at h1)]
  exact hhd

theorem mkKind_ok {k : Int} (hk : (k != 2) = true) : mkKind k = 1 ∨ mkKind k = 3 ∨ mkKind k = 4 := by
  have : k ≠ 2 := by simpa using hk
  unfold mkKind
  rw [if_neg this]
  split <;> omega

set_option maxRecDepth 100000 in
set_option maxHeartbeats 1600000 in
theorem Make_obj_none (hb : Nat) (H : HM) (tvs : List Value) (own : Own) (k p : Int) (w : World) (h : Rep w hb H tvs own) (hf : H.used < H.room) (hk2 : (k != 2) = true) (hp : ¬ H.there p = true) :
    Calls Tryz.prog 19 #[.pointer (some ⟨hb, 0, none⟩), .int .i64 k, .int .i64 p] w (Wrote hb ⟨H.room, H.used + 1, H.things ++ [⟨mkKind k, H.mkProto k p, [], []⟩]⟩ own w (.tuple #[.int .i64 H.things.length, .int .i64 0])) := by
  have hh := Lib.hid h
  have hlen := Lib.hid h.len
  have hfew := Lib.hid h.few
  have hle := len_le h
  clear h
  obtain ⟨i0, hi, hz0, hz1, hz2⟩ := info_parts thing_info
  have HP := Lib.hid (show H.there p = false by simpa using hp)
  clear hp
  go_enter Tryz.func19, Tryz.ntmps19
  go_wp2_with fail
  refine (takes_ok hb H tvs own _ hh.out hf).mono ?_
  rintro e w1 ⟨rfl, hR, hM⟩
  obtain ⟨sa, cap, hhd, hrow⟩ := hR.row
  have HX := Lib.hid (And.intro hR (And.intro hM (And.intro hhd hrow)))
  clear hR hM hrow
  have a0 := cell_of hhd 0; have a1 := cell_of hhd 1; have a2 := cell_of hhd 2; have a3 := ice_of hhd 2; have a4 := lt_of_heap hhd; simp only [List.getElem?_toArray, List.getElem?_cons_zero, List.getElem?_cons_succ] at a0 a1 a2; clear hhd
  go_wp2_with (first | (go_at_call 40; refine (thing_none _ ⟨H.room, H.used + 1, H.things⟩ tvs own _ _ _ _ ((HRep.some hb _ _ _ HX.out.1).up uq) (fun _ => HP.out)).mono ?_; rintro e w' ⟨rfl, hu⟩; have hd := hu.get (Up.get uq HX.out.2.2.1); have a0 := cell_of hd 0; have a1 := cell_of hd 1; have a2 := cell_of hd 2; have a3 := ice_of hd 2; have a4 := lt_of_heap hd; simp only [List.getElem?_toArray, List.getElem?_cons_zero, List.getElem?_cons_succ] at a0 a1 a2; clear hd) | (at_builtin; go_must (refine wpList_append_new rfl _ _ 44 rfl 79 i0 .nilIface 1 16 Tryz.underlying44 hi hz0 hz1 hz2 rfl (by decide) (.slice sa tvs.length cap) tvs.length tvs rfl (HX.out.2.2.2.up uq).1 _ 1 1 rfl ?_ rfl ?_ ?_ ?_ ?_; (simp only [World.size_alloc]); simp [Value.oneCell']; (unfold maxLen; omega); omega; intro sa' cap' w2 hown' hgrow hblk; (simp only [World.size_alloc] at hblk); have hd := Rep.headAfter (HX.out.1.up uq) (Up.get uq HX.out.2.2.1) (HX.out.2.2.2.up uq) hgrow; have HY := Lib.hid (And.intro hown' (And.intro hgrow hblk)); clear hown' hgrow hblk; have a0 := cell_of hd 0; have a1 := cell_of hd 1; have a2 := cell_of hd 2; have a3 := ice_of hd 2; have a4 := lt_of_heap hd; simp only [List.getElem?_toArray, List.getElem?_cons_zero, List.getElem?_cons_succ] at a0 a1 a2; clear hd)))
  all_goals go_ret2
  all_goals (obtain ⟨hown', hgrow, hblk⟩ := HY.out; obtain ⟨hR, hM, hhd, hrow⟩ := HX.out; have hnl := hlen.out; have hpr : H.mkProto k p = -1 := (by simp [HM.mkProto, HP.out]); refine ⟨ret_v (by simp; omega), ?_⟩)
  all_goals (first
    | (have hk1 : mkKind k = 1 := (by unfold mkKind; rw [if_neg (by simpa using hk2), if_pos (by omega)]); rw [hk1, hpr]; exact make_obj_close hR hM uq hfew.out hhd hrow (.inl rfl) (Int.le_refl (-1)) (by omega) rfl hown' hgrow hblk)
    | (have hk1 : mkKind k = k := (by unfold mkKind; rw [if_neg (by simpa using hk2), if_neg (by omega)]); have hk3 := mkKind_ok hk2; rw [hk1] at hk3; rw [hk1, hpr]; exact make_obj_close hR hM uq hfew.out hhd hrow hk3 (Int.le_refl (-1)) (by omega) rfl hown' hgrow hblk))


set_option maxRecDepth 100000 in
set_option maxHeartbeats 1600000 in
theorem Make_obj_arr (hb : Nat) (H : HM) (tvs : List Value) (own : Own) (k p : Int) (w : World) (h : Rep w hb H tvs own) (hf : H.used < H.room) (hk2 : (k != 2) = true) (hp : H.there p = true) (h0 : 0 ≤ p) (pb : Nat) (htv : tvs[p.toNat]? = some (.iface 86 (.pointer (some ⟨pb, 0, none⟩)))) (hkp0 : H.kindOf p = 2) :
    Calls Tryz.prog 19 #[.pointer (some ⟨hb, 0, none⟩), .int .i64 k, .int .i64 p] w (Wrote hb ⟨H.room, H.used + 1, H.things ++ [⟨mkKind k, H.mkProto k p, [], []⟩]⟩ own w (.tuple #[.int .i64 H.things.length, .int .i64 0])) := by
  have hh := Lib.hid h
  have hlen := Lib.hid h.len
  have hfew := Lib.hid h.few
  have hle := len_le h
  clear h
  obtain ⟨i0, hi, hz0, hz1, hz2⟩ := info_parts thing_info
  have HP := Lib.hid hp
  have HT := Lib.hid htv
  have hkp := Lib.hid hkp0
  clear hp htv hkp0
  go_enter Tryz.func19, Tryz.ntmps19
  go_wp2_with fail
  refine (takes_ok hb H tvs own _ hh.out hf).mono ?_
  rintro e w1 ⟨rfl, hR, hM⟩
  obtain ⟨sa, cap, hhd, hrow⟩ := hR.row
  have HX := Lib.hid (And.intro hR (And.intro hM (And.intro hhd hrow)))
  clear hR hM hrow
  have a0 := cell_of hhd 0; have a1 := cell_of hhd 1; have a2 := cell_of hhd 2; have a3 := ice_of hhd 2; have a4 := lt_of_heap hhd; simp only [List.getElem?_toArray, List.getElem?_cons_zero, List.getElem?_cons_succ] at a0 a1 a2; clear hhd
  go_wp2_with (first | (go_at_call 40; refine (thing_some _ ⟨H.room, H.used + 1, H.things⟩ tvs own _ _ _ _ _ ((HRep.some hb _ _ _ HX.out.1).up uq) rfl h0 HT.out).mono ?_; rintro e w' ⟨rfl, hu⟩; have hd := hu.get (Up.get uq HX.out.2.2.1); have a0 := cell_of hd 0; have a1 := cell_of hd 1; have a2 := cell_of hd 2; have a3 := ice_of hd 2; have a4 := lt_of_heap hd; simp only [List.getElem?_toArray, List.getElem?_cons_zero, List.getElem?_cons_succ] at a0 a1 a2; clear hd) | (go_at_call 120; refine (kind_a _ _).mono ?_; rintro e w'' ⟨rfl, rfl⟩) | (at_builtin; go_must (refine wpList_append_new rfl _ _ 44 rfl 79 i0 .nilIface 1 16 Tryz.underlying44 hi hz0 hz1 hz2 rfl (by decide) (.slice sa tvs.length cap) tvs.length tvs rfl (HX.out.2.2.2.up uq).1 _ 1 1 rfl ?_ rfl ?_ ?_ ?_ ?_; (simp only [World.size_alloc]); simp [Value.oneCell']; (unfold maxLen; omega); omega; intro sa' cap' w2 hown' hgrow hblk; (simp only [World.size_alloc] at hblk); have hd := Rep.headAfter (HX.out.1.up uq) (Up.get uq HX.out.2.2.1) (HX.out.2.2.2.up uq) hgrow; have HY := Lib.hid (And.intro hown' (And.intro hgrow hblk)); clear hown' hgrow hblk; have a0 := cell_of hd 0; have a1 := cell_of hd 1; have a2 := cell_of hd 2; have a3 := ice_of hd 2; have a4 := lt_of_heap hd; simp only [List.getElem?_toArray, List.getElem?_cons_zero, List.getElem?_cons_succ] at a0 a1 a2; clear hd)))
  all_goals go_ret2
  all_goals (obtain ⟨hown', hgrow, hblk⟩ := HY.out; obtain ⟨hR, hM, hhd, hrow⟩ := HX.out; have hnl := hlen.out; have hpr : H.mkProto k p = -1 := (by have := hkp.out; have hk5 : k ≠ 2 := (by simpa using hk2); simp [HM.mkProto, HP.out, this, hk5]); refine ⟨ret_v (by simp; omega), ?_⟩)
  all_goals (first
    | (have hk1 : mkKind k = 1 := (by unfold mkKind; rw [if_neg (by simpa using hk2), if_pos (by omega)]); rw [hk1, hpr]; exact make_obj_close hR hM uq hfew.out hhd hrow (.inl rfl) (Int.le_refl (-1)) (by omega) rfl hown' hgrow hblk)
    | (have hk1 : mkKind k = k := (by unfold mkKind; rw [if_neg (by simpa using hk2), if_neg (by omega)]); have hk3 := mkKind_ok hk2; rw [hk1] at hk3; rw [hk1, hpr]; exact make_obj_close hR hM uq hfew.out hhd hrow hk3 (Int.le_refl (-1)) (by omega) rfl hown' hgrow hblk))


set_option maxRecDepth 100000 in
set_option maxHeartbeats 1600000 in
theorem Make_obj_o1 (hb : Nat) (H : HM) (tvs : List Value) (own : Own) (k p : Int) (w : World) (h : Rep w hb H tvs own) (hf : H.used < H.room) (hk2 : (k != 2) = true) (hp : H.there p = true) (h0 : 0 ≤ p) (pb : Nat) (pp : Value) (htv : tvs[p.toNat]? = some (.iface 96 (.agg #[.pointer (some ⟨pb, 0, none⟩), .int .i64 1, pp]))) (hkp0 : H.kindOf p = 1) :
    Calls Tryz.prog 19 #[.pointer (some ⟨hb, 0, none⟩), .int .i64 k, .int .i64 p] w (Wrote hb ⟨H.room, H.used + 1, H.things ++ [⟨mkKind k, H.mkProto k p, [], []⟩]⟩ own w (.tuple #[.int .i64 H.things.length, .int .i64 0])) := by
  have hh := Lib.hid h
  have hlen := Lib.hid h.len
  have hfew := Lib.hid h.few
  have hle := len_le h
  clear h
  obtain ⟨i0, hi, hz0, hz1, hz2⟩ := info_parts thing_info
  have HP := Lib.hid hp
  have HT := Lib.hid htv
  have hkp := Lib.hid hkp0
  clear hp htv hkp0
  go_enter Tryz.func19, Tryz.ntmps19
  go_wp2_with fail
  refine (takes_ok hb H tvs own _ hh.out hf).mono ?_
  rintro e w1 ⟨rfl, hR, hM⟩
  obtain ⟨sa, cap, hhd, hrow⟩ := hR.row
  have HX := Lib.hid (And.intro hR (And.intro hM (And.intro hhd hrow)))
  clear hR hM hrow
  have a0 := cell_of hhd 0; have a1 := cell_of hhd 1; have a2 := cell_of hhd 2; have a3 := ice_of hhd 2; have a4 := lt_of_heap hhd; simp only [List.getElem?_toArray, List.getElem?_cons_zero, List.getElem?_cons_succ] at a0 a1 a2; clear hhd
  go_wp2_with (first | (go_at_call 40; refine (thing_some _ ⟨H.room, H.used + 1, H.things⟩ tvs own _ _ _ _ _ ((HRep.some hb _ _ _ HX.out.1).up uq) rfl h0 HT.out).mono ?_; rintro e w' ⟨rfl, hu⟩; have hd := hu.get (Up.get uq HX.out.2.2.1); have a0 := cell_of hd 0; have a1 := cell_of hd 1; have a2 := cell_of hd 2; have a3 := ice_of hd 2; have a4 := lt_of_heap hd; simp only [List.getElem?_toArray, List.getElem?_cons_zero, List.getElem?_cons_succ] at a0 a1 a2; clear hd) | (go_at_call 123; refine (kind_o _ _ _ _).mono ?_; rintro e w'' ⟨rfl, hu2⟩; have hd := Up.get (show Up w1 w'' from uq) HX.out.2.2.1; have a0 := cell_of hd 0; have a1 := cell_of hd 1; have a2 := cell_of hd 2; have a3 := ice_of hd 2; have a4 := lt_of_heap hd; simp only [List.getElem?_toArray, List.getElem?_cons_zero, List.getElem?_cons_succ] at a0 a1 a2; clear hd) | (at_builtin; go_must (refine wpList_append_new rfl _ _ 44 rfl 79 i0 .nilIface 1 16 Tryz.underlying44 hi hz0 hz1 hz2 rfl (by decide) (.slice sa tvs.length cap) tvs.length tvs rfl (HX.out.2.2.2.up uq).1 _ 1 1 rfl ?_ rfl ?_ ?_ ?_ ?_; (simp only [World.size_alloc]); simp [Value.oneCell']; (unfold maxLen; omega); omega; intro sa' cap' w2 hown' hgrow hblk; (simp only [World.size_alloc] at hblk); have hd := Rep.headAfter (HX.out.1.up uq) (Up.get uq HX.out.2.2.1) (HX.out.2.2.2.up uq) hgrow; have HY := Lib.hid (And.intro hown' (And.intro hgrow hblk)); clear hown' hgrow hblk; have a0 := cell_of hd 0; have a1 := cell_of hd 1; have a2 := cell_of hd 2; have a3 := ice_of hd 2; have a4 := lt_of_heap hd; simp only [List.getElem?_toArray, List.getElem?_cons_zero, List.getElem?_cons_succ] at a0 a1 a2; clear hd)))
  all_goals go_ret2
  all_goals (obtain ⟨hown', hgrow, hblk⟩ := HY.out; obtain ⟨hR, hM, hhd, hrow⟩ := HX.out; have hnl := hlen.out; have hpr : H.mkProto k p = p := (by have := hkp.out; have hk5 : k ≠ 2 := (by simpa using hk2); simp [HM.mkProto, HP.out, this, hk5]); refine ⟨ret_v (by simp; omega), ?_⟩)
  all_goals (first
    | (have hk1 : mkKind k = 1 := (by unfold mkKind; rw [if_neg (by simpa using hk2), if_pos (by omega)]); rw [hk1, hpr]; exact make_obj_close hR hM uq hfew.out hhd hrow (.inl rfl) (by omega) (by have := HP.out; simp only [HM.there, Bool.and_eq_true, decide_eq_true_eq] at this; omega) (by unfold protoV; rw [if_neg (by omega), List.getD, HT.out]; rfl) hown' hgrow hblk)
    | (have hk1 : mkKind k = k := (by unfold mkKind; rw [if_neg (by simpa using hk2), if_neg (by omega)]); have hk3 := mkKind_ok hk2; rw [hk1] at hk3; rw [hk1, hpr]; exact make_obj_close hR hM uq hfew.out hhd hrow hk3 (by omega) (by have := HP.out; simp only [HM.there, Bool.and_eq_true, decide_eq_true_eq] at this; omega) (by unfold protoV; rw [if_neg (by omega), List.getD, HT.out]; rfl) hown' hgrow hblk))


set_option maxRecDepth 100000 in
set_option maxHeartbeats 1600000 in
theorem Make_obj_o3 (hb : Nat) (H : HM) (tvs : List Value) (own : Own) (k p : Int) (w : World) (h : Rep w hb H tvs own) (hf : H.used < H.room) (hk2 : (k != 2) = true) (hp : H.there p = true) (h0 : 0 ≤ p) (pb : Nat) (pp : Value) (htv : tvs[p.toNat]? = some (.iface 96 (.agg #[.pointer (some ⟨pb, 0, none⟩), .int .i64 3, pp]))) (hkp0 : H.kindOf p = 3) :
    Calls Tryz.prog 19 #[.pointer (some ⟨hb, 0, none⟩), .int .i64 k, .int .i64 p] w (Wrote hb ⟨H.room, H.used + 1, H.things ++ [⟨mkKind k, H.mkProto k p, [], []⟩]⟩ own w (.tuple #[.int .i64 H.things.length, .int .i64 0])) := by
  have hh := Lib.hid h
  have hlen := Lib.hid h.len
  have hfew := Lib.hid h.few
  have hle := len_le h
  clear h
  obtain ⟨i0, hi, hz0, hz1, hz2⟩ := info_parts thing_info
  have HP := Lib.hid hp
  have HT := Lib.hid htv
  have hkp := Lib.hid hkp0
  clear hp htv hkp0
  go_enter Tryz.func19, Tryz.ntmps19
  go_wp2_with fail
  refine (takes_ok hb H tvs own _ hh.out hf).mono ?_
  rintro e w1 ⟨rfl, hR, hM⟩
  obtain ⟨sa, cap, hhd, hrow⟩ := hR.row
  have HX := Lib.hid (And.intro hR (And.intro hM (And.intro hhd hrow)))
  clear hR hM hrow
  have a0 := cell_of hhd 0; have a1 := cell_of hhd 1; have a2 := cell_of hhd 2; have a3 := ice_of hhd 2; have a4 := lt_of_heap hhd; simp only [List.getElem?_toArray, List.getElem?_cons_zero, List.getElem?_cons_succ] at a0 a1 a2; clear hhd
  go_wp2_with (first | (go_at_call 40; refine (thing_some _ ⟨H.room, H.used + 1, H.things⟩ tvs own _ _ _ _ _ ((HRep.some hb _ _ _ HX.out.1).up uq) rfl h0 HT.out).mono ?_; rintro e w' ⟨rfl, hu⟩; have hd := hu.get (Up.get uq HX.out.2.2.1); have a0 := cell_of hd 0; have a1 := cell_of hd 1; have a2 := cell_of hd 2; have a3 := ice_of hd 2; have a4 := lt_of_heap hd; simp only [List.getElem?_toArray, List.getElem?_cons_zero, List.getElem?_cons_succ] at a0 a1 a2; clear hd) | (go_at_call 123; refine (kind_o _ _ _ _).mono ?_; rintro e w'' ⟨rfl, hu2⟩; have hd := Up.get (show Up w1 w'' from uq) HX.out.2.2.1; have a0 := cell_of hd 0; have a1 := cell_of hd 1; have a2 := cell_of hd 2; have a3 := ice_of hd 2; have a4 := lt_of_heap hd; simp only [List.getElem?_toArray, List.getElem?_cons_zero, List.getElem?_cons_succ] at a0 a1 a2; clear hd) | (at_builtin; go_must (refine wpList_append_new rfl _ _ 44 rfl 79 i0 .nilIface 1 16 Tryz.underlying44 hi hz0 hz1 hz2 rfl (by decide) (.slice sa tvs.length cap) tvs.length tvs rfl (HX.out.2.2.2.up uq).1 _ 1 1 rfl ?_ rfl ?_ ?_ ?_ ?_; (simp only [World.size_alloc]); simp [Value.oneCell']; (unfold maxLen; omega); omega; intro sa' cap' w2 hown' hgrow hblk; (simp only [World.size_alloc] at hblk); have hd := Rep.headAfter (HX.out.1.up uq) (Up.get uq HX.out.2.2.1) (HX.out.2.2.2.up uq) hgrow; have HY := Lib.hid (And.intro hown' (And.intro hgrow hblk)); clear hown' hgrow hblk; have a0 := cell_of hd 0; have a1 := cell_of hd 1; have a2 := cell_of hd 2; have a3 := ice_of hd 2; have a4 := lt_of_heap hd; simp only [List.getElem?_toArray, List.getElem?_cons_zero, List.getElem?_cons_succ] at a0 a1 a2; clear hd)))
  all_goals go_ret2
  all_goals (obtain ⟨hown', hgrow, hblk⟩ := HY.out; obtain ⟨hR, hM, hhd, hrow⟩ := HX.out; have hnl := hlen.out; have hpr : H.mkProto k p = -1 := (by have := hkp.out; have hk5 : k ≠ 2 := (by simpa using hk2); simp [HM.mkProto, HP.out, this, hk5]); refine ⟨ret_v (by simp; omega), ?_⟩)
  all_goals (first
    | (have hk1 : mkKind k = 1 := (by unfold mkKind; rw [if_neg (by simpa using hk2), if_pos (by omega)]); rw [hk1, hpr]; exact make_obj_close hR hM uq hfew.out hhd hrow (.inl rfl) (Int.le_refl (-1)) (by omega) rfl hown' hgrow hblk)
    | (have hk1 : mkKind k = k := (by unfold mkKind; rw [if_neg (by simpa using hk2), if_neg (by omega)]); have hk3 := mkKind_ok hk2; rw [hk1] at hk3; rw [hk1, hpr]; exact make_obj_close hR hM uq hfew.out hhd hrow hk3 (Int.le_refl (-1)) (by omega) rfl hown' hgrow hblk))


set_option maxRecDepth 100000 in
set_option maxHeartbeats 1600000 in
theorem Make_obj_o4 (hb : Nat) (H : HM) (tvs : List Value) (own : Own) (k p : Int) (w : World) (h : Rep w hb H tvs own) (hf : H.used < H.room) (hk2 : (k != 2) = true) (hp : H.there p = true) (h0 : 0 ≤ p) (pb : Nat) (pp : Value) (htv : tvs[p.toNat]? = some (.iface 96 (.agg #[.pointer (some ⟨pb, 0, none⟩), .int .i64 4, pp]))) (hkp0 : H.kindOf p = 4) :
    Calls Tryz.prog 19 #[.pointer (some ⟨hb, 0, none⟩), .int .i64 k, .int .i64 p] w (Wrote hb ⟨H.room, H.used + 1, H.things ++ [⟨mkKind k, H.mkProto k p, [], []⟩]⟩ own w (.tuple #[.int .i64 H.things.length, .int .i64 0])) := by
  have hh := Lib.hid h
  have hlen := Lib.hid h.len
  have hfew := Lib.hid h.few
  have hle := len_le h
  clear h
  obtain ⟨i0, hi, hz0, hz1, hz2⟩ := info_parts thing_info
  have HP := Lib.hid hp
  have HT := Lib.hid htv
  have hkp := Lib.hid hkp0
  clear hp htv hkp0
  go_enter Tryz.func19, Tryz.ntmps19
  go_wp2_with fail
  refine (takes_ok hb H tvs own _ hh.out hf).mono ?_
  rintro e w1 ⟨rfl, hR, hM⟩
  obtain ⟨sa, cap, hhd, hrow⟩ := hR.row
  have HX := Lib.hid (And.intro hR (And.intro hM (And.intro hhd hrow)))
  clear hR hM hrow
  have a0 := cell_of hhd 0; have a1 := cell_of hhd 1; have a2 := cell_of hhd 2; have a3 := ice_of hhd 2; have a4 := lt_of_heap hhd; simp only [List.getElem?_toArray, List.getElem?_cons_zero, List.getElem?_cons_succ] at a0 a1 a2; clear hhd
  go_wp2_with (first | (go_at_call 40; refine (thing_some _ ⟨H.room, H.used + 1, H.things⟩ tvs own _ _ _ _ _ ((HRep.some hb _ _ _ HX.out.1).up uq) rfl h0 HT.out).mono ?_; rintro e w' ⟨rfl, hu⟩; have hd := hu.get (Up.get uq HX.out.2.2.1); have a0 := cell_of hd 0; have a1 := cell_of hd 1; have a2 := cell_of hd 2; have a3 := ice_of hd 2; have a4 := lt_of_heap hd; simp only [List.getElem?_toArray, List.getElem?_cons_zero, List.getElem?_cons_succ] at a0 a1 a2; clear hd) | (go_at_call 123; refine (kind_o _ _ _ _).mono ?_; rintro e w'' ⟨rfl, hu2⟩; have hd := Up.get (show Up w1 w'' from uq) HX.out.2.2.1; have a0 := cell_of hd 0; have a1 := cell_of hd 1; have a2 := cell_of hd 2; have a3 := ice_of hd 2; have a4 := lt_of_heap hd; simp only [List.getElem?_toArray, List.getElem?_cons_zero, List.getElem?_cons_succ] at a0 a1 a2; clear hd) | (at_builtin; go_must (refine wpList_append_new rfl _ _ 44 rfl 79 i0 .nilIface 1 16 Tryz.underlying44 hi hz0 hz1 hz2 rfl (by decide) (.slice sa tvs.length cap) tvs.length tvs rfl (HX.out.2.2.2.up uq).1 _ 1 1 rfl ?_ rfl ?_ ?_ ?_ ?_; (simp only [World.size_alloc]); simp [Value.oneCell']; (unfold maxLen; omega); omega; intro sa' cap' w2 hown' hgrow hblk; (simp only [World.size_alloc] at hblk); have hd := Rep.headAfter (HX.out.1.up uq) (Up.get uq HX.out.2.2.1) (HX.out.2.2.2.up uq) hgrow; have HY := Lib.hid (And.intro hown' (And.intro hgrow hblk)); clear hown' hgrow hblk; have a0 := cell_of hd 0; have a1 := cell_of hd 1; have a2 := cell_of hd 2; have a3 := ice_of hd 2; have a4 := lt_of_heap hd; simp only [List.getElem?_toArray, List.getElem?_cons_zero, List.getElem?_cons_succ] at a0 a1 a2; clear hd)))
  all_goals go_ret2
  all_goals (obtain ⟨hown', hgrow, hblk⟩ := HY.out; obtain ⟨hR, hM, hhd, hrow⟩ := HX.out; have hnl := hlen.out; have hpr : H.mkProto k p = p := (by have := hkp.out; have hk5 : k ≠ 2 := (by simpa using hk2); simp [HM.mkProto, HP.out, this, hk5]); refine ⟨ret_v (by simp; omega), ?_⟩)
  all_goals (first
    | (have hk1 : mkKind k = 1 := (by unfold mkKind; rw [if_neg (by simpa using hk2), if_pos (by omega)]); rw [hk1, hpr]; exact make_obj_close hR hM uq hfew.out hhd hrow (.inl rfl) (by omega) (by have := HP.out; simp only [HM.there, Bool.and_eq_true, decide_eq_true_eq] at this; omega) (by unfold protoV; rw [if_neg (by omega), List.getD, HT.out]; rfl) hown' hgrow hblk)
    | (have hk1 : mkKind k = k := (by unfold mkKind; rw [if_neg (by simpa using hk2), if_neg (by omega)]); have hk3 := mkKind_ok hk2; rw [hk1] at hk3; rw [hk1, hpr]; exact make_obj_close hR hM uq hfew.out hhd hrow hk3 (by omega) (by have := HP.out; simp only [HM.there, Bool.and_eq_true, decide_eq_true_eq] at this; omega) (by unfold protoV; rw [if_neg (by omega), List.getD, HT.out]; rfl) hown' hgrow hblk))


theorem Make_obj (hb : Nat) (H : HM) (tvs : List Value) (own : Own) (k p : Int) (w : World) (h : Rep w hb H tvs own) (hf : H.used < H.room) (hk2 : (k != 2) = true) :
    Calls Tryz.prog 19 #[.pointer (some ⟨hb, 0, none⟩), .int .i64 k, .int .i64 p] w (Wrote hb ⟨H.room, H.used + 1, H.things ++ [⟨mkKind k, H.mkProto k p, [], []⟩]⟩ own w (.tuple #[.int .i64 H.things.length, .int .i64 0])) := by
  by_cases hp : H.there p = true
  · obtain ⟨h0, tv, t, hth, htv, hti⟩ := there_get (HRep.some hb _ _ _ h) hp
    cases hti with
    | arr vals b av hb' hc hr => exact Make_obj_arr hb H tvs own k p w h hf hk2 hp h0 b htv (by simp [HM.kindOf, hp, hth])
    | obj k' q l b mv kv hk' hq hqi hb' hc hm hr hn =>
      rcases hk' with rfl | rfl | rfl
      · exact Make_obj_o1 hb H tvs own k p w h hf hk2 hp h0 b _ htv (by simp [HM.kindOf, hp, hth])
      · exact Make_obj_o3 hb H tvs own k p w h hf hk2 hp h0 b _ htv (by simp [HM.kindOf, hp, hth])
      · exact Make_obj_o4 hb H tvs own k p w h hf hk2 hp h0 b _ htv (by simp [HM.kindOf, hp, hth])
  · exact Make_obj_none hb H tvs own k p w h hf hk2 hp

/-- the heap behind a Make -/
def HM.make (H : HM) (k p : Int) : HM := if H.used < H.room then ⟨H.room, H.used + 1, H.things ++ [⟨mkKind k, H.mkProto k p, [], []⟩]⟩ else H

theorem Make_any (hb : Nat) (H : HM) (tvs : List Value) (own : Own) (k p : Int) (w : World) (h : Rep w hb H tvs own) :
    Calls Tryz.prog 19 #[.pointer (some ⟨hb, 0, none⟩), .int .i64 k, .int .i64 p] w (Wrote hb (H.make k p) own w (.tuple #[.int .i64 (if H.used < H.room then H.things.length else -1), .int .i64 (if H.used < H.room then 0 else 3)])) := by
  by_cases hf : H.used < H.room
  · rw [if_pos hf, if_pos hf, HM.make, if_pos hf]
    by_cases hk : k = 2
    · subst hk
      have := Make_arr hb H tvs own p w h hf
      have e1 : H.mkProto 2 p = -1 := rfl
      have e2 : mkKind 2 = 2 := rfl
      rw [e1, e2]
      exact this
    · exact Make_obj hb H tvs own k p w h hf (by simpa using hk)
  · rw [if_neg hf, if_neg hf, HM.make, if_neg hf]
    refine (Make_full _ H tvs own k p w (.some hb _ _ _ h) (by omega)).mono ?_
    rintro e w' ⟨rfl, hu⟩
    exact ⟨rfl, tvs, own, h.up hu, hu.mut own⟩

end Go.Proofs.YtmbipadiaggolaaGreatDoor
