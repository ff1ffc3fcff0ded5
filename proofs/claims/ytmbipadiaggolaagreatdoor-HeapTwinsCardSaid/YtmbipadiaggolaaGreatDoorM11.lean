import Derived.Deep.RegionHeld3
import Derived.Test.YtmbipadiaggolaaGreatDoorM05
/- YtmbipadiaggolaaGreatDoorM11: lemmas of the proof, in order: HeapW8, HeapW9, HeapWA. -/
/- Walks: Set. -/
namespace Go.Proofs.YtmbipadiaggolaaGreatDoor
open Go.RowKit
attribute [local go_sem] ta_aa ta_ao ta_an ta_oa ta_oo ta_on m_kind_a m_kind_o m_behind_a m_behind_o m_own_a m_own_o valV

theorem Set_none (hv : Value) (H : HM) (tvs : List Value) (own : Own) (k n : Int) (s key : ByteArray) (x : Val) (w : World) (h : HRep w hv H tvs own) (hn : k = 5 → H.there n = false) :
    Calls Tryz.prog 20 #[hv, .agg #[.int .i64 k, .int .i64 n, .string s], .string key, .agg #[.int .i64 (x).k, .int .i64 (x).n, .string (x).s]] w fun e w' => e = .returned (.tuple #[.string noMembers, .int .i64 1]) ∧ Up w w' := by
  have hh := Lib.hid h
  have HN := Lib.hid hn
  clear h hn
  go_enter Tryz.func20, Tryz.ntmps20
  go_wp2_with (first | (go_at_call 40; refine (thing_none hv H tvs own _ _ _ _ (hh.out.up uq) HN.out).mono ?_; rintro e w' ⟨rfl, hu⟩))
  go_ret2
  exact ⟨rfl, uq⟩

theorem Set_array (hv : Value) (H : HM) (tvs : List Value) (own : Own) (k n : Int) (s key : ByteArray) (x : Val) (a : Value) (w : World) (h : HRep w hv H tvs own) (hk : k = 5) (h0 : 0 ≤ n) (ht : tvs[n.toNat]? = some (.iface 86 a)) :
    Calls Tryz.prog 20 #[hv, .agg #[.int .i64 k, .int .i64 n, .string s], .string key, .agg #[.int .i64 (x).k, .int .i64 (x).n, .string (x).s]] w fun e w' => e = .returned (.tuple #[.string noMembers, .int .i64 1]) ∧ Up w w' := by
  have hh := Lib.hid h
  have HN := Lib.hid ht
  have HK := Lib.hid hk
  clear h ht hk
  go_enter Tryz.func20, Tryz.ntmps20
  go_wp2_with (first | (go_at_call 40; refine (thing_some hv H tvs own _ _ _ _ _ (hh.out.up uq) HK.out h0 HN.out).mono ?_; rintro e w' ⟨rfl, hu⟩))
  go_ret2
  exact ⟨rfl, uq⟩

theorem Mut.get {o1 o2 : Own} {a b : World} (h : Mut o1 o2 a b) {x : Nat} {o : Obj} (hx : a.heap[x]? = some o) (hn : o1 x = none) : b.heap[x]? = some o := by
  rw [h.block x (lt_of_heap hx) hn]; exact hx
theorem Kept.cell {S : Nat → Prop} {a b : World} (h : Kept S a b) (x o : Nat) (hx : x < a.heap.size) (hn : ¬ S x) : b.cell? ⟨x, o, none⟩ = a.cell? ⟨x, o, none⟩ := World.cell?_of_block (w := a) (h.block x hx hn)
theorem ThingIs.nodup {w : World} {own : Own} {tvs : List Value} {i : Nat} {t : Thing} {v : Value} (h : ThingIs w own tvs i t v) : (t.slots.map (·.1)).Nodup := by
  cases h with
  | arr => simp
  | obj k p l b mv kv hk hp hpi hb hc hm hr hn => exact hn

theorem own_thing_no {own : Own} {tvs : List Value} {i : Nat} {k p : Int} {l : List (ByteArray × Val)} {b : Nat} {kk pp : Value} (s : ByteArray) (w : World) (h : ThingIs w own tvs i ⟨k, p, l, []⟩ (.iface 96 (.agg #[.pointer (some ⟨b, 0, none⟩), kk, pp]))) (hs : ∀ x ∈ l, x.1 ≠ s) :
    Calls Tryz.prog 44 #[.pointer (some ⟨b, 0, none⟩), .string s] w fun e w' => e = .returned (.tuple #[.agg #[.int .i64 0, .int .i64 0, .string ⟨#[]⟩], .bool false]) ∧ Up w w' := by
  cases h with
  | obj _ _ _ _ mv kv hk hp hpi hb hc hm hr hn => exact own_m_no b s w own _ mv kv l hc hm hs

theorem own_thing_yes {own : Own} {tvs : List Value} {i : Nat} {k p : Int} {l : List (ByteArray × Val)} {b : Nat} {kk pp : Value} (s : ByteArray) (w : World) (h : ThingIs w own tvs i ⟨k, p, l, []⟩ (.iface 96 (.agg #[.pointer (some ⟨b, 0, none⟩), kk, pp]))) {j : Nat} {x : Val} (hs : l[j]? = some (s, x)) :
    Calls Tryz.prog 44 #[.pointer (some ⟨b, 0, none⟩), .string s] w fun e w' => e = .returned (.tuple #[.agg #[.int .i64 (x).k, .int .i64 (x).n, .string (x).s], .bool true]) ∧ Up w w' := by
  cases h with
  | obj _ _ _ _ mv kv hk hp hpi hb hc hm hr hn => exact own_m_yes b s w own _ mv kv l hc hm hn j x hs

theorem Set_full (hb : Nat) (H : HM) (tvs : List Value) (own : Own) (k n : Int) (s key : ByteArray) (x : Val) (w : World) (h : Rep w hb H tvs own) (hk : k = 5) (h0 : 0 ≤ n) (b : Nat) (kk : Int) (pv : Value) (p : Int) (l : List (ByteArray × Val))
    (ht : tvs[n.toNat]? = some (.iface 96 (.agg #[.pointer (some ⟨b, 0, none⟩), .int .i64 kk, pv]))) (hpv : pv = .nilIface ∨ ∃ T y, pv = .iface T y) (hth : H.things[n.toNat]? = some ⟨kk, p, l, []⟩) (hs : ∀ y ∈ l, y.1 ≠ key) (hf : H.room ≤ H.used) :
    Calls Tryz.prog 20 #[.pointer (some ⟨hb, 0, none⟩), .agg #[.int .i64 k, .int .i64 n, .string s], .string key, .agg #[.int .i64 (x).k, .int .i64 (x).n, .string (x).s]] w fun e w' => e = .returned (.tuple #[.string ⟨#[]⟩, .int .i64 3]) ∧ Up w w' := by
  have hh := Lib.hid h
  have HK := Lib.hid hk
  have HT := Lib.hid hth
  have HS := Lib.hid hs
  have HF := Lib.hid hf
  clear h hk hth hs hf
  rcases hpv with rfl | ⟨T, y, rfl⟩
  all_goals
    have HN := Lib.hid ht
    clear ht
    go_enter Tryz.func20, Tryz.ntmps20
    go_wp2_with (first | (go_at_call 40; refine (thing_some _ H tvs own _ _ _ _ _ (.some hb _ _ _ (hh.out.up uq)) HK.out h0 HN.out).mono ?_; rintro e w' ⟨rfl, hu⟩; obtain ⟨hc, hf⟩ := And.intro hu.cells hu.ice; have hz := hu.size; (try simp only [World.size_alloc] at hz); (try (have hz0 : w.heap.size < w'.heap.size := by omega))) | (go_at_call 44; refine (own_thing_no _ _ (things_at (.some hb _ _ _ (hh.out.up uq)) HT.out HN.out) HS.out).mono ?_; rintro e w'' ⟨rfl, hu2⟩; obtain ⟨hc2, hf2⟩ := And.intro hu2.cells hu2.ice; have hz2 := hu2.size; (try simp only [World.size_alloc] at hz2)) | (go_at_call 43; refine (takes_full _ H tvs own _ (.some hb _ _ _ (hh.out.up uq)) HF.out).mono ?_; rintro e w3 ⟨rfl, hu3⟩))
    go_ret2
    exact ⟨rfl, uq⟩

theorem plainS_same (a b c d : Int) (l : List Thing) (x : Val) : plainS ⟨a, b, l⟩ x = plainS ⟨c, d, l⟩ x := rfl

/-- the heap behind a Set of a member -/
def HM.setAt (H : HM) (n : Nat) (key : ByteArray) (x : Val) (more : Int) : HM :=
  match H.things[n]? with
  | some t => ⟨H.room, H.used + more, H.things.set n ⟨t.kind, t.proto, setSlot t.slots key (plainS H x), t.vals⟩⟩
  | none => H

set_option maxRecDepth 100000 in
set_option maxHeartbeats 1600000 in
theorem Set_there (hb : Nat) (H : HM) (tvs : List Value) (own : Own) (k n : Int) (s key : ByteArray) (x : Val) (w : World) (h : Rep w hb H tvs own) (hk : k = 5) (h0 : 0 ≤ n) (b : Nat) (kk : Int) (pv : Value) (p : Int) (l : List (ByteArray × Val))
    (ht : tvs[n.toNat]? = some (.iface 96 (.agg #[.pointer (some ⟨b, 0, none⟩), .int .i64 kk, pv]))) (hpv : pv = .nilIface ∨ ∃ T y, pv = .iface T y) (hth : H.things[n.toNat]? = some ⟨kk, p, l, []⟩) (j : Nat) (y : Val) (hs : l[j]? = some (key, y)) :
    Calls Tryz.prog 20 #[.pointer (some ⟨hb, 0, none⟩), .agg #[.int .i64 k, .int .i64 n, .string s], .string key, .agg #[.int .i64 (x).k, .int .i64 (x).n, .string (x).s]] w (Wrote hb (H.setAt n.toNat key x 0) own w (.tuple #[.string ⟨#[]⟩, .int .i64 0])) := by
  have hh := Lib.hid h
  have HK := Lib.hid hk
  have HT := Lib.hid hth
  have HS := Lib.hid hs
  clear h hk hth hs
  rcases hpv with rfl | ⟨T, py, rfl⟩
  all_goals
    have HN := Lib.hid ht
    clear ht
    go_enter Tryz.func20, Tryz.ntmps20
    go_wp2_with (first | (go_at_call 40; refine (thing_some _ H tvs own _ _ _ _ _ (.some hb _ _ _ (hh.out.up uq)) HK.out h0 HN.out).mono ?_; rintro e w' ⟨rfl, hu⟩; obtain ⟨hc, hf⟩ := And.intro hu.cells hu.ice; have hz := hu.size; (try simp only [World.size_alloc] at hz); (try (have hz0 : w.heap.size < w'.heap.size := by omega))) | (go_at_call 44; refine (own_thing_yes _ _ (things_at (.some hb _ _ _ (hh.out.up uq)) HT.out HN.out) HS.out).mono ?_; rintro e w'' ⟨rfl, hu2⟩; obtain ⟨hc2, hf2⟩ := And.intro hu2.cells hu2.ice; have hz2 := hu2.size; (try simp only [World.size_alloc] at hz2)))
    have e0 : Up w (w''.alloc (.cells #[.int .i64 y.k, .int .i64 y.n, .string y.s] 34)) := uq
    have g0 := hu2.get (alloc_get w' _)
    have g1 := hu2.get (Up.get (w := (w.alloc (.cells #[.int .i64 k, .int .i64 n, .string s] 34)).alloc (.cells #[.int .i64 x.k, .int .i64 x.n, .string x.s] 34)) (by exact Up.trans hu uq) (alloc_at _ _ (w.heap.size + 1) (by simp)))
    have f0 := cell_of g0 0
    have f1 := cell_of g1 0
    have f2 := cell_of g1 1
    have f3 := cell_of g1 2
    simp only [List.getElem?_toArray, List.getElem?_cons_zero, List.getElem?_cons_succ] at f0 f1 f2 f3
    have l0 := lt_of_heap g0
    have l1 := lt_of_heap g1
    have hu3 : Up w w'' := uq
    have hlen : l.length ≤ 1048576 := by
      have q1 := sizes_at _ _ _ HT.out; have q2 := hh.out.few; have q3 := hh.out.roomU; have q4 := hh.out.roomM; simp only [Thing.size] at q1; omega
    have hno : ∀ x, w.heap.size ≤ x → ¬ Of own n.toNat x := fun x hx ⟨m, h1, _⟩ => by have := hh.out.lt _ _ h1; omega
    have ln0 : w.heap.size ≤ w'.heap.size := by omega
    have ln1 : w.heap.size ≤ w.heap.size + 1 := by omega
    clear g0 g1 hc hf hz hc2 hf2 hz2 hu hu2 e0
    go_region_held3 (fun W => W.cell? ⟨w'.heap.size, 0, none⟩ = some (.pointer (some ⟨b, 0, none⟩)) ∧ W.cell? ⟨w.heap.size + 1, 0, none⟩ = some (.int .i64 x.k) ∧ W.cell? ⟨w.heap.size + 1, 1, none⟩ = some (.int .i64 x.n) ∧ W.cell? ⟨w.heap.size + 1, 2, none⟩ = some (.string x.s)) (go_keep)
      (first | (go_at_call 35; refine (plain_any _ H tvs own _ _ _ _ (.some hb _ _ _ (hh.out.up uq))).mono ?_; rintro e w4 ⟨rfl, hu4⟩; have hu5 : Up w'' w4 := uq; have s0 := (hu5.cells _ 0 l0).trans f0; have s1 := (hu5.cells _ 0 l1).trans f1; have s2 := (hu5.cells _ 1 l1).trans f2; have s3 := (hu5.cells _ 2 l1).trans f3; clear hu4) | (go_at_call 45; refine (set_any own tvs n.toNat kk p l b _ _ key _ _ hlen (fun b m hm => Nat.lt_of_lt_of_le (hh.out.lt b m hm) (Up.size (show Up w _ from uq))) (things_at (HRep.some hb H tvs own (hh.out.up uq)) HT.out HN.out)).mono ?_; rintro e w5 ⟨rfl, own', hk5, hext, hnew, hti⟩; have hlt4 := hu5.size; have t0 := (hk5.cell _ 0 (Nat.lt_of_lt_of_le l0 hlt4) (hno _ ln0)).trans s0; have t1 := (hk5.cell _ 0 (Nat.lt_of_lt_of_le l1 hlt4) (hno _ ln1)).trans s1; have t2 := (hk5.cell _ 1 (Nat.lt_of_lt_of_le l1 hlt4) (hno _ ln1)).trans s2; have t3 := (hk5.cell _ 2 (Nat.lt_of_lt_of_le l1 hlt4) (hno _ ln1)).trans s3; have HZ := Lib.hid (And.intro hk5 (And.intro hext (And.intro hnew hti))); clear hk5 hext hnew hti))
    go_wp2
    go_ret2
    obtain ⟨hk5, hext, hnew, hti⟩ := HZ.out
    have hx := Rep.turned (hh.out.up (hu3.trans hu5)) hk5 hext hnew HT.out HN.out hti (by
      have q1 := sizes_set H.things n.toNat _ ⟨kk, p, setSlot l key (plainS H x), []⟩ HT.out
      have q2 := hh.out.few
      have q3 : (setSlot l key (plainS H x)).length = l.length := by rw [setSlot_hit _ (things_at (HRep.some hb H tvs own hh.out) HT.out HN.out).nodup HS.out, List.length_set]
      simp only [Thing.size, q3] at q1
      show (sizes (H.things.set n.toNat ⟨kk, p, setSlot l key (plainS H x), []⟩) : Int) ≤ H.used
      omega)
    refine ⟨rfl, tvs, own', ?_, (Mut.after (hu3.trans hu5) hx.2)⟩
    simpa only [HM.setAt, HT.out, Int.add_zero] using hx.1

set_option maxRecDepth 100000 in
set_option maxHeartbeats 1600000 in
theorem Set_new (hb : Nat) (H : HM) (tvs : List Value) (own : Own) (k n : Int) (s key : ByteArray) (x : Val) (w : World) (h : Rep w hb H tvs own) (hk : k = 5) (h0 : 0 ≤ n) (b : Nat) (kk : Int) (pv : Value) (p : Int) (l : List (ByteArray × Val))
    (ht : tvs[n.toNat]? = some (.iface 96 (.agg #[.pointer (some ⟨b, 0, none⟩), .int .i64 kk, pv]))) (hpv : pv = .nilIface ∨ ∃ T y, pv = .iface T y) (hth : H.things[n.toNat]? = some ⟨kk, p, l, []⟩) (hs : ∀ y ∈ l, y.1 ≠ key) (hf : H.used < H.room) :
    Calls Tryz.prog 20 #[.pointer (some ⟨hb, 0, none⟩), .agg #[.int .i64 k, .int .i64 n, .string s], .string key, .agg #[.int .i64 (x).k, .int .i64 (x).n, .string (x).s]] w (Wrote hb (H.setAt n.toNat key x 1) own w (.tuple #[.string ⟨#[]⟩, .int .i64 0])) := by
  have hh := Lib.hid h
  have HK := Lib.hid hk
  have HT := Lib.hid hth
  have HS := Lib.hid hs
  have HF := Lib.hid hf
  clear h hk hth hs hf
  rcases hpv with rfl | ⟨T, py, rfl⟩
  all_goals
    have HN := Lib.hid ht
    clear ht
    go_enter Tryz.func20, Tryz.ntmps20
    go_wp2_with (first | (go_at_call 40; refine (thing_some _ H tvs own _ _ _ _ _ (.some hb _ _ _ (hh.out.up uq)) HK.out h0 HN.out).mono ?_; rintro e w' ⟨rfl, hu⟩; obtain ⟨hc, hf⟩ := And.intro hu.cells hu.ice; have hz := hu.size; (try simp only [World.size_alloc] at hz); (try (have hz0 : w.heap.size < w'.heap.size := by omega))) | (go_at_call 44; refine (own_thing_no _ _ (things_at (.some hb _ _ _ (hh.out.up uq)) HT.out HN.out) HS.out).mono ?_; rintro e w'' ⟨rfl, hu2⟩; obtain ⟨hc2, hf2⟩ := And.intro hu2.cells hu2.ice; have hz2 := hu2.size; (try simp only [World.size_alloc] at hz2)))
    refine (takes_ok hb H tvs own _ (hh.out.up uq) HF.out).mono ?_
    rintro e w3 ⟨rfl, hR3, hM3⟩
    have g0 := hM3.get (Up.get (w := w'') uq (hu2.get (alloc_get w' _))) (by
      cases ho : own w'.heap.size with
      | none => rfl
      | some m => have := hh.out.lt _ _ ho; omega)
    have g1 := hM3.get (Up.get (w := w'') uq (hu2.get (Up.get (w := (w.alloc (.cells #[.int .i64 k, .int .i64 n, .string s] 34)).alloc (.cells #[.int .i64 x.k, .int .i64 x.n, .string x.s] 34)) (by exact Up.trans hu uq) (alloc_at _ _ (w.heap.size + 1) (by simp))))) (by
      cases ho : own (w.heap.size + 1) with
      | none => rfl
      | some m => have := hh.out.lt _ _ ho; omega)
    have f0 := cell_of g0 0
    have f1 := cell_of g1 0
    have f2 := cell_of g1 1
    have f3 := cell_of g1 2
    simp only [List.getElem?_toArray, List.getElem?_cons_zero, List.getElem?_cons_succ] at f0 f1 f2 f3
    have l0 := lt_of_heap g0
    have l1 := lt_of_heap g1
    have hu3 : Up w (w''.alloc (.cells #[.int .i64 0, .int .i64 0, .string ⟨#[]⟩] 34)) := uq
    have hlen : l.length ≤ 1048576 := by
      have q1 := sizes_at _ _ _ HT.out; have q2 := hh.out.few; have q3 := hh.out.roomU; have q4 := hh.out.roomM; simp only [Thing.size] at q1; omega
    have hno : ∀ x, w.heap.size ≤ x → ¬ Of own n.toNat x := fun x hx ⟨m, h1, _⟩ => by have := hh.out.lt _ _ h1; omega
    have ln0 : w.heap.size ≤ w'.heap.size := by omega
    have ln1 : w.heap.size ≤ w.heap.size + 1 := by omega
    have HR := Lib.hid (And.intro hR3 (Mut.after hu3 hM3))
    clear g0 g1 hc hf hz hc2 hf2 hz2 hu hu2 hR3 hM3 hu3
    go_wp2_with fail
    go_region_held3 (fun W => W.cell? ⟨w'.heap.size, 0, none⟩ = some (.pointer (some ⟨b, 0, none⟩)) ∧ W.cell? ⟨w.heap.size + 1, 0, none⟩ = some (.int .i64 x.k) ∧ W.cell? ⟨w.heap.size + 1, 1, none⟩ = some (.int .i64 x.n) ∧ W.cell? ⟨w.heap.size + 1, 2, none⟩ = some (.string x.s)) (go_keep)
      (first | (go_at_call 35; refine (plain_any _ ⟨H.room, H.used + 1, H.things⟩ tvs own _ _ _ _ (.some hb _ _ _ (HR.out.1.up uq))).mono ?_; rintro e w4 ⟨rfl, hu4⟩; have hu5 : Up w3 w4 := uq; have s0 := (hu5.cells _ 0 l0).trans f0; have s1 := (hu5.cells _ 0 l1).trans f1; have s2 := (hu5.cells _ 1 l1).trans f2; have s3 := (hu5.cells _ 2 l1).trans f3; clear hu4) | (go_at_call 45; refine (set_any own tvs n.toNat kk p l b _ _ key _ _ hlen (fun b m hm => Nat.lt_of_lt_of_le (HR.out.1.lt b m hm) (Up.size (show Up w3 _ from uq))) (things_at (HRep.some hb ⟨H.room, H.used + 1, H.things⟩ tvs own (HR.out.1.up uq)) HT.out HN.out)).mono ?_; rintro e w5 ⟨rfl, own', hk5, hext, hnew, hti⟩; have hlt4 := hu5.size; have t0 := (hk5.cell _ 0 (Nat.lt_of_lt_of_le l0 hlt4) (hno _ ln0)).trans s0; have t1 := (hk5.cell _ 0 (Nat.lt_of_lt_of_le l1 hlt4) (hno _ ln1)).trans s1; have t2 := (hk5.cell _ 1 (Nat.lt_of_lt_of_le l1 hlt4) (hno _ ln1)).trans s2; have t3 := (hk5.cell _ 2 (Nat.lt_of_lt_of_le l1 hlt4) (hno _ ln1)).trans s3; have HZ := Lib.hid (And.intro hk5 (And.intro hext (And.intro hnew hti))); clear hk5 hext hnew hti))
    go_wp2
    go_ret2
    obtain ⟨hk5, hext, hnew, hti⟩ := HZ.out
    have hx := Rep.turned (HR.out.1.up hu5) hk5 hext hnew HT.out HN.out hti (by
      have q1 := sizes_set H.things n.toNat _ ⟨kk, p, setSlot l key (plainS H x), []⟩ HT.out
      have q2 := hh.out.few
      have q3 : (setSlot l key (plainS H x)).length = l.length + 1 := by rw [setSlot_miss _ HS.out, List.length_append, List.length_singleton]
      simp only [Thing.size, q3] at q1
      show (sizes (H.things.set n.toNat ⟨kk, p, setSlot l key (plainS H x), []⟩) : Int) ≤ H.used + 1
      omega)
    refine ⟨rfl, tvs, own', ?_, (HR.out.2.trans (Mut.after hu5 hx.2))⟩
    simp only [HM.setAt, HT.out]
    exact hx.1

theorem protoV_form {w : World} {hv : Value} {H : HM} {tvs : List Value} {own : Own} (h : HRep w hv H tvs own) (p : Int) : protoV tvs p = .nilIface ∨ ∃ T y, protoV tvs p = .iface T y := by
  unfold protoV
  split
  · exact .inl rfl
  · cases htv : tvs[p.toNat]? with
    | none => left; rw [List.getD, htv]; rfl
    | some tv =>
      right
      have hp : H.there p = true := by
        have hlt : p.toNat < tvs.length := by
          rcases Nat.lt_or_ge p.toNat tvs.length with h' | h'
          · exact h'
          · rw [List.getElem?_eq_none h'] at htv; cases htv
        cases h with
        | nil => simp at hlt
        | some hb _ _ _ h => have := h.len; simp [HM.there]; omega
      obtain ⟨_, tv', t, h1, h2, h3⟩ := there_get h hp
      obtain ⟨T, y, rfl⟩ := h3.iface
      exact ⟨T, y, by rw [List.getD, h2]; rfl⟩

/-- Set, as a whole: the heap behind it, the text, the fault -/
def HM.set (H : HM) (k n : Int) (key : ByteArray) (x : Val) : HM × ByteArray × Int :=
  if k = 5 ∧ H.there n = true then
    match H.things[n.toNat]? with
    | none => (H, noMembers, 1)
    | some t =>
      if t.kind = 2 then (H, noMembers, 1)
      else if t.slots.any (fun y => decide (y.1 = key)) then (H.setAt n.toNat key x 0, ⟨#[]⟩, 0)
      else if H.used < H.room then (H.setAt n.toNat key x 1, ⟨#[]⟩, 0)
      else (H, ⟨#[]⟩, 3)
  else (H, noMembers, 1)

theorem Set_any (hb : Nat) (H : HM) (tvs : List Value) (own : Own) (k n : Int) (s key : ByteArray) (x : Val) (w : World) (h : Rep w hb H tvs own) :
    Calls Tryz.prog 20 #[.pointer (some ⟨hb, 0, none⟩), .agg #[.int .i64 k, .int .i64 n, .string s], .string key, .agg #[.int .i64 (x).k, .int .i64 (x).n, .string (x).s]] w
      (Wrote hb (H.set k n key x).1 own w (.tuple #[.string (H.set k n key x).2.1, .int .i64 (H.set k n key x).2.2])) := by
  unfold HM.set
  by_cases ht : k = 5 ∧ H.there n = true
  · obtain ⟨hk, ht⟩ := ht
    rw [if_pos ⟨hk, ht⟩]
    obtain ⟨h0, tv, t, hth, htv, hti⟩ := there_get (HRep.some hb _ _ _ h) ht
    rw [hth]
    cases hti with
    | arr vals b av hb' hc hr =>
      simp only [if_pos]
      refine (Set_array _ H tvs own k n s key x _ w (.some hb _ _ _ h) hk h0 htv).mono ?_
      rintro e w' ⟨rfl, hu⟩
      exact ⟨rfl, tvs, own, h.up hu, hu.mut own⟩
    | obj kk p l b mv kv hkk hp hpi hb' hc hm hr hn =>
      simp only
      rw [if_neg (by omega)]
      have hpv := protoV_form (HRep.some hb _ _ _ h) p
      rcases slot_cases l key with hs | ⟨j, y, hj⟩
      · rw [if_neg (by rw [List.any_eq_true]; rintro ⟨y, hy, he⟩; exact hs y hy (by simpa using he))]
        by_cases hf : H.used < H.room
        · rw [if_pos hf]
          exact Set_new hb H tvs own k n s key x w h hk h0 b kk _ p l htv hpv hth hs hf
        · rw [if_neg hf]
          refine (Set_full hb H tvs own k n s key x w h hk h0 b kk _ p l htv hpv hth hs (by omega)).mono ?_
          rintro e w' ⟨rfl, hu⟩
          exact ⟨rfl, tvs, own, h.up hu, hu.mut own⟩
      · rw [if_pos (by simp only [List.any_eq_true, decide_eq_true_eq]; exact ⟨_, List.mem_of_getElem? hj, rfl⟩)]
        exact Set_there hb H tvs own k n s key x w h hk h0 b kk _ p l htv hpv hth j y hj
  · rw [if_neg ht]
    refine (Set_none _ H tvs own k n s key x w (.some hb _ _ _ h) (by simpa using ht)).mono ?_
    rintro e w' ⟨rfl, hu⟩
    exact ⟨rfl, tvs, own, h.up hu, hu.mut own⟩

end Go.Proofs.YtmbipadiaggolaaGreatDoor

/- Walks: Get (but the length of a text), Has. -/
namespace Go.Proofs.YtmbipadiaggolaaGreatDoor
open Go.RowKit
set_option linter.unusedSimpArgs false
attribute [local go_sem] ta_aa ta_ao ta_an ta_oa ta_oo ta_on m_kind_a m_kind_o m_behind_a m_behind_o m_own_a m_own_o valV

theorem Up.lt {a w : World} (h : Up a w) (b : Nat) (hb : b < a.heap.size) : b < w.heap.size := Nat.lt_of_lt_of_le hb h.size

set_option maxHeartbeats 1600000 in
/-- undefined and null have no members -/
theorem Get_throw (hv : Value) (H : HM) (tvs : List Value) (own : Own) (k n : Int) (s key : ByteArray) (w : World) (h : HRep w hv H tvs own) (pk pn : Int) (ps : ByteArray) (hp : plainS H ⟨k, n, s⟩ = ⟨pk, pn, ps⟩) (hk : pk = 0 ∨ pk = 1) :
    Calls Tryz.prog 22 #[hv, .agg #[.int .i64 k, .int .i64 n, .string s], .string key] w fun e w' => e = .returned (.tuple #[.agg #[.int .i64 0, .int .i64 0, .string ⟨#[]⟩], .string noMembers, .int .i64 1]) ∧ Up w w' := by
  have hh := Lib.hid h
  have HP := Lib.hid hp
  clear h hp
  rcases hk with rfl | rfl
  all_goals
    go_enter Tryz.func22, Tryz.ntmps22
    go_wp2_with (first | (go_at_call 35; refine (plain_any hv H tvs own _ _ _ _ (hh.out.up uq)).mono ?_; rintro e w' ⟨rfl, hu⟩; simp only [HP.out]; have hd := hu.get (Up.get uq (alloc_get w _)); have a0 := cell_of hd 0; have a1 := cell_of hd 1; have a2 := cell_of hd 2; have f0 := ice_of hd 0; have f1 := ice_of hd 1; have f2 := ice_of hd 2; have a4 := lt_of_heap hd; (try simp only [World.size_alloc, List.getElem?_toArray, List.getElem?_cons_zero, List.getElem?_cons_succ] at a0 a1 a2 f0 f1 f2 a4); clear hd; have hd := hu.get (Up.get uq (alloc_get (w.alloc _) _)); have a0 := cell_of hd 0; have a1 := cell_of hd 1; have a2 := cell_of hd 2; have f0 := ice_of hd 0; have f1 := ice_of hd 1; have f2 := ice_of hd 2; have a4 := lt_of_heap hd; (try simp only [World.size_alloc, List.getElem?_toArray, List.getElem?_cons_zero, List.getElem?_cons_succ] at a0 a1 a2 f0 f1 f2 a4); clear hd))
    refine bodyPost_eq (by (simp [results, Tryz.results22, go_sem, *]) <;> rfl) rfl rfl ⟨rfl, uq⟩

set_option maxHeartbeats 1600000 in
/-- of a text, another key than length -/
theorem Get_text (hv : Value) (H : HM) (tvs : List Value) (own : Own) (k n : Int) (s key : ByteArray) (w : World) (h : HRep w hv H tvs own) (pn : Int) (ps : ByteArray) (hp : plainS H ⟨k, n, s⟩ = ⟨4, pn, ps⟩) (hkey : (key.toList == [108, 101, 110, 103, 116, 104]) = false) :
    Calls Tryz.prog 22 #[hv, .agg #[.int .i64 k, .int .i64 n, .string s], .string key] w fun e w' => e = .returned (.tuple #[.agg #[.int .i64 0, .int .i64 0, .string ⟨#[]⟩], .string ⟨#[]⟩, .int .i64 0]) ∧ Up w w' := by
  have hh := Lib.hid h
  have HP := Lib.hid hp
  clear h hp
  go_enter Tryz.func22, Tryz.ntmps22
  go_wp2_with (first | (go_at_call 35; refine (plain_any hv H tvs own _ _ _ _ (hh.out.up uq)).mono ?_; rintro e w' ⟨rfl, hu⟩; simp only [HP.out]; have hd := hu.get (Up.get uq (alloc_get w _)); have a0 := cell_of hd 0; have a1 := cell_of hd 1; have a2 := cell_of hd 2; have f0 := ice_of hd 0; have f1 := ice_of hd 1; have f2 := ice_of hd 2; have a4 := lt_of_heap hd; (try simp only [World.size_alloc, List.getElem?_toArray, List.getElem?_cons_zero, List.getElem?_cons_succ] at a0 a1 a2 f0 f1 f2 a4); clear hd; have hd := hu.get (Up.get uq (alloc_get (w.alloc _) _)); have a0 := cell_of hd 0; have a1 := cell_of hd 1; have a2 := cell_of hd 2; have f0 := ice_of hd 0; have f1 := ice_of hd 1; have f2 := ice_of hd 2; have a4 := lt_of_heap hd; (try simp only [World.size_alloc, List.getElem?_toArray, List.getElem?_cons_zero, List.getElem?_cons_succ] at a0 a1 a2 f0 f1 f2 a4); clear hd))
  refine bodyPost_eq (by (simp [results, Tryz.results22, go_sem, *]) <;> rfl) rfl rfl ⟨rfl, uq⟩

set_option maxHeartbeats 1600000 in
/-- of a number or a truth nothing -/
theorem Get_small (hv : Value) (H : HM) (tvs : List Value) (own : Own) (k n : Int) (s key : ByteArray) (w : World) (h : HRep w hv H tvs own) (pk pn : Int) (ps : ByteArray) (hp : plainS H ⟨k, n, s⟩ = ⟨pk, pn, ps⟩) (hk : pk = 2 ∨ pk = 3) :
    Calls Tryz.prog 22 #[hv, .agg #[.int .i64 k, .int .i64 n, .string s], .string key] w fun e w' => e = .returned (.tuple #[.agg #[.int .i64 0, .int .i64 0, .string ⟨#[]⟩], .string ⟨#[]⟩, .int .i64 0]) ∧ Up w w' := by
  have hh := Lib.hid h
  have HP := Lib.hid hp
  clear h hp
  rcases hk with rfl | rfl
  all_goals
    go_enter Tryz.func22, Tryz.ntmps22
    go_wp2_with (first | (go_at_call 35; refine (plain_any hv H tvs own _ _ _ _ (hh.out.up uq)).mono ?_; rintro e w' ⟨rfl, hu⟩; simp only [HP.out]; have hd := hu.get (Up.get uq (alloc_get w _)); have a0 := cell_of hd 0; have a1 := cell_of hd 1; have a2 := cell_of hd 2; have f0 := ice_of hd 0; have f1 := ice_of hd 1; have f2 := ice_of hd 2; have a4 := lt_of_heap hd; (try simp only [World.size_alloc, List.getElem?_toArray, List.getElem?_cons_zero, List.getElem?_cons_succ] at a0 a1 a2 f0 f1 f2 a4); clear hd; have hd := hu.get (Up.get uq (alloc_get (w.alloc _) _)); have a0 := cell_of hd 0; have a1 := cell_of hd 1; have a2 := cell_of hd 2; have f0 := ice_of hd 0; have f1 := ice_of hd 1; have f2 := ice_of hd 2; have a4 := lt_of_heap hd; (try simp only [World.size_alloc, List.getElem?_toArray, List.getElem?_cons_zero, List.getElem?_cons_succ] at a0 a1 a2 f0 f1 f2 a4); clear hd) | (go_at_call 40; refine (thing_none hv H tvs own _ _ _ _ (hh.out.up uq) (fun e => by simp at e)).mono ?_; rintro e w'' ⟨rfl, hu2⟩; have c00 := hu2.cells (w.heap.size) 0 (by (try simp only [World.size_alloc, setCell_size]); omega); have i00 := hu2.ice (w.heap.size) 0 (by (try simp only [World.size_alloc, setCell_size]); omega); have c01 := hu2.cells (w.heap.size) 1 (by (try simp only [World.size_alloc, setCell_size]); omega); have i01 := hu2.ice (w.heap.size) 1 (by (try simp only [World.size_alloc, setCell_size]); omega); have c02 := hu2.cells (w.heap.size) 2 (by (try simp only [World.size_alloc, setCell_size]); omega); have i02 := hu2.ice (w.heap.size) 2 (by (try simp only [World.size_alloc, setCell_size]); omega); have c10 := hu2.cells (w.heap.size + 1) 0 (by (try simp only [World.size_alloc, setCell_size]); omega); have i10 := hu2.ice (w.heap.size + 1) 0 (by (try simp only [World.size_alloc, setCell_size]); omega); have c11 := hu2.cells (w.heap.size + 1) 1 (by (try simp only [World.size_alloc, setCell_size]); omega); have i11 := hu2.ice (w.heap.size + 1) 1 (by (try simp only [World.size_alloc, setCell_size]); omega); have c12 := hu2.cells (w.heap.size + 1) 2 (by (try simp only [World.size_alloc, setCell_size]); omega); have i12 := hu2.ice (w.heap.size + 1) 2 (by (try simp only [World.size_alloc, setCell_size]); omega); have z0 := hu2.size; (try simp only [World.size_alloc, setCell_size] at z0); have l0 := Up.lt hu2 (w.heap.size) (by (try simp only [World.size_alloc, setCell_size]); omega); have l1 := Up.lt hu2 (w.heap.size + 1) (by (try simp only [World.size_alloc, setCell_size]); omega)) | (go_at_call 48; refine (find_any hv H tvs own _ none 0 .nilIface _ (hh.out.up uq) (.stop rfl)).mono ?_; rintro e w3 ⟨rfl, hu3⟩; simp only [show optV none = ⟨0, 0, ⟨#[]⟩⟩ from rfl]; have c00 := hu3.cells (w.heap.size) 0 (by (try simp only [World.size_alloc, setCell_size]); omega); have i00 := hu3.ice (w.heap.size) 0 (by (try simp only [World.size_alloc, setCell_size]); omega); have c01 := hu3.cells (w.heap.size) 1 (by (try simp only [World.size_alloc, setCell_size]); omega); have i01 := hu3.ice (w.heap.size) 1 (by (try simp only [World.size_alloc, setCell_size]); omega); have c02 := hu3.cells (w.heap.size) 2 (by (try simp only [World.size_alloc, setCell_size]); omega); have i02 := hu3.ice (w.heap.size) 2 (by (try simp only [World.size_alloc, setCell_size]); omega); have c10 := hu3.cells (w.heap.size + 1) 0 (by (try simp only [World.size_alloc, setCell_size]); omega); have i10 := hu3.ice (w.heap.size + 1) 0 (by (try simp only [World.size_alloc, setCell_size]); omega); have c11 := hu3.cells (w.heap.size + 1) 1 (by (try simp only [World.size_alloc, setCell_size]); omega); have i11 := hu3.ice (w.heap.size + 1) 1 (by (try simp only [World.size_alloc, setCell_size]); omega); have c12 := hu3.cells (w.heap.size + 1) 2 (by (try simp only [World.size_alloc, setCell_size]); omega); have i12 := hu3.ice (w.heap.size + 1) 2 (by (try simp only [World.size_alloc, setCell_size]); omega); have z0 := hu3.size; (try simp only [World.size_alloc, setCell_size] at z0); have l0 := Up.lt hu3 (w.heap.size) (by (try simp only [World.size_alloc, setCell_size]); omega); have l1 := Up.lt hu3 (w.heap.size + 1) (by (try simp only [World.size_alloc, setCell_size]); omega)))
    refine bodyPost_eq (by (simp [results, Tryz.results22, go_sem, *]) <;> rfl) rfl rfl ⟨rfl, uq⟩

set_option maxHeartbeats 1600000 in
/-- of a thing what it has, or what stands behind it -/
theorem Get_ref (hv : Value) (H : HM) (tvs : List Value) (own : Own) (k n : Int) (s key : ByteArray) (w : World) (h : HRep w hv H tvs own) (pn : Int) (ps : ByteArray) (hp : plainS H ⟨k, n, s⟩ = ⟨5, pn, ps⟩) (h0 : 0 ≤ pn) (T : TypeId) (y : Value) (htv : tvs[pn.toNat]? = some (.iface T y)) (o : Option Val) (hfind : FindAt H tvs key o (pn.toNat + 1) (.iface T y)) :
    Calls Tryz.prog 22 #[hv, .agg #[.int .i64 k, .int .i64 n, .string s], .string key] w fun e w' => e = .returned (.tuple #[.agg #[.int .i64 (optV o).k, .int .i64 (optV o).n, .string (optV o).s], .string ⟨#[]⟩, .int .i64 0]) ∧ Up w w' := by
  have hh := Lib.hid h
  have HP := Lib.hid hp
  have HT := Lib.hid htv
  have HF := Lib.hid hfind
  clear h hp htv hfind
  go_enter Tryz.func22, Tryz.ntmps22
  go_wp2_with (first | (go_at_call 35; refine (plain_any hv H tvs own _ _ _ _ (hh.out.up uq)).mono ?_; rintro e w' ⟨rfl, hu⟩; simp only [HP.out]; have hd := hu.get (Up.get uq (alloc_get w _)); have a0 := cell_of hd 0; have a1 := cell_of hd 1; have a2 := cell_of hd 2; have f0 := ice_of hd 0; have f1 := ice_of hd 1; have f2 := ice_of hd 2; have a4 := lt_of_heap hd; (try simp only [World.size_alloc, List.getElem?_toArray, List.getElem?_cons_zero, List.getElem?_cons_succ] at a0 a1 a2 f0 f1 f2 a4); clear hd; have hd := hu.get (Up.get uq (alloc_get (w.alloc _) _)); have a0 := cell_of hd 0; have a1 := cell_of hd 1; have a2 := cell_of hd 2; have f0 := ice_of hd 0; have f1 := ice_of hd 1; have f2 := ice_of hd 2; have a4 := lt_of_heap hd; (try simp only [World.size_alloc, List.getElem?_toArray, List.getElem?_cons_zero, List.getElem?_cons_succ] at a0 a1 a2 f0 f1 f2 a4); clear hd) | (go_at_call 40; refine (thing_some hv H tvs own _ _ _ _ _ (hh.out.up uq) rfl h0 HT.out).mono ?_; rintro e w'' ⟨rfl, hu2⟩; have c00 := hu2.cells (w.heap.size) 0 (by (try simp only [World.size_alloc, setCell_size]); omega); have i00 := hu2.ice (w.heap.size) 0 (by (try simp only [World.size_alloc, setCell_size]); omega); have c01 := hu2.cells (w.heap.size) 1 (by (try simp only [World.size_alloc, setCell_size]); omega); have i01 := hu2.ice (w.heap.size) 1 (by (try simp only [World.size_alloc, setCell_size]); omega); have c02 := hu2.cells (w.heap.size) 2 (by (try simp only [World.size_alloc, setCell_size]); omega); have i02 := hu2.ice (w.heap.size) 2 (by (try simp only [World.size_alloc, setCell_size]); omega); have c10 := hu2.cells (w.heap.size + 1) 0 (by (try simp only [World.size_alloc, setCell_size]); omega); have i10 := hu2.ice (w.heap.size + 1) 0 (by (try simp only [World.size_alloc, setCell_size]); omega); have c11 := hu2.cells (w.heap.size + 1) 1 (by (try simp only [World.size_alloc, setCell_size]); omega); have i11 := hu2.ice (w.heap.size + 1) 1 (by (try simp only [World.size_alloc, setCell_size]); omega); have c12 := hu2.cells (w.heap.size + 1) 2 (by (try simp only [World.size_alloc, setCell_size]); omega); have i12 := hu2.ice (w.heap.size + 1) 2 (by (try simp only [World.size_alloc, setCell_size]); omega); have z0 := hu2.size; (try simp only [World.size_alloc, setCell_size] at z0); have l0 := Up.lt hu2 (w.heap.size) (by (try simp only [World.size_alloc, setCell_size]); omega); have l1 := Up.lt hu2 (w.heap.size + 1) (by (try simp only [World.size_alloc, setCell_size]); omega)) | (go_at_call 48; refine (find_any hv H tvs own _ o _ _ _ (hh.out.up uq) HF.out).mono ?_; rintro e w3 ⟨rfl, hu3⟩; have c00 := hu3.cells (w.heap.size) 0 (by (try simp only [World.size_alloc, setCell_size]); omega); have i00 := hu3.ice (w.heap.size) 0 (by (try simp only [World.size_alloc, setCell_size]); omega); have c01 := hu3.cells (w.heap.size) 1 (by (try simp only [World.size_alloc, setCell_size]); omega); have i01 := hu3.ice (w.heap.size) 1 (by (try simp only [World.size_alloc, setCell_size]); omega); have c02 := hu3.cells (w.heap.size) 2 (by (try simp only [World.size_alloc, setCell_size]); omega); have i02 := hu3.ice (w.heap.size) 2 (by (try simp only [World.size_alloc, setCell_size]); omega); have c10 := hu3.cells (w.heap.size + 1) 0 (by (try simp only [World.size_alloc, setCell_size]); omega); have i10 := hu3.ice (w.heap.size + 1) 0 (by (try simp only [World.size_alloc, setCell_size]); omega); have c11 := hu3.cells (w.heap.size + 1) 1 (by (try simp only [World.size_alloc, setCell_size]); omega); have i11 := hu3.ice (w.heap.size + 1) 1 (by (try simp only [World.size_alloc, setCell_size]); omega); have c12 := hu3.cells (w.heap.size + 1) 2 (by (try simp only [World.size_alloc, setCell_size]); omega); have i12 := hu3.ice (w.heap.size + 1) 2 (by (try simp only [World.size_alloc, setCell_size]); omega); have z0 := hu3.size; (try simp only [World.size_alloc, setCell_size] at z0); have l0 := Up.lt hu3 (w.heap.size) (by (try simp only [World.size_alloc, setCell_size]); omega); have l1 := Up.lt hu3 (w.heap.size + 1) (by (try simp only [World.size_alloc, setCell_size]); omega)))
  refine bodyPost_eq (by (simp [results, Tryz.results22, go_sem, *]) <;> rfl) rfl rfl ⟨rfl, uq⟩

theorem plainS_ref {H : HM} {x : Val} (h : (plainS H x).k = 5) : plainS H x = ⟨5, x.n, ⟨#[]⟩⟩ ∧ H.there x.n = true := by
  unfold plainS at h ⊢
  split at h
  · simp at h
  · split at h
    · simp at h
    · split at h
      · simp at h
      · split at h
        · simp at h
        · split at h
          · rename_i h1 h2 h3 h4 h5
            simp only [h1, h2, h3, h4, if_false]
            rw [if_pos h5]
            exact ⟨rfl, h5.2⟩
          · simp at h

theorem plainS_kinds (H : HM) (x : Val) : (plainS H x).k = 0 ∨ (plainS H x).k = 1 ∨ (plainS H x).k = 2 ∨ (plainS H x).k = 3 ∨ (plainS H x).k = 4 ∨ (plainS H x).k = 5 := by
  unfold plainS
  split
  · simp
  · split
    · simp
    · split
      · simp
      · split
        · simp
        · split <;> simp

/-- Get, but for the length of a text -/
theorem Get_any (hv : Value) (H : HM) (tvs : List Value) (own : Own) (k n : Int) (s key : ByteArray) (w : World) (h : HRep w hv H tvs own) (hl : (plainS H ⟨k, n, s⟩).k = 4 → (key.toList == lengthS) = false) :
    Calls Tryz.prog 22 #[hv, .agg #[.int .i64 k, .int .i64 n, .string s], .string key] w fun e w' => e = .returned (.tuple #[.agg #[.int .i64 ((H.get ⟨k, n, s⟩ key 0).1).k, .int .i64 ((H.get ⟨k, n, s⟩ key 0).1).n, .string ((H.get ⟨k, n, s⟩ key 0).1).s], .string (H.get ⟨k, n, s⟩ key 0).2.1, .int .i64 (H.get ⟨k, n, s⟩ key 0).2.2]) ∧ Up w w' := by
  unfold HM.get
  rcases e : plainS H ⟨k, n, s⟩ with ⟨pk, pn, ps⟩
  have hk := plainS_kinds H ⟨k, n, s⟩
  have hr := @plainS_ref H ⟨k, n, s⟩
  simp only [e] at hk hr hl
  rcases hk with rfl | rfl | rfl | rfl | rfl | rfl
  · exact (Get_throw hv H tvs own k n s key w h _ _ _ e (.inl rfl)).mono (by intro e w' h; exact h)
  · exact (Get_throw hv H tvs own k n s key w h _ _ _ e (.inr rfl)).mono (by intro e w' h; exact h)
  · exact (Get_small hv H tvs own k n s key w h _ _ _ e (.inl rfl)).mono (by intro e w' h; exact h)
  · exact (Get_small hv H tvs own k n s key w h _ _ _ e (.inr rfl)).mono (by intro e w' h; exact h)
  · refine (Get_text hv H tvs own k n s key w h _ _ e (hl rfl)).mono ?_
    intro e w' h
    have h2 := hl rfl
    simpa [h2] using h
  · obtain ⟨h1, h2⟩ := hr rfl
    cases h1
    obtain ⟨h0, tv, t, ht, htv, hti⟩ := there_get h h2
    obtain ⟨T, y, rfl⟩ := hti.iface
    refine (Get_ref hv H tvs own k n s key w h _ _ e h0 T y htv _ (.there n.toNat t _ ht htv rfl)).mono ?_
    intro e w' hh
    have e1 : (n + 1).toNat = n.toNat + 1 := by omega
    have e2 : ((n.toNat : Nat) : Int) = n := by omega
    simp only [e2] at hh
    simpa [e1] using hh

end Go.Proofs.YtmbipadiaggolaaGreatDoor

/- Walks: Has, Push. -/
namespace Go.Proofs.YtmbipadiaggolaaGreatDoor
open Go.RowKit
set_option linter.unusedSimpArgs false
attribute [local go_sem] ta_aa ta_ao ta_an ta_oa ta_oo ta_on m_kind_a m_kind_o m_behind_a m_behind_o m_own_a m_own_o

def noInS : ByteArray := ⟨#[84, 121, 112, 101, 69, 114, 114, 111, 114, 58, 32, 105, 110]⟩

/-- Has, as a whole -/
def HM.has (H : HM) (k n : Int) (key : ByteArray) : Bool × ByteArray × Int :=
  if k = 5 ∧ H.there n = true then ((H.find key (n + 1).toNat n).isSome, ⟨#[]⟩, 0) else (false, noInS, 1)

set_option maxHeartbeats 1600000 in
theorem Has_any (hv : Value) (H : HM) (tvs : List Value) (own : Own) (k n : Int) (s key : ByteArray) (w : World) (h : HRep w hv H tvs own) :
    Calls Tryz.prog 26 #[hv, .agg #[.int .i64 k, .int .i64 n, .string s], .string key] w fun e w' => e = .returned (.tuple #[.bool (H.has k n key).1, .string (H.has k n key).2.1, .int .i64 (H.has k n key).2.2]) ∧ Up w w' := by
  by_cases ht : k = 5 ∧ H.there n = true
  · obtain ⟨h0, tv, t, hth, htv, hti⟩ := there_get h ht.2
    obtain ⟨T, y, rfl⟩ := hti.iface
    have hf : FindAt H tvs key (H.find key (n.toNat + 1) n.toNat) (n.toNat + 1) (.iface T y) := .there n.toNat t _ hth htv rfl
    have e : Hid (H.has k n key = ((H.find key (n.toNat + 1) n.toNat).isSome, ⟨#[]⟩, 0)) := by
      unfold HM.has Hid
      rw [if_pos ht]
      have e1 : (n + 1).toNat = n.toNat + 1 := by omega
      have e2 : ((n.toNat : Nat) : Int) = n := by omega
      rw [e1, e2]
    generalize H.find key (n.toNat + 1) n.toNat = r at hf e
    have HK := Lib.hid ht.1
    have hh := Lib.hid h
    have HT := Lib.hid htv
    have HF := Lib.hid hf
    clear ht h hth htv hti hf
    rw [e.out]
    go_enter Tryz.func26, Tryz.ntmps26
    go_wp2_with (first | (go_at_call 40; refine (thing_some hv H tvs own _ _ _ _ _ (hh.out.up uq) HK.out h0 HT.out).mono ?_; rintro e w' ⟨rfl, hu⟩; obtain ⟨hc, hf⟩ := And.intro hu.cells hu.ice; have hz := hu.size; (try simp only [World.size_alloc] at hz); (try (have hz0 : w.heap.size < w'.heap.size := by omega))) | (go_at_call 48; refine (find_any hv H tvs own _ _ _ _ _ (hh.out.up uq) HF.out).mono ?_; rintro e w3 ⟨rfl, hu3⟩))
    go_ret3
    exact ⟨rfl, uq⟩
  · have e : Hid (H.has k n key = (false, noInS, 1)) := by
      unfold HM.has Hid
      rw [if_neg ht]
    have HT := Lib.hid (show k = 5 → H.there n = false by simpa using ht)
    have hh := Lib.hid h
    clear ht h
    rw [e.out]
    go_enter Tryz.func26, Tryz.ntmps26
    go_wp2_with (first | (go_at_call 40; refine (thing_none hv H tvs own _ _ _ _ (hh.out.up uq) HT.out).mono ?_; rintro e w' ⟨rfl, hu⟩; obtain ⟨hc, hf⟩ := And.intro hu.cells hu.ice; have hz := hu.size; (try simp only [World.size_alloc] at hz); (try (have hz0 : w.heap.size < w'.heap.size := by omega))))
    go_ret3
    exact ⟨rfl, uq⟩

end Go.Proofs.YtmbipadiaggolaaGreatDoor
