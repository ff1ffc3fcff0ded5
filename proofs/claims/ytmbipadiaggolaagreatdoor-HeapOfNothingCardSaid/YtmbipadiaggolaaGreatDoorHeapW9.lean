import Derived.Test.YtmbipadiaggolaaGreatDoorHeapW8
/- Walks: Get (but the length of a text), Has. -/
namespace Go.Proofs.YtmbipadiaggolaaGreatDoor
open Go.RowKit
set_option linter.unusedSimpArgs false
attribute [local go_sem] ta_aa ta_ao ta_an ta_oa ta_oo ta_on m_kind_a m_kind_o m_behind_a m_behind_o m_own_a m_own_o valV

theorem Up.lt {a w : World} (h : Up a w) (b : Nat) (hb : b < a.heap.size) : b < w.heap.size := Nat.lt_of_lt_of_le hb h.size

set_option maxHeartbeats 1600000 in
/-- undefined and null have no members -/
theorem Get_throw (hv : Value) (H : HM) (tvs : List Value) (own : Own) (k n : Int) (s key : ByteArray) (w : World) (h : HRep w hv H tvs own) (pk pn : Int) (ps : ByteArray) (hp : plainS H ⟨k, n, s⟩ = ⟨pk, pn, ps⟩) (hk : pk = 0 ∨ pk = 1) :
    Calls Tryz.prog 22 #[hv, .agg #[.int .i64 k, .int .i64 n, .string s], .string key] w fun e w' => e = .returned (.tuple #[.agg #[.int .i64 0, .int .i64 0, .string ⟨#[]⟩], .string noMembers, .int .i64 1]) ∧ Up w w' := by
  have hh := Lib.hid h
  have HP := Lib.hid hp
  clear h hp
  rcases hk with rfl | rfl
  all_goals
    go_enter Tryz.func22, Tryz.ntmps22
    go_wp2_with (first | (go_at_call 35; refine (plain_any hv H tvs own _ _ _ _ (hh.out.up (by repeat (first | with_reducible exact Up.refl _ | with_reducible assumption | with_reducible refine Up.drewN ?_ _ | with_reducible refine Up.drew ?_ | with_reducible refine Up.alloc ?_ _ | with_reducible refine Up.setCell ?_ (by first | omega | (simp; done) | (simp; omega)) _ | with_reducible refine Up.trans ?_ (by assumption))))).mono ?_; rintro e w' ⟨rfl, hu⟩; simp only [HP.out]; have hd := hu.get (Up.get (by repeat (first | with_reducible exact Up.refl _ | with_reducible assumption | with_reducible refine Up.drewN ?_ _ | with_reducible refine Up.drew ?_ | with_reducible refine Up.alloc ?_ _ | with_reducible refine Up.setCell ?_ (by first | omega | (simp; done) | (simp; omega)) _ | with_reducible refine Up.trans ?_ (by assumption))) (alloc_get w _)); have a0 := cell_of hd 0; have a1 := cell_of hd 1; have a2 := cell_of hd 2; have f0 := ice_of hd 0; have f1 := ice_of hd 1; have f2 := ice_of hd 2; have a4 := lt_of_heap hd; (try simp only [World.size_alloc, List.getElem?_toArray, List.getElem?_cons_zero, List.getElem?_cons_succ] at a0 a1 a2 f0 f1 f2 a4); clear hd; have hd := hu.get (Up.get (by repeat (first | with_reducible exact Up.refl _ | with_reducible assumption | with_reducible refine Up.drewN ?_ _ | with_reducible refine Up.drew ?_ | with_reducible refine Up.alloc ?_ _ | with_reducible refine Up.setCell ?_ (by first | omega | (simp; done) | (simp; omega)) _ | with_reducible refine Up.trans ?_ (by assumption))) (alloc_get (w.alloc _) _)); have a0 := cell_of hd 0; have a1 := cell_of hd 1; have a2 := cell_of hd 2; have f0 := ice_of hd 0; have f1 := ice_of hd 1; have f2 := ice_of hd 2; have a4 := lt_of_heap hd; (try simp only [World.size_alloc, List.getElem?_toArray, List.getElem?_cons_zero, List.getElem?_cons_succ] at a0 a1 a2 f0 f1 f2 a4); clear hd))
    refine bodyPost_eq (by (simp [results, Tryz.results22, go_sem, *]) <;> rfl) rfl rfl ⟨rfl, (by repeat (first | with_reducible exact Up.refl _ | with_reducible assumption | with_reducible refine Up.drewN ?_ _ | with_reducible refine Up.drew ?_ | with_reducible refine Up.alloc ?_ _ | with_reducible refine Up.setCell ?_ (by first | omega | (simp; done) | (simp; omega)) _ | with_reducible refine Up.trans ?_ (by assumption)))⟩

set_option maxHeartbeats 1600000 in
/-- of a text, another key than length -/
theorem Get_text (hv : Value) (H : HM) (tvs : List Value) (own : Own) (k n : Int) (s key : ByteArray) (w : World) (h : HRep w hv H tvs own) (pn : Int) (ps : ByteArray) (hp : plainS H ⟨k, n, s⟩ = ⟨4, pn, ps⟩) (hkey : (key.toList == [108, 101, 110, 103, 116, 104]) = false) :
    Calls Tryz.prog 22 #[hv, .agg #[.int .i64 k, .int .i64 n, .string s], .string key] w fun e w' => e = .returned (.tuple #[.agg #[.int .i64 0, .int .i64 0, .string ⟨#[]⟩], .string ⟨#[]⟩, .int .i64 0]) ∧ Up w w' := by
  have hh := Lib.hid h
  have HP := Lib.hid hp
  clear h hp
  go_enter Tryz.func22, Tryz.ntmps22
  go_wp2_with (first | (go_at_call 35; refine (plain_any hv H tvs own _ _ _ _ (hh.out.up (by repeat (first | with_reducible exact Up.refl _ | with_reducible assumption | with_reducible refine Up.drewN ?_ _ | with_reducible refine Up.drew ?_ | with_reducible refine Up.alloc ?_ _ | with_reducible refine Up.setCell ?_ (by first | omega | (simp; done) | (simp; omega)) _ | with_reducible refine Up.trans ?_ (by assumption))))).mono ?_; rintro e w' ⟨rfl, hu⟩; simp only [HP.out]; have hd := hu.get (Up.get (by repeat (first | with_reducible exact Up.refl _ | with_reducible assumption | with_reducible refine Up.drewN ?_ _ | with_reducible refine Up.drew ?_ | with_reducible refine Up.alloc ?_ _ | with_reducible refine Up.setCell ?_ (by first | omega | (simp; done) | (simp; omega)) _ | with_reducible refine Up.trans ?_ (by assumption))) (alloc_get w _)); have a0 := cell_of hd 0; have a1 := cell_of hd 1; have a2 := cell_of hd 2; have f0 := ice_of hd 0; have f1 := ice_of hd 1; have f2 := ice_of hd 2; have a4 := lt_of_heap hd; (try simp only [World.size_alloc, List.getElem?_toArray, List.getElem?_cons_zero, List.getElem?_cons_succ] at a0 a1 a2 f0 f1 f2 a4); clear hd; have hd := hu.get (Up.get (by repeat (first | with_reducible exact Up.refl _ | with_reducible assumption | with_reducible refine Up.drewN ?_ _ | with_reducible refine Up.drew ?_ | with_reducible refine Up.alloc ?_ _ | with_reducible refine Up.setCell ?_ (by first | omega | (simp; done) | (simp; omega)) _ | with_reducible refine Up.trans ?_ (by assumption))) (alloc_get (w.alloc _) _)); have a0 := cell_of hd 0; have a1 := cell_of hd 1; have a2 := cell_of hd 2; have f0 := ice_of hd 0; have f1 := ice_of hd 1; have f2 := ice_of hd 2; have a4 := lt_of_heap hd; (try simp only [World.size_alloc, List.getElem?_toArray, List.getElem?_cons_zero, List.getElem?_cons_succ] at a0 a1 a2 f0 f1 f2 a4); clear hd))
  refine bodyPost_eq (by (simp [results, Tryz.results22, go_sem, *]) <;> rfl) rfl rfl ⟨rfl, (by repeat (first | with_reducible exact Up.refl _ | with_reducible assumption | with_reducible refine Up.drewN ?_ _ | with_reducible refine Up.drew ?_ | with_reducible refine Up.alloc ?_ _ | with_reducible refine Up.setCell ?_ (by first | omega | (simp; done) | (simp; omega)) _ | with_reducible refine Up.trans ?_ (by assumption)))⟩

set_option maxHeartbeats 1600000 in
/-- of a number or a truth nothing -/
theorem Get_small (hv : Value) (H : HM) (tvs : List Value) (own : Own) (k n : Int) (s key : ByteArray) (w : World) (h : HRep w hv H tvs own) (pk pn : Int) (ps : ByteArray) (hp : plainS H ⟨k, n, s⟩ = ⟨pk, pn, ps⟩) (hk : pk = 2 ∨ pk = 3) :
    Calls Tryz.prog 22 #[hv, .agg #[.int .i64 k, .int .i64 n, .string s], .string key] w fun e w' => e = .returned (.tuple #[.agg #[.int .i64 0, .int .i64 0, .string ⟨#[]⟩], .string ⟨#[]⟩, .int .i64 0]) ∧ Up w w' := by
  have hh := Lib.hid h
  have HP := Lib.hid hp
  clear h hp
  rcases hk with rfl | rfl
  all_goals
    go_enter Tryz.func22, Tryz.ntmps22
    go_wp2_with (first | (go_at_call 35; refine (plain_any hv H tvs own _ _ _ _ (hh.out.up (by repeat (first | with_reducible exact Up.refl _ | with_reducible assumption | with_reducible refine Up.drewN ?_ _ | with_reducible refine Up.drew ?_ | with_reducible refine Up.alloc ?_ _ | with_reducible refine Up.setCell ?_ (by first | omega | (simp; done) | (simp; omega)) _ | with_reducible refine Up.trans ?_ (by assumption))))).mono ?_; rintro e w' ⟨rfl, hu⟩; simp only [HP.out]; have hd := hu.get (Up.get (by repeat (first | with_reducible exact Up.refl _ | with_reducible assumption | with_reducible refine Up.drewN ?_ _ | with_reducible refine Up.drew ?_ | with_reducible refine Up.alloc ?_ _ | with_reducible refine Up.setCell ?_ (by first | omega | (simp; done) | (simp; omega)) _ | with_reducible refine Up.trans ?_ (by assumption))) (alloc_get w _)); have a0 := cell_of hd 0; have a1 := cell_of hd 1; have a2 := cell_of hd 2; have f0 := ice_of hd 0; have f1 := ice_of hd 1; have f2 := ice_of hd 2; have a4 := lt_of_heap hd; (try simp only [World.size_alloc, List.getElem?_toArray, List.getElem?_cons_zero, List.getElem?_cons_succ] at a0 a1 a2 f0 f1 f2 a4); clear hd; have hd := hu.get (Up.get (by repeat (first | with_reducible exact Up.refl _ | with_reducible assumption | with_reducible refine Up.drewN ?_ _ | with_reducible refine Up.drew ?_ | with_reducible refine Up.alloc ?_ _ | with_reducible refine Up.setCell ?_ (by first | omega | (simp; done) | (simp; omega)) _ | with_reducible refine Up.trans ?_ (by assumption))) (alloc_get (w.alloc _) _)); have a0 := cell_of hd 0; have a1 := cell_of hd 1; have a2 := cell_of hd 2; have f0 := ice_of hd 0; have f1 := ice_of hd 1; have f2 := ice_of hd 2; have a4 := lt_of_heap hd; (try simp only [World.size_alloc, List.getElem?_toArray, List.getElem?_cons_zero, List.getElem?_cons_succ] at a0 a1 a2 f0 f1 f2 a4); clear hd) | (go_at_call 40; refine (thing_none hv H tvs own _ _ _ _ (hh.out.up (by repeat (first | with_reducible exact Up.refl _ | with_reducible assumption | with_reducible refine Up.drewN ?_ _ | with_reducible refine Up.drew ?_ | with_reducible refine Up.alloc ?_ _ | with_reducible refine Up.setCell ?_ (by first | omega | (simp; done) | (simp; omega)) _ | with_reducible refine Up.trans ?_ (by assumption)))) (fun e => by simp at e)).mono ?_; rintro e w'' ⟨rfl, hu2⟩; have c00 := hu2.cells (w.heap.size) 0 (by (try simp only [World.size_alloc, setCell_size]); omega); have i00 := hu2.ice (w.heap.size) 0 (by (try simp only [World.size_alloc, setCell_size]); omega); have c01 := hu2.cells (w.heap.size) 1 (by (try simp only [World.size_alloc, setCell_size]); omega); have i01 := hu2.ice (w.heap.size) 1 (by (try simp only [World.size_alloc, setCell_size]); omega); have c02 := hu2.cells (w.heap.size) 2 (by (try simp only [World.size_alloc, setCell_size]); omega); have i02 := hu2.ice (w.heap.size) 2 (by (try simp only [World.size_alloc, setCell_size]); omega); have c10 := hu2.cells (w.heap.size + 1) 0 (by (try simp only [World.size_alloc, setCell_size]); omega); have i10 := hu2.ice (w.heap.size + 1) 0 (by (try simp only [World.size_alloc, setCell_size]); omega); have c11 := hu2.cells (w.heap.size + 1) 1 (by (try simp only [World.size_alloc, setCell_size]); omega); have i11 := hu2.ice (w.heap.size + 1) 1 (by (try simp only [World.size_alloc, setCell_size]); omega); have c12 := hu2.cells (w.heap.size + 1) 2 (by (try simp only [World.size_alloc, setCell_size]); omega); have i12 := hu2.ice (w.heap.size + 1) 2 (by (try simp only [World.size_alloc, setCell_size]); omega); have z0 := hu2.size; (try simp only [World.size_alloc, setCell_size] at z0); have l0 := Up.lt hu2 (w.heap.size) (by (try simp only [World.size_alloc, setCell_size]); omega); have l1 := Up.lt hu2 (w.heap.size + 1) (by (try simp only [World.size_alloc, setCell_size]); omega)) | (go_at_call 48; refine (find_any hv H tvs own _ none 0 .nilIface _ (hh.out.up (by repeat (first | with_reducible exact Up.refl _ | with_reducible assumption | with_reducible refine Up.drewN ?_ _ | with_reducible refine Up.drew ?_ | with_reducible refine Up.alloc ?_ _ | with_reducible refine Up.setCell ?_ (by first | omega | (simp; done) | (simp; omega)) _ | with_reducible refine Up.trans ?_ (by assumption)))) (.stop rfl)).mono ?_; rintro e w3 ⟨rfl, hu3⟩; simp only [show optV none = ⟨0, 0, ⟨#[]⟩⟩ from rfl]; have c00 := hu3.cells (w.heap.size) 0 (by (try simp only [World.size_alloc, setCell_size]); omega); have i00 := hu3.ice (w.heap.size) 0 (by (try simp only [World.size_alloc, setCell_size]); omega); have c01 := hu3.cells (w.heap.size) 1 (by (try simp only [World.size_alloc, setCell_size]); omega); have i01 := hu3.ice (w.heap.size) 1 (by (try simp only [World.size_alloc, setCell_size]); omega); have c02 := hu3.cells (w.heap.size) 2 (by (try simp only [World.size_alloc, setCell_size]); omega); have i02 := hu3.ice (w.heap.size) 2 (by (try simp only [World.size_alloc, setCell_size]); omega); have c10 := hu3.cells (w.heap.size + 1) 0 (by (try simp only [World.size_alloc, setCell_size]); omega); have i10 := hu3.ice (w.heap.size + 1) 0 (by (try simp only [World.size_alloc, setCell_size]); omega); have c11 := hu3.cells (w.heap.size + 1) 1 (by (try simp only [World.size_alloc, setCell_size]); omega); have i11 := hu3.ice (w.heap.size + 1) 1 (by (try simp only [World.size_alloc, setCell_size]); omega); have c12 := hu3.cells (w.heap.size + 1) 2 (by (try simp only [World.size_alloc, setCell_size]); omega); have i12 := hu3.ice (w.heap.size + 1) 2 (by (try simp only [World.size_alloc, setCell_size]); omega); have z0 := hu3.size; (try simp only [World.size_alloc, setCell_size] at z0); have l0 := Up.lt hu3 (w.heap.size) (by (try simp only [World.size_alloc, setCell_size]); omega); have l1 := Up.lt hu3 (w.heap.size + 1) (by (try simp only [World.size_alloc, setCell_size]); omega)))
    refine bodyPost_eq (by (simp [results, Tryz.results22, go_sem, *]) <;> rfl) rfl rfl ⟨rfl, (by repeat (first | with_reducible exact Up.refl _ | with_reducible assumption | with_reducible refine Up.drewN ?_ _ | with_reducible refine Up.drew ?_ | with_reducible refine Up.alloc ?_ _ | with_reducible refine Up.setCell ?_ (by first | omega | (simp; done) | (simp; omega)) _ | with_reducible refine Up.trans ?_ (by assumption)))⟩

set_option maxHeartbeats 1600000 in
/-- of a thing what it has, or what stands behind it -/
theorem Get_ref (hv : Value) (H : HM) (tvs : List Value) (own : Own) (k n : Int) (s key : ByteArray) (w : World) (h : HRep w hv H tvs own) (pn : Int) (ps : ByteArray) (hp : plainS H ⟨k, n, s⟩ = ⟨5, pn, ps⟩) (h0 : 0 ≤ pn) (T : TypeId) (y : Value) (htv : tvs[pn.toNat]? = some (.iface T y)) (o : Option Val) (hfind : FindAt H tvs key o (pn.toNat + 1) (.iface T y)) :
    Calls Tryz.prog 22 #[hv, .agg #[.int .i64 k, .int .i64 n, .string s], .string key] w fun e w' => e = .returned (.tuple #[.agg #[.int .i64 (optV o).k, .int .i64 (optV o).n, .string (optV o).s], .string ⟨#[]⟩, .int .i64 0]) ∧ Up w w' := by
  have hh := Lib.hid h
  have HP := Lib.hid hp
  have HT := Lib.hid htv
  have HF := Lib.hid hfind
  clear h hp htv hfind
  go_enter Tryz.func22, Tryz.ntmps22
  go_wp2_with (first | (go_at_call 35; refine (plain_any hv H tvs own _ _ _ _ (hh.out.up (by repeat (first | with_reducible exact Up.refl _ | with_reducible assumption | with_reducible refine Up.drewN ?_ _ | with_reducible refine Up.drew ?_ | with_reducible refine Up.alloc ?_ _ | with_reducible refine Up.setCell ?_ (by first | omega | (simp; done) | (simp; omega)) _ | with_reducible refine Up.trans ?_ (by assumption))))).mono ?_; rintro e w' ⟨rfl, hu⟩; simp only [HP.out]; have hd := hu.get (Up.get (by repeat (first | with_reducible exact Up.refl _ | with_reducible assumption | with_reducible refine Up.drewN ?_ _ | with_reducible refine Up.drew ?_ | with_reducible refine Up.alloc ?_ _ | with_reducible refine Up.setCell ?_ (by first | omega | (simp; done) | (simp; omega)) _ | with_reducible refine Up.trans ?_ (by assumption))) (alloc_get w _)); have a0 := cell_of hd 0; have a1 := cell_of hd 1; have a2 := cell_of hd 2; have f0 := ice_of hd 0; have f1 := ice_of hd 1; have f2 := ice_of hd 2; have a4 := lt_of_heap hd; (try simp only [World.size_alloc, List.getElem?_toArray, List.getElem?_cons_zero, List.getElem?_cons_succ] at a0 a1 a2 f0 f1 f2 a4); clear hd; have hd := hu.get (Up.get (by repeat (first | with_reducible exact Up.refl _ | with_reducible assumption | with_reducible refine Up.drewN ?_ _ | with_reducible refine Up.drew ?_ | with_reducible refine Up.alloc ?_ _ | with_reducible refine Up.setCell ?_ (by first | omega | (simp; done) | (simp; omega)) _ | with_reducible refine Up.trans ?_ (by assumption))) (alloc_get (w.alloc _) _)); have a0 := cell_of hd 0; have a1 := cell_of hd 1; have a2 := cell_of hd 2; have f0 := ice_of hd 0; have f1 := ice_of hd 1; have f2 := ice_of hd 2; have a4 := lt_of_heap hd; (try simp only [World.size_alloc, List.getElem?_toArray, List.getElem?_cons_zero, List.getElem?_cons_succ] at a0 a1 a2 f0 f1 f2 a4); clear hd) | (go_at_call 40; refine (thing_some hv H tvs own _ _ _ _ _ (hh.out.up (by repeat (first | with_reducible exact Up.refl _ | with_reducible assumption | with_reducible refine Up.drewN ?_ _ | with_reducible refine Up.drew ?_ | with_reducible refine Up.alloc ?_ _ | with_reducible refine Up.setCell ?_ (by first | omega | (simp; done) | (simp; omega)) _ | with_reducible refine Up.trans ?_ (by assumption)))) rfl h0 HT.out).mono ?_; rintro e w'' ⟨rfl, hu2⟩; have c00 := hu2.cells (w.heap.size) 0 (by (try simp only [World.size_alloc, setCell_size]); omega); have i00 := hu2.ice (w.heap.size) 0 (by (try simp only [World.size_alloc, setCell_size]); omega); have c01 := hu2.cells (w.heap.size) 1 (by (try simp only [World.size_alloc, setCell_size]); omega); have i01 := hu2.ice (w.heap.size) 1 (by (try simp only [World.size_alloc, setCell_size]); omega); have c02 := hu2.cells (w.heap.size) 2 (by (try simp only [World.size_alloc, setCell_size]); omega); have i02 := hu2.ice (w.heap.size) 2 (by (try simp only [World.size_alloc, setCell_size]); omega); have c10 := hu2.cells (w.heap.size + 1) 0 (by (try simp only [World.size_alloc, setCell_size]); omega); have i10 := hu2.ice (w.heap.size + 1) 0 (by (try simp only [World.size_alloc, setCell_size]); omega); have c11 := hu2.cells (w.heap.size + 1) 1 (by (try simp only [World.size_alloc, setCell_size]); omega); have i11 := hu2.ice (w.heap.size + 1) 1 (by (try simp only [World.size_alloc, setCell_size]); omega); have c12 := hu2.cells (w.heap.size + 1) 2 (by (try simp only [World.size_alloc, setCell_size]); omega); have i12 := hu2.ice (w.heap.size + 1) 2 (by (try simp only [World.size_alloc, setCell_size]); omega); have z0 := hu2.size; (try simp only [World.size_alloc, setCell_size] at z0); have l0 := Up.lt hu2 (w.heap.size) (by (try simp only [World.size_alloc, setCell_size]); omega); have l1 := Up.lt hu2 (w.heap.size + 1) (by (try simp only [World.size_alloc, setCell_size]); omega)) | (go_at_call 48; refine (find_any hv H tvs own _ o _ _ _ (hh.out.up (by repeat (first | with_reducible exact Up.refl _ | with_reducible assumption | with_reducible refine Up.drewN ?_ _ | with_reducible refine Up.drew ?_ | with_reducible refine Up.alloc ?_ _ | with_reducible refine Up.setCell ?_ (by first | omega | (simp; done) | (simp; omega)) _ | with_reducible refine Up.trans ?_ (by assumption)))) HF.out).mono ?_; rintro e w3 ⟨rfl, hu3⟩; have c00 := hu3.cells (w.heap.size) 0 (by (try simp only [World.size_alloc, setCell_size]); omega); have i00 := hu3.ice (w.heap.size) 0 (by (try simp only [World.size_alloc, setCell_size]); omega); have c01 := hu3.cells (w.heap.size) 1 (by (try simp only [World.size_alloc, setCell_size]); omega); have i01 := hu3.ice (w.heap.size) 1 (by (try simp only [World.size_alloc, setCell_size]); omega); have c02 := hu3.cells (w.heap.size) 2 (by (try simp only [World.size_alloc, setCell_size]); omega); have i02 := hu3.ice (w.heap.size) 2 (by (try simp only [World.size_alloc, setCell_size]); omega); have c10 := hu3.cells (w.heap.size + 1) 0 (by (try simp only [World.size_alloc, setCell_size]); omega); have i10 := hu3.ice (w.heap.size + 1) 0 (by (try simp only [World.size_alloc, setCell_size]); omega); have c11 := hu3.cells (w.heap.size + 1) 1 (by (try simp only [World.size_alloc, setCell_size]); omega); have i11 := hu3.ice (w.heap.size + 1) 1 (by (try simp only [World.size_alloc, setCell_size]); omega); have c12 := hu3.cells (w.heap.size + 1) 2 (by (try simp only [World.size_alloc, setCell_size]); omega); have i12 := hu3.ice (w.heap.size + 1) 2 (by (try simp only [World.size_alloc, setCell_size]); omega); have z0 := hu3.size; (try simp only [World.size_alloc, setCell_size] at z0); have l0 := Up.lt hu3 (w.heap.size) (by (try simp only [World.size_alloc, setCell_size]); omega); have l1 := Up.lt hu3 (w.heap.size + 1) (by (try simp only [World.size_alloc, setCell_size]); omega)))
  refine bodyPost_eq (by (simp [results, Tryz.results22, go_sem, *]) <;> rfl) rfl rfl ⟨rfl, (by repeat (first | with_reducible exact Up.refl _ | with_reducible assumption | with_reducible refine Up.drewN ?_ _ | with_reducible refine Up.drew ?_ | with_reducible refine Up.alloc ?_ _ | with_reducible refine Up.setCell ?_ (by first | omega | (simp; done) | (simp; omega)) _ | with_reducible refine Up.trans ?_ (by assumption)))⟩

theorem plainS_ref {H : HM} {x : Val} (h : (plainS H x).k = 5) : plainS H x = ⟨5, x.n, ⟨#[]⟩⟩ ∧ H.there x.n = true := by
  unfold plainS at h ⊢
  split at h
  · simp at h
  · split at h
    · simp at h
    · split at h
      · simp at h
      · split at h
        · simp at h
        · split at h
          · rename_i h1 h2 h3 h4 h5
            simp only [h1, h2, h3, h4, if_false]
            rw [if_pos h5]
            exact ⟨rfl, h5.2⟩
          · simp at h

theorem plainS_kinds (H : HM) (x : Val) : (plainS H x).k = 0 ∨ (plainS H x).k = 1 ∨ (plainS H x).k = 2 ∨ (plainS H x).k = 3 ∨ (plainS H x).k = 4 ∨ (plainS H x).k = 5 := by
  unfold plainS
  split
  · simp
  · split
    · simp
    · split
      · simp
      · split
        · simp
        · split <;> simp

/-- Get, but for the length of a text -/
theorem Get_any (hv : Value) (H : HM) (tvs : List Value) (own : Own) (k n : Int) (s key : ByteArray) (w : World) (h : HRep w hv H tvs own) (hl : (plainS H ⟨k, n, s⟩).k = 4 → (key.toList == lengthS) = false) :
    Calls Tryz.prog 22 #[hv, .agg #[.int .i64 k, .int .i64 n, .string s], .string key] w fun e w' => e = .returned (.tuple #[.agg #[.int .i64 ((H.get ⟨k, n, s⟩ key 0).1).k, .int .i64 ((H.get ⟨k, n, s⟩ key 0).1).n, .string ((H.get ⟨k, n, s⟩ key 0).1).s], .string (H.get ⟨k, n, s⟩ key 0).2.1, .int .i64 (H.get ⟨k, n, s⟩ key 0).2.2]) ∧ Up w w' := by
  unfold HM.get
  rcases e : plainS H ⟨k, n, s⟩ with ⟨pk, pn, ps⟩
  have hk := plainS_kinds H ⟨k, n, s⟩
  have hr := @plainS_ref H ⟨k, n, s⟩
  simp only [e] at hk hr hl
  rcases hk with rfl | rfl | rfl | rfl | rfl | rfl
  · exact (Get_throw hv H tvs own k n s key w h _ _ _ e (.inl rfl)).mono (by intro e w' h; exact h)
  · exact (Get_throw hv H tvs own k n s key w h _ _ _ e (.inr rfl)).mono (by intro e w' h; exact h)
  · exact (Get_small hv H tvs own k n s key w h _ _ _ e (.inl rfl)).mono (by intro e w' h; exact h)
  · exact (Get_small hv H tvs own k n s key w h _ _ _ e (.inr rfl)).mono (by intro e w' h; exact h)
  · refine (Get_text hv H tvs own k n s key w h _ _ e (hl rfl)).mono ?_
    intro e w' h
    have h2 := hl rfl
    simpa [h2] using h
  · obtain ⟨h1, h2⟩ := hr rfl
    cases h1
    obtain ⟨h0, tv, t, ht, htv, hti⟩ := there_get h h2
    obtain ⟨T, y, rfl⟩ := hti.iface
    refine (Get_ref hv H tvs own k n s key w h _ _ e h0 T y htv _ (.there n.toNat t _ ht htv rfl)).mono ?_
    intro e w' hh
    have e1 : (n + 1).toNat = n.toNat + 1 := by omega
    have e2 : ((n.toNat : Nat) : Int) = n := by omega
    simp only [e2] at hh
    simpa [e1] using hh

end Go.Proofs.YtmbipadiaggolaaGreatDoor
