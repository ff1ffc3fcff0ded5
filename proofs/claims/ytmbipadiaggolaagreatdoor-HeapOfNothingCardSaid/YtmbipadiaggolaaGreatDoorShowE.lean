import Derived.Test.YtmbipadiaggolaaGreatDoorShowD
import Derived.Deep.RegionHeld3
import Derived.Deep.RegionWith
import Derived.Scope
/- Show: a value within so many things. -/
namespace Go.Proofs.YtmbipadiaggolaaGreatDoor
open Go.RowKit
set_option linter.unusedSimpArgs false
attribute [local go_sem] ta_aa ta_ao ta_an ta_oa ta_oo ta_on m_kind_a m_kind_o m_behind_a m_behind_o m_own_a m_own_o

def functionS : ByteArray := ⟨#[102, 117, 110, 99, 116, 105, 111, 110]⟩
def classS : ByteArray := ⟨#[99, 108, 97, 115, 115]⟩
def dotsS : ByteArray := ⟨#[46, 46, 46]⟩
def commaS : ByteArray := ⟨#[44, 32]⟩
def colonS : ByteArray := ⟨#[58, 32]⟩
def opens (t : Thing) : ByteArray := if t.kind = 2 then ⟨#[91]⟩ else ⟨#[123]⟩
def closes (t : Thing) : ByteArray := if t.kind = 2 then ⟨#[93]⟩ else ⟨#[125]⟩

def say (bs : List UInt8) (s : ByteArray) : Bool × List UInt8 := (fitsB bs s, laid bs s)

/-- one part -/
def stepPart (rec : Val → List UInt8 → Bool × List UInt8) (x : Part) (bs : List UInt8) : Bool × List UInt8 :=
  let a := if 0 < x.i then say bs commaS else (true, bs)
  if a.1 = false then (false, a.2) else
  let b := if x.keyed then say a.2 (x.key ++ colonS) else (true, a.2)
  if b.1 = false then (false, b.2) else rec x.v b.2

def showParts (rec : Val → List UInt8 → Bool × List UInt8) : List Part → List UInt8 → Bool × List UInt8
  | [], bs => (true, bs)
  | x :: l, bs => if (stepPart rec x bs).1 = false then (false, (stepPart rec x bs).2) else showParts rec l (stepPart rec x bs).2

theorem showParts_snoc (rec : Val → List UInt8 → Bool × List UInt8) : ∀ (l : List Part) (x : Part) (bs : List UInt8), (showParts rec l bs).1 = true → showParts rec (l ++ [x]) bs = stepPart rec x (showParts rec l bs).2
  | [], x, bs, _ => by
    simp only [List.nil_append, showParts]
    split
    · rename_i h; exact Prod.ext h.symm rfl
    · rename_i h; exact Prod.ext (by cases e : (stepPart rec x bs).1 <;> simp_all) rfl
  | y :: l, x, bs, h => by
    simp only [List.cons_append, showParts] at h ⊢
    split at h
    · simp at h
    · rename_i h1
      rw [if_neg h1, if_neg h1]
      exact showParts_snoc rec l x _ h

/-- the thing that a value stands for -/
def HM.at (H : HM) (v : Val) : Option Thing := if v.k = 5 ∧ H.there v.n = true then H.things[v.n.toNat]? else none

/-- a value within 3 - f things -/
def HM.showV (H : HM) (q : ByteArray → ByteArray) : Nat → Val → List UInt8 → Bool × List UInt8
  | f, v, bs =>
    if v.k = 4 then say bs (q v.s)
    else match H.at v with
    | none => say bs (textOf v)
    | some t =>
      if t.kind = 3 then say bs functionS
      else if t.kind = 4 then say bs classS
      else match f with
      | 0 => say bs dotsS
      | f + 1 =>
        let r := showParts (H.showV q f) (partsOf t) (laid bs (opens t))
        if fitsB bs (opens t) && r.1 then say r.2 (closes t) else (false, r.2)

theorem parts_any (T : TypeId) (y : Value) (w : World) :
    Calls Tryz.prog 59 #[.iface T y] w fun e w' => e = .returned (.func (.func 74) #[] #[.pointer (some ⟨w.heap.size, 0, none⟩)]) ∧ w' = w.alloc (.cells #[.iface T y] 79) := by
  go_enter Tryz.func59, Tryz.ntmps59
  go_wp2
  go_ret
  exact ⟨rfl, rfl⟩

/-- what is asked of a world, in which a value is shown -/
structure ShowIn (B sb : Nat) (hv : Value) (H : HM) (tvs : List Value) (own : Own) (bs : List UInt8) (w : World) : Prop where
  heap : HRep w hv H tvs own
  low : ∀ b m, own b = some m → b < B
  at_ : ShowAt B sb hv bs w
  len : bs.length ≤ 65536

theorem ShowIn.up {B sb : Nat} {hv : Value} {H : HM} {tvs : List Value} {own : Own} {bs : List UInt8} {w w' : World} (h : ShowIn B sb hv H tvs own bs w) (k : Up w w') : ShowIn B sb hv H tvs own bs w' := ⟨h.heap.up k, h.low, h.at_.up k, h.len⟩
theorem ShowIn.on {B sb : Nat} {hv : Value} {H : HM} {tvs : List Value} {own : Own} {bs bs' : List UInt8} {w w' : World} (h : ShowIn B sb hv H tvs own bs w) (k : Showed sb w w') (h' : ShowAt B sb hv bs' w') (hl : bs'.length ≤ 65536) : ShowIn B sb hv H tvs own bs' w' :=
  ⟨hrep_show h.heap h.low k.kept.size (fun b hb => k.below h.at_ b hb), h.low, h', hl⟩

theorem Showed.own {B sb : Nat} {hv : Value} {bs : List UInt8} {w w2 w3 : World} (h : ShowAt B sb hv bs w) (hu : Up w w2) (k : Showed sb w2 w3) {x : Nat} {o : Obj} (hx : w.heap.size ≤ x) (ho : w2.heap[x]? = some o) : w3.heap[x]? = some o :=
  k.get ho (by have := h.lt; omega) (by rw [bufOf_up (hu.block sb h.lt)]; intro e; have := (h.buf x e).2; omega)

def Shown (B sb : Nat) (hv : Value) (r : Bool × List UInt8) (w : World) (e : Ending) (w' : World) : Prop := e = .returned (.bool r.1) ∧ ShowAt B sb hv r.2 w' ∧ Showed sb w w'

set_option maxRecDepth 100000 in
set_option maxHeartbeats 4000000 in
theorem value_string (B sb : Nat) (hv : Value) (H : HM) (tvs : List Value) (own : Own) (bs : List UInt8) (n d : Int) (s : ByteArray) (w : World) (h : ShowIn B sb hv H tvs own bs w) (q : ByteArray)
    (hq : ∀ w, Calls Tryz.prog 57 #[.string s] w fun e w' => e = .returned (.string q) ∧ Up w w') :
    Calls Tryz.prog 36 #[.pointer (some ⟨sb, 0, none⟩), .agg #[.int .i64 4, .int .i64 n, .string s], .int .i64 d] w (Shown B sb hv (say bs q) w) := by
  have hh := Lib.hid h
  obtain ⟨p0, v0, hsb0, _⟩ := h.at_.there
  have c0 := cell_of hsb0 0
  simp only [List.getElem?_toArray, List.getElem?_cons_zero] at c0
  have hlt := h.at_.lt
  clear h hsb0
  have c1 : ∀ o1 o2 o3, (((w.alloc o1).alloc o2).alloc o3).cell? ⟨sb, 0, none⟩ = some hv := fun o1 o2 o3 => (Up.cells (show Up w (((w.alloc o1).alloc o2).alloc o3) from (by repeat (first | with_reducible exact Up.refl _ | with_reducible assumption | with_reducible refine Up.drewN ?_ _ | with_reducible refine Up.drew ?_ | with_reducible refine Up.alloc ?_ _ | with_reducible refine Up.setCell ?_ (by first | omega | (simp; done) | (simp; omega)) _ | with_reducible refine Up.trans ?_ (by assumption)))) sb 0 hlt).trans c0
  refine callsIn_wide.1 (callsIn_of_wp_marks (n := 2) Tryz.func36 rfl trivial ?_)
  refine wpIn_wide.2 ?_
  simp only [Tryz.ntmps36, List.size_toArray, List.length_cons, List.length_nil, Nat.reduceAdd, Nat.reduceSub, Array.replicate_succ, Array.replicate_zero, List.push_toArray, List.append_toArray, List.nil_append, List.cons_append]
  go_wp2_with fail
  refine wp_scope_straight ?_
  go_wp2_with fail
  go_region_held3 (fun W => W.cell? ⟨w.heap.size, 0, none⟩ = some (.pointer (some ⟨sb, 0, none⟩)) ∧ W.cell? ⟨sb, 0, none⟩ = some hv ∧ W.cell? ⟨w.heap.size + 1, 0, none⟩ = some (.int .i64 4) ∧ W.cell? ⟨w.heap.size + 1, 1, none⟩ = some (.int .i64 n) ∧ W.cell? ⟨w.heap.size + 1, 2, none⟩ = some (.string s)) (go_keep) (first | (go_at_call 40; refine (thing_none hv H tvs own _ _ _ _ (hh.out.heap.up (by repeat (first | with_reducible exact Up.refl _ | with_reducible assumption | with_reducible refine Up.drewN ?_ _ | with_reducible refine Up.drew ?_ | with_reducible refine Up.alloc ?_ _ | with_reducible refine Up.setCell ?_ (by first | omega | (simp; done) | (simp; omega)) _ | with_reducible refine Up.trans ?_ (by assumption)))) (fun e => by simp at e)).mono ?_; rintro e w1 ⟨rfl, hu⟩; have s0 := hu.get (Up.get (by repeat (first | with_reducible exact Up.refl _ | with_reducible assumption | with_reducible refine Up.drewN ?_ _ | with_reducible refine Up.drew ?_ | with_reducible refine Up.alloc ?_ _ | with_reducible refine Up.setCell ?_ (by first | omega | (simp; done) | (simp; omega)) _ | with_reducible refine Up.trans ?_ (by assumption))) (alloc_get w _)); have B3 := Lib.hid s0; have a0 := cell_of s0 0; have a1 := cell_of s0 1; have a2 := cell_of s0 2; have f0 := ice_of s0 0; have f1 := ice_of s0 1; have f2 := ice_of s0 2; have a4 := lt_of_heap s0; (try simp only [World.size_alloc, List.getElem?_toArray, List.getElem?_cons_zero, List.getElem?_cons_succ] at a0 a1 a2 f0 f1 f2 a4); clear s0; have s0 := hu.get (Up.get (by repeat (first | with_reducible exact Up.refl _ | with_reducible assumption | with_reducible refine Up.drewN ?_ _ | with_reducible refine Up.drew ?_ | with_reducible refine Up.alloc ?_ _ | with_reducible refine Up.setCell ?_ (by first | omega | (simp; done) | (simp; omega)) _ | with_reducible refine Up.trans ?_ (by assumption))) (alloc_get (w.alloc _) _)); simp only [World.size_alloc] at s0; have B4 := Lib.hid s0; have a0 := cell_of s0 0; have a1 := cell_of s0 1; have a2 := cell_of s0 2; have f0 := ice_of s0 0; have f1 := ice_of s0 1; have f2 := ice_of s0 2; have a4 := lt_of_heap s0; (try simp only [World.size_alloc, List.getElem?_toArray, List.getElem?_cons_zero, List.getElem?_cons_succ] at a0 a1 a2 f0 f1 f2 a4); clear s0; have s0 := hu.get (Up.get (by repeat (first | with_reducible exact Up.refl _ | with_reducible assumption | with_reducible refine Up.drewN ?_ _ | with_reducible refine Up.drew ?_ | with_reducible refine Up.alloc ?_ _ | with_reducible refine Up.setCell ?_ (by first | omega | (simp; done) | (simp; omega)) _ | with_reducible refine Up.trans ?_ (by assumption))) (alloc_get ((w.alloc _).alloc _) _)); simp only [World.size_alloc] at s0; have B5 := Lib.hid s0; have a0 := cell_of s0 0; simp only [List.getElem?_toArray, List.getElem?_cons_zero] at a0; clear s0; have z0 := (hu.cells sb 0 (by simp; omega)); have hw1 : Up w w1 := (by repeat (first | with_reducible exact Up.refl _ | with_reducible assumption | with_reducible refine Up.drewN ?_ _ | with_reducible refine Up.drew ?_ | with_reducible refine Up.alloc ?_ _ | with_reducible refine Up.setCell ?_ (by first | omega | (simp; done) | (simp; omega)) _ | with_reducible refine Up.trans ?_ (by assumption)))))
  clear c1
  go_wp2_with fail
  go_region_held3 (fun W => W.cell? ⟨w.heap.size, 0, none⟩ = some (.pointer (some ⟨sb, 0, none⟩)) ∧ W.cell? ⟨w.heap.size + 1, 0, none⟩ = some (.int .i64 4) ∧ W.cell? ⟨w.heap.size + 1, 1, none⟩ = some (.int .i64 n) ∧ W.cell? ⟨w.heap.size + 1, 2, none⟩ = some (.string s)) (go_keep) (first | (go_at_call 57; refine (hq _).mono ?_; rintro e w2 ⟨rfl, hu2⟩; have s0 := hu2.get B3.out; have a0 := cell_of s0 0; have a1 := cell_of s0 1; have a2 := cell_of s0 2; have f0 := ice_of s0 0; have f1 := ice_of s0 1; have f2 := ice_of s0 2; have a4 := lt_of_heap s0; (try simp only [World.size_alloc, List.getElem?_toArray, List.getElem?_cons_zero, List.getElem?_cons_succ] at a0 a1 a2 f0 f1 f2 a4); clear s0; have s0 := hu2.get B4.out; have a0 := cell_of s0 0; have a1 := cell_of s0 1; have a2 := cell_of s0 2; have f0 := ice_of s0 0; have f1 := ice_of s0 1; have f2 := ice_of s0 2; have a4 := lt_of_heap s0; (try simp only [World.size_alloc, List.getElem?_toArray, List.getElem?_cons_zero, List.getElem?_cons_succ] at a0 a1 a2 f0 f1 f2 a4); clear s0) | (go_at_call 56; refine (says_any B sb hv bs q _ (hh.out.at_.up (by repeat (first | with_reducible exact Up.refl _ | with_reducible assumption | with_reducible refine Up.drewN ?_ _ | with_reducible refine Up.drew ?_ | with_reducible refine Up.alloc ?_ _ | with_reducible refine Up.setCell ?_ (by first | omega | (simp; done) | (simp; omega)) _ | with_reducible refine Up.trans ?_ (by assumption)))) hh.out.len).mono ?_; rintro e w3 ⟨rfl, hS, hK⟩; have s0 := Showed.own hh.out.at_ (by repeat (first | with_reducible exact Up.refl _ | with_reducible assumption | with_reducible refine Up.drewN ?_ _ | with_reducible refine Up.drew ?_ | with_reducible refine Up.alloc ?_ _ | with_reducible refine Up.setCell ?_ (by first | omega | (simp; done) | (simp; omega)) _ | with_reducible refine Up.trans ?_ (by assumption))) hK (Nat.le_refl _) (Up.get (w := w1) (by repeat (first | with_reducible exact Up.refl _ | with_reducible assumption | with_reducible refine Up.drewN ?_ _ | with_reducible refine Up.drew ?_ | with_reducible refine Up.alloc ?_ _ | with_reducible refine Up.setCell ?_ (by first | omega | (simp; done) | (simp; omega)) _ | with_reducible refine Up.trans ?_ (by assumption))) B3.out); have a0 := cell_of s0 0; have a1 := cell_of s0 1; have a2 := cell_of s0 2; have f0 := ice_of s0 0; have f1 := ice_of s0 1; have f2 := ice_of s0 2; have a4 := lt_of_heap s0; (try simp only [World.size_alloc, List.getElem?_toArray, List.getElem?_cons_zero, List.getElem?_cons_succ] at a0 a1 a2 f0 f1 f2 a4); clear s0; have s0 := Showed.own hh.out.at_ (by repeat (first | with_reducible exact Up.refl _ | with_reducible assumption | with_reducible refine Up.drewN ?_ _ | with_reducible refine Up.drew ?_ | with_reducible refine Up.alloc ?_ _ | with_reducible refine Up.setCell ?_ (by first | omega | (simp; done) | (simp; omega)) _ | with_reducible refine Up.trans ?_ (by assumption))) hK (x := w.heap.size + 1) (by omega) (Up.get (w := w1) (by repeat (first | with_reducible exact Up.refl _ | with_reducible assumption | with_reducible refine Up.drewN ?_ _ | with_reducible refine Up.drew ?_ | with_reducible refine Up.alloc ?_ _ | with_reducible refine Up.setCell ?_ (by first | omega | (simp; done) | (simp; omega)) _ | with_reducible refine Up.trans ?_ (by assumption))) B4.out); have a0 := cell_of s0 0; have a1 := cell_of s0 1; have a2 := cell_of s0 2; have f0 := ice_of s0 0; have f1 := ice_of s0 1; have f2 := ice_of s0 2; have a4 := lt_of_heap s0; (try simp only [World.size_alloc, List.getElem?_toArray, List.getElem?_cons_zero, List.getElem?_cons_succ] at a0 a1 a2 f0 f1 f2 a4); clear s0))
  go_wp2_with fail
  refine ⟨_, results_tmp rfl _ _ _, rfl, hS, ?_⟩
  exact (Showed.of_up ((by repeat (first | with_reducible exact Up.refl _ | with_reducible assumption | with_reducible refine Up.drewN ?_ _ | with_reducible refine Up.drew ?_ | with_reducible refine Up.alloc ?_ _ | with_reducible refine Up.setCell ?_ (by first | omega | (simp; done) | (simp; omega)) _ | with_reducible refine Up.trans ?_ (by assumption)))) hh.out.at_.lt).trans hK

set_option maxRecDepth 100000 in
set_option maxHeartbeats 4000000 in
theorem value_none (B sb : Nat) (hv : Value) (H : HM) (tvs : List Value) (own : Own) (bs : List UInt8) (k n d : Int) (hk : (k == 4) = false) (hn : k = 5 → H.there n = false) (s : ByteArray) (w : World) (h : ShowIn B sb hv H tvs own bs w) (ht : k = 3 → (0 ≤ n ∧ n < 100) ∨ Tab w) :
    Calls Tryz.prog 36 #[.pointer (some ⟨sb, 0, none⟩), .agg #[.int .i64 k, .int .i64 n, .string s], .int .i64 d] w (Shown B sb hv (say bs (textOf ⟨k, n, s⟩)) w) := by
  have hh := Lib.hid h
  obtain ⟨p0, v0, hsb0, _⟩ := h.at_.there
  have c0 := cell_of hsb0 0
  simp only [List.getElem?_toArray, List.getElem?_cons_zero] at c0
  have hlt := h.at_.lt
  have HN := Lib.hid hn
  have HT := Lib.hid ht
  clear h hsb0 hn ht
  have c1 : ∀ o1 o2 o3, (((w.alloc o1).alloc o2).alloc o3).cell? ⟨sb, 0, none⟩ = some hv := fun o1 o2 o3 => (Up.cells (show Up w (((w.alloc o1).alloc o2).alloc o3) from (by repeat (first | with_reducible exact Up.refl _ | with_reducible assumption | with_reducible refine Up.drewN ?_ _ | with_reducible refine Up.drew ?_ | with_reducible refine Up.alloc ?_ _ | with_reducible refine Up.setCell ?_ (by first | omega | (simp; done) | (simp; omega)) _ | with_reducible refine Up.trans ?_ (by assumption)))) sb 0 hlt).trans c0
  refine callsIn_wide.1 (callsIn_of_wp_marks (n := 2) Tryz.func36 rfl trivial ?_)
  refine wpIn_wide.2 ?_
  simp only [Tryz.ntmps36, List.size_toArray, List.length_cons, List.length_nil, Nat.reduceAdd, Nat.reduceSub, Array.replicate_succ, Array.replicate_zero, List.push_toArray, List.append_toArray, List.nil_append, List.cons_append]
  go_wp2_with fail
  refine wp_scope_straight ?_
  go_wp2_with fail
  go_region_held3 (fun W => W.cell? ⟨w.heap.size, 0, none⟩ = some (.pointer (some ⟨sb, 0, none⟩)) ∧ W.cell? ⟨sb, 0, none⟩ = some hv ∧ W.cell? ⟨w.heap.size + 1, 0, none⟩ = some (.int .i64 k) ∧ W.cell? ⟨w.heap.size + 1, 1, none⟩ = some (.int .i64 n) ∧ W.cell? ⟨w.heap.size + 1, 2, none⟩ = some (.string s)) (go_keep) (first | (go_at_call 40; refine (thing_none hv H tvs own _ _ _ _ (hh.out.heap.up (by repeat (first | with_reducible exact Up.refl _ | with_reducible assumption | with_reducible refine Up.drewN ?_ _ | with_reducible refine Up.drew ?_ | with_reducible refine Up.alloc ?_ _ | with_reducible refine Up.setCell ?_ (by first | omega | (simp; done) | (simp; omega)) _ | with_reducible refine Up.trans ?_ (by assumption)))) HN.out).mono ?_; rintro e w1 ⟨rfl, hu⟩; have s0 := hu.get (Up.get (by repeat (first | with_reducible exact Up.refl _ | with_reducible assumption | with_reducible refine Up.drewN ?_ _ | with_reducible refine Up.drew ?_ | with_reducible refine Up.alloc ?_ _ | with_reducible refine Up.setCell ?_ (by first | omega | (simp; done) | (simp; omega)) _ | with_reducible refine Up.trans ?_ (by assumption))) (alloc_get w _)); have B3 := Lib.hid s0; have a0 := cell_of s0 0; have a1 := cell_of s0 1; have a2 := cell_of s0 2; have f0 := ice_of s0 0; have f1 := ice_of s0 1; have f2 := ice_of s0 2; have a4 := lt_of_heap s0; (try simp only [World.size_alloc, List.getElem?_toArray, List.getElem?_cons_zero, List.getElem?_cons_succ] at a0 a1 a2 f0 f1 f2 a4); clear s0; have s0 := hu.get (Up.get (by repeat (first | with_reducible exact Up.refl _ | with_reducible assumption | with_reducible refine Up.drewN ?_ _ | with_reducible refine Up.drew ?_ | with_reducible refine Up.alloc ?_ _ | with_reducible refine Up.setCell ?_ (by first | omega | (simp; done) | (simp; omega)) _ | with_reducible refine Up.trans ?_ (by assumption))) (alloc_get (w.alloc _) _)); simp only [World.size_alloc] at s0; have B4 := Lib.hid s0; have a0 := cell_of s0 0; have a1 := cell_of s0 1; have a2 := cell_of s0 2; have f0 := ice_of s0 0; have f1 := ice_of s0 1; have f2 := ice_of s0 2; have a4 := lt_of_heap s0; (try simp only [World.size_alloc, List.getElem?_toArray, List.getElem?_cons_zero, List.getElem?_cons_succ] at a0 a1 a2 f0 f1 f2 a4); clear s0; have s0 := hu.get (Up.get (by repeat (first | with_reducible exact Up.refl _ | with_reducible assumption | with_reducible refine Up.drewN ?_ _ | with_reducible refine Up.drew ?_ | with_reducible refine Up.alloc ?_ _ | with_reducible refine Up.setCell ?_ (by first | omega | (simp; done) | (simp; omega)) _ | with_reducible refine Up.trans ?_ (by assumption))) (alloc_get ((w.alloc _).alloc _) _)); simp only [World.size_alloc] at s0; have B5 := Lib.hid s0; have a0 := cell_of s0 0; simp only [List.getElem?_toArray, List.getElem?_cons_zero] at a0; clear s0; have z0 := (hu.cells sb 0 (by simp; omega)); have hw1 : Up w w1 := (by repeat (first | with_reducible exact Up.refl _ | with_reducible assumption | with_reducible refine Up.drewN ?_ _ | with_reducible refine Up.drew ?_ | with_reducible refine Up.alloc ?_ _ | with_reducible refine Up.setCell ?_ (by first | omega | (simp; done) | (simp; omega)) _ | with_reducible refine Up.trans ?_ (by assumption)))))
  clear c1
  go_wp2_with fail
  go_region_held3 (fun W => W.cell? ⟨w.heap.size, 0, none⟩ = some (.pointer (some ⟨sb, 0, none⟩)) ∧ W.cell? ⟨w.heap.size + 1, 0, none⟩ = some (.int .i64 k) ∧ W.cell? ⟨w.heap.size + 1, 1, none⟩ = some (.int .i64 n) ∧ W.cell? ⟨w.heap.size + 1, 2, none⟩ = some (.string s)) (go_keep) (first | (go_at_call 58; refine (vtext k n s _ (fun e => (HT.out e).imp id fun h => h.up (by repeat (first | with_reducible exact Up.refl _ | with_reducible assumption | with_reducible refine Up.drewN ?_ _ | with_reducible refine Up.drew ?_ | with_reducible refine Up.alloc ?_ _ | with_reducible refine Up.setCell ?_ (by first | omega | (simp; done) | (simp; omega)) _ | with_reducible refine Up.trans ?_ (by assumption))))).mono ?_; rintro e w2 ⟨rfl, hu2⟩; have s0 := hu2.get B3.out; have a0 := cell_of s0 0; have a1 := cell_of s0 1; have a2 := cell_of s0 2; have f0 := ice_of s0 0; have f1 := ice_of s0 1; have f2 := ice_of s0 2; have a4 := lt_of_heap s0; (try simp only [World.size_alloc, List.getElem?_toArray, List.getElem?_cons_zero, List.getElem?_cons_succ] at a0 a1 a2 f0 f1 f2 a4); clear s0; have s0 := hu2.get B4.out; have a0 := cell_of s0 0; have a1 := cell_of s0 1; have a2 := cell_of s0 2; have f0 := ice_of s0 0; have f1 := ice_of s0 1; have f2 := ice_of s0 2; have a4 := lt_of_heap s0; (try simp only [World.size_alloc, List.getElem?_toArray, List.getElem?_cons_zero, List.getElem?_cons_succ] at a0 a1 a2 f0 f1 f2 a4); clear s0) | (go_at_call 56; refine (says_any B sb hv bs (textOf ⟨k, n, s⟩) _ (hh.out.at_.up (by repeat (first | with_reducible exact Up.refl _ | with_reducible assumption | with_reducible refine Up.drewN ?_ _ | with_reducible refine Up.drew ?_ | with_reducible refine Up.alloc ?_ _ | with_reducible refine Up.setCell ?_ (by first | omega | (simp; done) | (simp; omega)) _ | with_reducible refine Up.trans ?_ (by assumption)))) hh.out.len).mono ?_; rintro e w3 ⟨rfl, hS, hK⟩; have s0 := Showed.own hh.out.at_ (by repeat (first | with_reducible exact Up.refl _ | with_reducible assumption | with_reducible refine Up.drewN ?_ _ | with_reducible refine Up.drew ?_ | with_reducible refine Up.alloc ?_ _ | with_reducible refine Up.setCell ?_ (by first | omega | (simp; done) | (simp; omega)) _ | with_reducible refine Up.trans ?_ (by assumption))) hK (Nat.le_refl _) (Up.get (w := w1) (by repeat (first | with_reducible exact Up.refl _ | with_reducible assumption | with_reducible refine Up.drewN ?_ _ | with_reducible refine Up.drew ?_ | with_reducible refine Up.alloc ?_ _ | with_reducible refine Up.setCell ?_ (by first | omega | (simp; done) | (simp; omega)) _ | with_reducible refine Up.trans ?_ (by assumption))) B3.out); have a0 := cell_of s0 0; have a1 := cell_of s0 1; have a2 := cell_of s0 2; have f0 := ice_of s0 0; have f1 := ice_of s0 1; have f2 := ice_of s0 2; have a4 := lt_of_heap s0; (try simp only [World.size_alloc, List.getElem?_toArray, List.getElem?_cons_zero, List.getElem?_cons_succ] at a0 a1 a2 f0 f1 f2 a4); clear s0; have s0 := Showed.own hh.out.at_ (by repeat (first | with_reducible exact Up.refl _ | with_reducible assumption | with_reducible refine Up.drewN ?_ _ | with_reducible refine Up.drew ?_ | with_reducible refine Up.alloc ?_ _ | with_reducible refine Up.setCell ?_ (by first | omega | (simp; done) | (simp; omega)) _ | with_reducible refine Up.trans ?_ (by assumption))) hK (x := w.heap.size + 1) (by omega) (Up.get (w := w1) (by repeat (first | with_reducible exact Up.refl _ | with_reducible assumption | with_reducible refine Up.drewN ?_ _ | with_reducible refine Up.drew ?_ | with_reducible refine Up.alloc ?_ _ | with_reducible refine Up.setCell ?_ (by first | omega | (simp; done) | (simp; omega)) _ | with_reducible refine Up.trans ?_ (by assumption))) B4.out); have a0 := cell_of s0 0; have a1 := cell_of s0 1; have a2 := cell_of s0 2; have f0 := ice_of s0 0; have f1 := ice_of s0 1; have f2 := ice_of s0 2; have a4 := lt_of_heap s0; (try simp only [World.size_alloc, List.getElem?_toArray, List.getElem?_cons_zero, List.getElem?_cons_succ] at a0 a1 a2 f0 f1 f2 a4); clear s0))
  go_wp2_with fail
  refine ⟨_, results_tmp rfl _ _ _, rfl, hS, ?_⟩
  exact (Showed.of_up ((by repeat (first | with_reducible exact Up.refl _ | with_reducible assumption | with_reducible refine Up.drewN ?_ _ | with_reducible refine Up.drew ?_ | with_reducible refine Up.alloc ?_ _ | with_reducible refine Up.setCell ?_ (by first | omega | (simp; done) | (simp; omega)) _ | with_reducible refine Up.trans ?_ (by assumption)))) hh.out.at_.lt).trans hK

end Go.Proofs.YtmbipadiaggolaaGreatDoor
