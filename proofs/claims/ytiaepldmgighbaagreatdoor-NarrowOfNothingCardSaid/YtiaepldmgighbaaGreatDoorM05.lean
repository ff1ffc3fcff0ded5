import Derived.Orders
import Derived.Test.YtiaepldmgighbaaGreatDoorM02
namespace Go.Proofs.YtiaepldmgighbaaGreatDoor
open Go.RowKit
def waitsBack (ops : Array Oper) : Bool := (List.range ops.size).all fun j => match ops[j]? with | some o => o.after.all fun e => decide (e.on < j) | none => true
theorem waitsBack_spec {ops : Array Oper} (h : waitsBack ops = true) {j : Nat} {o : Oper} (hj : ops[j]? = some o) : ∀ e ∈ o.after, e.on < j := fun e he => by
 have hlt : j < ops.size := (Array.getElem?_eq_some_iff.1 hj).1
 have q := List.all_eq_true.1 h j (List.mem_range.2 hlt)
 rw [hj] at q
 have q2 := Array.all_eq_true'.1 q e he
 exact of_decide_eq_true q2
theorem wpAny_inv {P : Program} {md : Region.Mode} {ops : Array Oper} {Q : Exit → Act → World → Prop} (Inv : Array Bool → Act → World → Prop) (hb : waitsBack ops = true) (hz : ∀ l a w, Inv l a w → l.size = ops.size)
   (hd : ∀ l a w, Inv l a w → (∀ i, i < ops.size → l.getD i true = true) → Q .normal a w)
   (hs : ∀ l a w, Inv l a w → ∀ i o, i < ops.size → ops[i]? = some o → l.getD i true = false → (∀ e ∈ o.after, Region.binds md e = true → l.getD e.on false = true) → wpOp P ops Q i (Inv (l.setIfInBounds i true)) a w) :
   ∀ (fuel : Nat) (l : Array Bool) (a : Act) (w : World), Inv l a w → l.toList.count false ≤ fuel → wpAny P md ops Q fuel l a w := by
 have hall : ∀ (l : Array Bool), l.size = ops.size → Region.ready md ops l = [] → ∀ i, i < ops.size → l.getD i true = true := by
   intro l hl hr i
   induction i using Nat.strongRecOn with
   | ind i ih =>
     intro hi
     cases hv : l.getD i true with
     | true => rfl
     | false =>
       exfalso
       have hm : i ∈ Region.ready md ops l := mem_ready.2 ⟨hv, _, Array.getElem?_eq_getElem hi, fun e he _ => by
         have hlt := waitsBack_spec hb (Array.getElem?_eq_getElem hi) e he
         have q := ih e.on hlt (by omega)
         have hs2 : e.on < l.size := by omega
         rw [Array.getD_eq_getD_getElem?, Array.getElem?_eq_getElem hs2] at q ⊢
         exact q⟩
       rw [hr] at hm
       cases hm
 intro fuel
 induction fuel with
 | zero =>
   intro l a w hI hc
   have hr : Region.ready md ops l = [] := by
     cases hq : Region.ready md ops l with
     | nil => rfl
     | cons i r =>
       exfalso
       have hm : i ∈ Region.ready md ops l := by rw [hq]; simp
       obtain ⟨h1, _⟩ := mem_ready.1 hm
       have hn : l.toList.count false = 0 := by omega
       rw [List.count_eq_zero] at hn
       rcases Nat.lt_or_ge i l.size with h' | h'
       · rw [Array.getD_eq_getD_getElem?, Array.getElem?_eq_getElem h'] at h1
         simp only [Option.getD_some] at h1
         exact hn (by rw [← h1]; simp)
       · rw [Array.getD_eq_getD_getElem?, Array.getElem?_eq_none h'] at h1
         cases h1
   exact ⟨hr, hd _ _ _ hI (hall l (hz _ _ _ hI) hr)⟩
 | succ fuel ih =>
   intro l a w hI hc
   refine ⟨fun hr => hd _ _ _ hI (hall l (hz _ _ _ hI) hr), fun i hi => ?_⟩
   obtain ⟨h1, o, ho, h2⟩ := mem_ready.1 hi
   have hil : i < ops.size := (Array.getElem?_eq_some_iff.1 ho).1
   refine wpOp_mono (fun a' w' h => ih _ _ _ h ?_) (hs l a w hI i o hil ho h1 h2)
   have hsz := hz _ _ _ hI
   have hil2 : i < l.size := by omega
   have e1 : l.toList[i]? = some false := by
     rw [Array.getD_eq_getD_getElem?, Array.getElem?_eq_getElem hil2] at h1
     rw [Array.getElem?_toList, Array.getElem?_eq_getElem hil2]
     simpa using h1
   have e2 : (l.setIfInBounds i true).toList = l.toList.set i true := by simp
   rw [e2]
   have hlen : i < l.toList.length := by simpa using hil2
   have e3 := List.count_set (a := true) (b := false) (l := l.toList) (i := i) hlen
   have e4 : l.toList[i] = false := by
     have := List.getElem?_eq_some_iff.1 e1
     exact this.2
   rw [e4] at e3
   rw [e3]
   have e5 : (true == false) = false := rfl
   simp only [e5, beq_self_eq_true, if_true, Bool.false_eq_true, if_false]
   omega
theorem wp_region_inv {P : Program} {id : Nat} {Q : Exit → Act → World → Prop} {a : Act} {w : World} {ls : List Oper} (Inv : Array Bool → Act → World → Prop) (hm : P.follows .mixedOrders = true) (hb : waitsBack ls.toArray = true)
   (h0 : Inv (Array.replicate ls.length false) a w.drew) (hz : ∀ l a w, Inv l a w → l.size = ls.length)
   (hd : ∀ l a w, Inv l a w → (∀ i, i < ls.length → l.getD i true = true) → Q .normal a w)
   (hs : ∀ l a w, Inv l a w → ∀ i o, i < ls.length → ls[i]? = some o → l.getD i true = false → (∀ e ∈ o.after, Region.binds .any e = true → l.getD e.on false = true) → wpOp P ls.toArray Q i (Inv (l.setIfInBounds i true)) a w) :
   (Code.region id ls.toArray true).wp P Q a w :=
 wp_region_any hm (wpAny_inv Inv hb (fun l a w h => by rw [hz l a w h]; simp) (fun l a w h k => hd l a w h (fun i hi => k i (by simpa using hi))) (fun l a w h i o hi ho => hs l a w h i o (by simpa using hi) (by simpa using ho)) _ _ _ _ (by simpa using h0) (by
   have : (Array.replicate ls.toArray.size false).toList.count false ≤ (Array.replicate ls.toArray.size false).toList.length := List.count_le_length
   exact Nat.le_trans this (by simp)))
structure RUp (w : World) where
 W : World
 up : Up w W
instance (w : World) : Nonempty (RUp w) := ⟨⟨w, Up.refl w⟩⟩
theorem wp_region_rup {P : Program} {id : Nat} {Q : Exit → Act → World → Prop} {a : Act} {w : World} {l : List Oper} (hm : P.follows .mixedOrders = true) (hB : Region.lexB .any l.toArray = true)
   (h : wpQuiet P l.toArray (fun w' => ∃ i : RUp w, w' = i.W) (fun a' => ∀ w', (∃ i : RUp w, w' = i.W) → Q .normal a' w') l a) : (Code.region id l.toArray true).wp P Q a w :=
 wp_region_quiet (C := fun w' => ∃ i : RUp w, w' = i.W) hm hB ⟨⟨_, (Up.refl w).drew⟩, rfl⟩ (by simpa using h)
theorem Calls.rup_of {P : Program} {f : FuncId} {args : Array Value} {w : World} (i : RUp w) {v : Value} (h : Calls P f args i.W fun e w' => e = .returned v ∧ Up i.W w') : Calls P f args i.W fun e w'' => e = .returned v ∧ ∃ j : RUp w, w'' = j.W :=
 h.mono fun _ w' ⟨he, hu⟩ => ⟨he, ⟨w', i.up.trans hu⟩, rfl⟩
end Go.Proofs.YtiaepldmgighbaaGreatDoor
