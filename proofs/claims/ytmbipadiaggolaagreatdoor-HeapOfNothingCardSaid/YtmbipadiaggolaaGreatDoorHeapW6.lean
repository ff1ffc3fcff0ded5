import Derived.Test.YtmbipadiaggolaaGreatDoorHeapW5
import Derived.Test.YtmbipadiaggolaaGreatDoorKept
/- Walks: set, Set. -/
namespace Go.Proofs.YtmbipadiaggolaaGreatDoor
open Go.RowKit
attribute [local go_sem] ta_aa ta_ao ta_an ta_oa ta_oo ta_on m_kind_a m_kind_o m_behind_a m_behind_o m_own_a m_own_o valV

def SetHit (w : World) (g : Nat) (l : List (ByteArray × Val)) (e : Ending) (w' : World) : Prop := e = .returned (.tuple #[]) ∧ ∃ W es' clk', Up w W ∧ w' = putB W g (.map es' clk') ∧ Entries es' Value.string valV l

def SetMiss (w : World) (b g : Nat) (kv : Value) (n : Nat) (ks : List Value) (l : List (ByteArray × Val)) (e : Ending) (w' : World) : Prop :=
  e = .returned (.tuple #[]) ∧ ∃ W W2 sa cap es' clk', Up w W ∧ W2.ownsRow 0 9 1 (.slice sa n cap) n ks ∧ W.grownBy W2 kv.ownBlock ∧
    ((Value.slice sa n cap).ownBlock = kv.ownBlock ∨ ∃ g, (Value.slice sa n cap).ownBlock = some g ∧ W.heap.size ≤ g) ∧ w' = putB ((W2.setCell ⟨b, 1, none⟩ (.slice sa n cap)).drew) g (.map es' clk') ∧ Entries es' Value.string valV l

set_option maxRecDepth 100000 in
/-- a member that is there is set -/
theorem set_hit (b : Nat) (s : ByteArray) (x : Val) (w : World) (g clk : Nat) (es : Array MapEntry) (kv : Value) (l : List (ByteArray × Val)) (j : Nat) (y : Val)
    (hc : w.heap[b]? = some (.cells #[.map (some g), kv] 94 (0, 0))) (hg : w.heap[g]? = some (.map es clk)) (hes : Entries es Value.string valV l) (hn : (l.map (·.1)).Nodup) (hj : l[j]? = some (s, y)) :
    Calls Tryz.prog 45 #[.pointer (some ⟨b, 0, none⟩), .string s, .agg #[.int .i64 (x).k, .int .i64 (x).n, .string (x).s]] w (SetHit w g (l.set j (s, x))) := by
  have HX := Lib.hid (And.intro hc (And.intro hg (And.intro hes (And.intro hn hj))))
  have a0 := cell_of hc 0
  have a1 := cell_of hc 1
  have a2 := ice_of hc 1
  have a3 := lt_of_heap hc
  have a4 := lt_of_heap hg
  simp only [List.getElem?_toArray, List.getElem?_cons_zero, List.getElem?_cons_succ] at a0 a1
  have hne : ∀ w, (binOp .eql 91 (.map (some g)) (.map none)).run Tryz.prog w = .ok (.bool false) w := fun _ => by kernel_rfl
  clear hc hg hes hn hj
  go_enter Tryz.func45, Tryz.ntmps45
  go_wp2_with (first | (at_lookup; go_must (refine wpList_lookup rfl rfl (run_lookup_hit Tryz.underlying91 Tryz.underlying9 strKeys (Up.get (by repeat (first | with_reducible exact Up.refl _ | with_reducible assumption | with_reducible refine Up.drewN ?_ _ | with_reducible refine Up.drew ?_ | with_reducible refine Up.alloc ?_ _ | with_reducible refine Up.setCell ?_ (by first | omega | (simp; done) | (simp; omega)) _ | with_reducible refine Up.trans ?_ (by assumption))) HX.out.2.1) HX.out.2.2.1 s y j HX.out.2.2.2.2 HX.out.2.2.2.1).1 ?_)))
  (refine wp_region_tail 6 (by kernel_rfl) (by kernel_rfl) ?_; simp only [List.take_succ_cons, List.take_zero, List.drop_succ_cons, List.drop_zero]; (repeat still_step); refine wpStill_nil ?_)
  refine wpList_update rfl rfl (run_store_hit Tryz.underlying91 Tryz.underlying9 strKeys (Up.get (by repeat (first | with_reducible exact Up.refl _ | with_reducible assumption | with_reducible refine Up.drewN ?_ _ | with_reducible refine Up.drew ?_ | with_reducible refine Up.alloc ?_ _ | with_reducible refine Up.setCell ?_ (by first | omega | (simp; done) | (simp; omega)) _ | with_reducible refine Up.trans ?_ (by assumption))) HX.out.2.1) HX.out.2.2.1 s x y j HX.out.2.2.2.2 HX.out.2.2.2.1) ?_
  intro es' clk' hes'
  go_wp2
  go_end0
  exact ⟨rfl, _, es', clk', (by repeat (first | with_reducible exact Up.refl _ | with_reducible assumption | with_reducible refine Up.drewN ?_ _ | with_reducible refine Up.drew ?_ | with_reducible refine Up.alloc ?_ _ | with_reducible refine Up.setCell ?_ (by first | omega | (simp; done) | (simp; omega)) _ | with_reducible refine Up.trans ?_ (by assumption))), rfl, hes'⟩

set_option maxRecDepth 100000 in
/-- a member is laid into a map that is there -/
theorem set_miss (b : Nat) (s : ByteArray) (x : Val) (w : World) (g clk : Nat) (es : Array MapEntry) (kv : Value) (l : List (ByteArray × Val))
    (hc : w.heap[b]? = some (.cells #[.map (some g), kv] 94 (0, 0))) (hg : w.heap[g]? = some (.map es clk)) (hes : Entries es Value.string valV l) (hm : ∀ x ∈ l, x.1 ≠ s)
    (hrow : w.ownsRow 0 9 1 kv l.length (keysOf l)) (hlen : l.length ≤ 1048576) (hgk : kv.ownBlock ≠ some g) (hbk : kv.ownBlock ≠ some b) :
    Calls Tryz.prog 45 #[.pointer (some ⟨b, 0, none⟩), .string s, .agg #[.int .i64 (x).k, .int .i64 (x).n, .string (x).s]] w (SetMiss w b g kv (l.length + 1) (keysOf l ++ [.string s]) (l ++ [(s, x)])) := by
  have HX := Lib.hid (And.intro hc (And.intro hg (And.intro hes (And.intro hm (And.intro hrow (And.intro hgk hbk))))))
  have a0 := cell_of hc 0
  have a1 := cell_of hc 1
  have a2 := ice_of hc 1
  have a3 := lt_of_heap hc
  have a4 := lt_of_heap hg
  simp only [List.getElem?_toArray, List.getElem?_cons_zero, List.getElem?_cons_succ] at a0 a1
  have hne : ∀ w, (binOp .eql 91 (.map (some g)) (.map none)).run Tryz.prog w = .ok (.bool false) w := fun _ => by kernel_rfl
  obtain ⟨i0, hi, hz0, hz1, hz2⟩ := info_parts str_info
  obtain ⟨sa0, cap0, rfl⟩ := ownsRow_form hrow
  clear hc hg hes hm hrow hgk hbk
  go_enter Tryz.func45, Tryz.ntmps45
  go_wp2_with (first | (at_lookup; go_must (refine wpList_lookup rfl rfl (run_lookup_miss Tryz.underlying91 Tryz.underlying9 strKeys (zero_val _) (Up.get (by repeat (first | with_reducible exact Up.refl _ | with_reducible assumption | with_reducible refine Up.drewN ?_ _ | with_reducible refine Up.drew ?_ | with_reducible refine Up.alloc ?_ _ | with_reducible refine Up.setCell ?_ (by first | omega | (simp; done) | (simp; omega)) _ | with_reducible refine Up.trans ?_ (by assumption))) HX.out.2.1) HX.out.2.2.1 s HX.out.2.2.2.1).1 ?_)) | (at_builtin; go_must (refine wpList_append_new rfl _ _ 92 rfl 9 i0 (.string ⟨#[]⟩) 1 16 Tryz.underlying92 hi hz0 hz1 hz2 rfl (by decide) (.slice sa0 l.length cap0) l.length (keysOf l) rfl (ownsRow_up HX.out.2.2.2.2.1 (by repeat (first | with_reducible exact Up.refl _ | with_reducible assumption | with_reducible refine Up.drewN ?_ _ | with_reducible refine Up.drew ?_ | with_reducible refine Up.alloc ?_ _ | with_reducible refine Up.setCell ?_ (by first | omega | (simp; done) | (simp; omega)) _ | with_reducible refine Up.trans ?_ (by assumption)))) _ 1 1 rfl ?_ rfl ?_ ?_ ?_ ?_; (simp only [World.size_alloc]); simp [Value.oneCell']; (unfold maxLen; omega); omega; intro sa' cap' w2 hown' hgrow hblk; simp only [World.size_alloc] at hblk; have hd := grown_get hgrow (Up.get (by repeat (first | with_reducible exact Up.refl _ | with_reducible assumption | with_reducible refine Up.drewN ?_ _ | with_reducible refine Up.drew ?_ | with_reducible refine Up.alloc ?_ _ | with_reducible refine Up.setCell ?_ (by first | omega | (simp; done) | (simp; omega)) _ | with_reducible refine Up.trans ?_ (by assumption))) HX.out.1) HX.out.2.2.2.2.2.2; have hbx := grown_get hgrow (Up.get (w := w.alloc (.cells #[.int .i64 x.k, .int .i64 x.n, .string x.s] 34)) (by repeat (first | with_reducible exact Up.refl _ | with_reducible assumption | with_reducible refine Up.drewN ?_ _ | with_reducible refine Up.drew ?_ | with_reducible refine Up.alloc ?_ _ | with_reducible refine Up.setCell ?_ (by first | omega | (simp; done) | (simp; omega)) _ | with_reducible refine Up.trans ?_ (by assumption))) (alloc_get _ _)) (ownsRow_ne HX.out.2.2.2.2.1 (Nat.le_refl _)); have hmp := Lib.hid (grown_get hgrow (Up.get (by repeat (first | with_reducible exact Up.refl _ | with_reducible assumption | with_reducible refine Up.drewN ?_ _ | with_reducible refine Up.drew ?_ | with_reducible refine Up.alloc ?_ _ | with_reducible refine Up.setCell ?_ (by first | omega | (simp; done) | (simp; omega)) _ | with_reducible refine Up.trans ?_ (by assumption))) HX.out.2.1) HX.out.2.2.2.2.2.1); have HY := Lib.hid (And.intro hown' (And.intro hgrow hblk)); clear hown' hgrow hblk; have c0 := cell_of hd 0; have c1 := cell_of hd 1; have c2 := ice_of hd 1; have c3 := lt_of_heap hd; have c4 := cell_of hbx 0; have c5 := cell_of hbx 1; have c6 := cell_of hbx 2; simp only [List.getElem?_toArray, List.getElem?_cons_zero, List.getElem?_cons_succ] at c0 c1 c4 c5 c6; clear hd hbx)))
  (refine wp_region_tail 6 (by kernel_rfl) (by kernel_rfl) ?_; simp only [List.take_succ_cons, List.take_zero, List.drop_succ_cons, List.drop_zero]; (repeat still_step); refine wpStill_nil ?_)
  refine wpList_update rfl rfl (run_store_miss Tryz.underlying91 Tryz.underlying9 strKeys (show ((w2.setCell ⟨b, 1, none⟩ (.slice sa' (l.length + 1) cap')).drew).heap[g]? = some (.map es clk) from by
    show (w2.setCell ⟨b, 1, none⟩ (.slice sa' (l.length + 1) cap')).heap[g]? = _
    rw [setCell_other (fun e => by
      have h1 := HX.out.1
      have h2 := HX.out.2.1
      rw [e, h1] at h2
      cases h2)]
    exact hmp.out) HX.out.2.2.1 s x HX.out.2.2.2.1) ?_
  intro es' clk' hes'
  go_wp2
  go_end0
  obtain ⟨hown', hgrow, hblk⟩ := HY.out
  exact ⟨rfl, _, w2, sa', cap', es', clk', (by repeat (first | with_reducible exact Up.refl _ | with_reducible assumption | with_reducible refine Up.drewN ?_ _ | with_reducible refine Up.drew ?_ | with_reducible refine Up.alloc ?_ _ | with_reducible refine Up.setCell ?_ (by first | omega | (simp; done) | (simp; omega)) _ | with_reducible refine Up.trans ?_ (by assumption))), hown', hgrow, (by simpa only [World.size_alloc] using hblk), rfl, hes'⟩


def setSlot (l : List (ByteArray × Val)) (s : ByteArray) (x : Val) : List (ByteArray × Val) :=
  match l.findIdx? (fun y => decide (y.1 = s)) with
  | some j => l.set j (s, x)
  | none => l ++ [(s, x)]

theorem setSlot_miss {l : List (ByteArray × Val)} {s : ByteArray} (x : Val) (h : ∀ y ∈ l, y.1 ≠ s) : setSlot l s x = l ++ [(s, x)] := by
  unfold setSlot
  rw [List.findIdx?_eq_none_iff.2 (fun y hy => by simpa using h y hy)]

theorem setSlot_hit {l : List (ByteArray × Val)} {s : ByteArray} {j : Nat} {y : Val} (x : Val) (hn : (l.map (·.1)).Nodup) (h : l[j]? = some (s, y)) : setSlot l s x = l.set j (s, x) := by
  have hj : j < l.length := by
    rcases Nat.lt_or_ge j l.length with h' | h'
    · exact h'
    · rw [List.getElem?_eq_none h'] at h; cases h
  have hf : l.findIdx? (fun y => decide (y.1 = s)) = some j := by
    rw [List.findIdx?_eq_some_iff_getElem]
    refine ⟨hj, by rw [List.getElem?_eq_getElem hj] at h; simp at h; simp [h], fun i hi => ?_⟩
    have hil : i < l.length := by omega
    simp only [decide_eq_true_eq]
    intro e
    have a1 : (l.map (·.1))[i]? = some s := by rw [List.getElem?_map, List.getElem?_eq_getElem hil]; simp [e]
    have a2 : (l.map (·.1))[j]? = some s := by rw [List.getElem?_map, h]; simp
    have := (List.getElem?_inj (by simpa using hil) hn).1 (a1.trans a2.symm)
    omega
  unfold setSlot
  rw [hf]

/-- what set ends in -/
def SetDone (own : Own) (tvs : List Value) (i : Nat) (t : Thing) (tv : Value) (w : World) (e : Ending) (w' : World) : Prop :=
  e = .returned (.tuple #[]) ∧ ∃ own', Kept (Of own i) w w' ∧ (∀ b, b < w.heap.size → own' b = own b) ∧ (∀ b m, own' b = some m → b < w'.heap.size ∧ (w.heap.size ≤ b → m.1 = i + 1)) ∧ ThingIs w' own' tvs i t tv

theorem keysOf_append (l : List (ByteArray × Val)) (s : ByteArray) (x : Val) : keysOf (l ++ [(s, x)]) = keysOf l ++ [.string s] := by simp [keysOf]
theorem keysOf_set (l : List (ByteArray × Val)) (s : ByteArray) (x y : Val) (j : Nat) (h : l[j]? = some (s, y)) : keysOf (l.set j (s, x)) = keysOf l := by
  unfold keysOf
  apply List.ext_getElem?
  intro i
  rw [List.getElem?_map, List.getElem?_map, List.getElem?_set]
  by_cases hij : j = i
  · subst hij
    rw [if_pos rfl]
    split
    · rw [h]; rfl
    · rename_i h'
      rw [List.getElem?_eq_none (by omega)] at h; cases h
  · rw [if_neg hij]

/-- where the keys of a thing lie behind an append, and all else of it -/
theorem keys_own {own : Own} {i : Nat} {sa : Option Addr} {n cap : Nat} {kv : Value} {N : Nat} (hkv : ∀ g, kv.ownBlock = some g → own g = some (i + 1, 1)) (hlt : ∀ b m, own b = some m → b < N)
    (hblk : (Value.slice sa n cap).ownBlock = kv.ownBlock ∨ ∃ g, (Value.slice sa n cap).ownBlock = some g ∧ N ≤ g) :
    ∀ b m, own b = some m → (if (Value.slice sa n cap).ownBlock = some b then some (i + 1, 1) else own b) = some m := fun b m hm => by
  by_cases hg : (Value.slice sa n cap).ownBlock = some b
  · rw [if_pos hg]
    rcases hblk with hk | ⟨g, hk, hk'⟩
    · rw [hk] at hg; rw [hkv b hg] at hm; exact hm
    · rw [hk] at hg; cases hg; have := hlt _ _ hm; omega
  · rw [if_neg hg]; exact hm

theorem set_any_hit (own : Own) (tvs : List Value) (i : Nat) (k p : Int) (l : List (ByteArray × Val)) (b : Nat) (kk pp : Value) (s : ByteArray) (x y : Val) (j : Nat) (w : World)
    (hlt : ∀ b m, own b = some m → b < w.heap.size) (h : ThingIs w own tvs i ⟨k, p, l, []⟩ (.iface 96 (.agg #[.pointer (some ⟨b, 0, none⟩), kk, pp]))) (hj : l[j]? = some (s, y)) :
    Calls Tryz.prog 45 #[.pointer (some ⟨b, 0, none⟩), .string s, .agg #[.int .i64 (x).k, .int .i64 (x).n, .string (x).s]] w (SetDone own tvs i ⟨k, p, setSlot l s x, []⟩ (.iface 96 (.agg #[.pointer (some ⟨b, 0, none⟩), kk, pp])) w) := by
  cases h with
  | obj _ _ _ _ mv kv hk hp hpi hb hc hm hr hn =>
    rcases hm with ⟨rfl, rfl⟩ | ⟨g, es, clk, rfl, ho, hg, hes⟩
    · simp at hj
    · refine (set_hit b s x w g clk es kv l j y hc hg hes hn hj).mono ?_
      rintro e w' ⟨rfl, W, es', clk', hu, rfl, hes'⟩
      refine ⟨rfl, own, (Kept.of_up hu).putB (.inl ⟨_, ho, rfl⟩) _, fun _ _ => rfl, fun b m hm => ⟨by rw [putB_size]; exact Nat.lt_of_lt_of_le (hlt b m hm) hu.size, fun h' => by have := hlt b m hm; omega⟩, ?_⟩
      have hgW : g < W.heap.size := Nat.lt_of_lt_of_le (lt_of_heap hg) hu.size
      rw [setSlot_hit x hn hj]
      have hset : ((l.set j (s, x)).map (·.1)) = l.map (·.1) := by
        rw [List.map_set]
        apply List.ext_getElem?
        intro n
        rw [List.getElem?_set]
        by_cases hn' : j = n
        · subst hn'
          rw [if_pos rfl]
          split
          · rw [List.getElem?_map, hj]; rfl
          · rename_i h'; rw [List.getElem?_eq_none (by omega)]
        · rw [if_neg hn']
      refine .obj k p _ b (.map (some g)) kv hk hp hpi hb ?_ (.inr ⟨g, es', clk', rfl, ho, putB_same _ _ _ hgW, hes'⟩) ?_ (by rw [hset]; exact hn)
      · rw [putB_other _ _ _ _ (fun e => by subst e; rw [hb] at ho; cases ho)]
        exact hu.get hc
      · rw [keysOf_set l s x y j hj, List.length_set]
        exact (hr.up hu).keep fun c hc' => ⟨putB_other _ _ _ _ (fun e => by subst e; rw [hc'] at ho; cases ho), rfl⟩

theorem set_any_miss (own : Own) (tvs : List Value) (i : Nat) (k p : Int) (l : List (ByteArray × Val)) (b : Nat) (kk pp : Value) (s : ByteArray) (x : Val) (w : World) (g0 : Nat)
    (hlt : ∀ b m, own b = some m → b < w.heap.size) (kv : Value) (hk : k = 1 ∨ k = 3 ∨ k = 4) (hp : -1 ≤ p) (hpi : p < i) (hb : own b = some (i + 1, 0)) (hc : w.heap[b]? = some (.cells #[.map (some g0), kv] 94 (0, 0))) (hm : MapIs w own (i + 1, 2) (.map (some g0)) l)
    (hr : Row w own (i + 1, 1) 9 1 kv l.length (keysOf l)) (hn : (l.map (·.1)).Nodup) (hlen : l.length ≤ 1048576) (hs : ∀ y ∈ l, y.1 ≠ s) (hkk : kk = .int .i64 k) (hpp : pp = protoV tvs p) :
    Calls Tryz.prog 45 #[.pointer (some ⟨b, 0, none⟩), .string s, .agg #[.int .i64 (x).k, .int .i64 (x).n, .string (x).s]] w (SetDone own tvs i ⟨k, p, setSlot l s x, []⟩ (.iface 96 (.agg #[.pointer (some ⟨b, 0, none⟩), kk, pp])) w) := by
  subst hkk
  subst hpp
  rcases hm with ⟨h', _⟩ | ⟨g, es, clk, h', ho, hg, hes⟩
  · cases h'
  · cases h'
    have hgk : kv.ownBlock ≠ some g0 := fun e => by have := hr.2 _ e; rw [ho] at this; cases this
    have hbk : kv.ownBlock ≠ some b := fun e => by have := hr.2 _ e; rw [hb] at this; cases this
    refine (set_miss b s x w g0 clk es kv l hc hg hes hs hr.1 hlen hgk hbk).mono ?_
    rintro e w' ⟨rfl, W, W2, sa, cap, es', clk', hu, hown, hgrow, hblk, rfl, hes'⟩
    have hszW := hu.size
    have hszG := hgrow.size
    have hltW : ∀ b m, own b = some m → b < W.heap.size := fun b m hm => Nat.lt_of_lt_of_le (hlt b m hm) hszW
    have hsame := keys_own hr.2 hltW hblk
    have hgb : ∀ g', (Value.slice sa (l.length + 1) cap).ownBlock = some g' → own g' = some (i + 1, 1) ∨ W.heap.size ≤ g' := fun g' hg' => by
      rcases hblk with hk | ⟨g1, hk, hk'⟩
      · exact .inl (hr.2 g' (by rw [← hk]; exact hg'))
      · rw [hk] at hg'; cases hg'; exact .inr hk'
    have hgne : ∀ c m, own c = some m → m ≠ (i + 1, 1) → (Value.slice sa (l.length + 1) cap).ownBlock ≠ some c := fun c m hm hne e => by
      rcases hgb c e with h' | h'
      · rw [hm] at h'; cases h'; exact hne rfl
      · have := hltW c m hm; omega
    have hglt : ∀ g', (Value.slice sa (l.length + 1) cap).ownBlock = some g' → g' < W2.heap.size := fun g' hg' => ownBlock_lt hown hg'
    have hsz3 : (putB ((W2.setCell ⟨b, 1, none⟩ (.slice sa (l.length + 1) cap)).drew) g0 (.map es' clk')).heap.size = W2.heap.size := by
      rw [putB_size]; exact setCell_size _ _ _
    have hheap : ∀ c, c ≠ g0 → c ≠ b → (putB ((W2.setCell ⟨b, 1, none⟩ (.slice sa (l.length + 1) cap)).drew) g0 (.map es' clk')).heap[c]? = W2.heap[c]? := fun c h1 h2 => by
      rw [putB_other _ _ _ _ h1]
      exact setCell_other h2 _
    have hg0b : g0 ≠ b := fun e => by subst e; rw [hb] at ho; cases ho
    refine ⟨rfl, fun c => if (Value.slice sa (l.length + 1) cap).ownBlock = some c then some (i + 1, 1) else own c, ?_, ?_, ?_, ?_⟩
    · refine Kept.putB (Kept.drew (Kept.setCell (Kept.grow (Kept.of_up hu) hgrow fun g' hg' => .inl ⟨_, hr.2 g' hg', rfl⟩) (.inl ⟨_, hb, rfl⟩) _)) (.inl ⟨_, ho, rfl⟩) _
    · intro c hc'
      show (if _ then _ else _) = _
      by_cases hg' : (Value.slice sa (l.length + 1) cap).ownBlock = some c
      · rw [if_pos hg']
        rcases hgb c hg' with h' | h'
        · exact h'.symm
        · omega
      · rw [if_neg hg']
    · intro c m hm
      rw [hsz3]
      have hm : (if (Value.slice sa (l.length + 1) cap).ownBlock = some c then some (i + 1, 1) else own c) = some m := hm
      by_cases hg' : (Value.slice sa (l.length + 1) cap).ownBlock = some c
      · rw [if_pos hg'] at hm; cases hm
        exact ⟨hglt c hg', fun _ => rfl⟩
      · rw [if_neg hg'] at hm
        have := hltW c m hm
        have := hlt c m hm
        exact ⟨by omega, fun h' => by omega⟩
    · rw [setSlot_miss x hs]
      refine .obj k p _ b (.map (some g0)) (.slice sa (l.length + 1) cap) hk hp hpi (hsame _ _ hb) ?_ (.inr ⟨g0, es', clk', rfl, hsame _ _ ho, putB_same _ _ _ ?_, hes'⟩) ?_ ?_
      · rw [putB_other _ _ _ _ (fun e => hg0b e.symm)]
        have h5 : W2.heap[b]? = some (.cells #[.map (some g0), kv] 94 (0, 0)) := grown_get hgrow (hu.get hc) hbk
        have := setCell_block (i := 1) h5 (.slice sa (l.length + 1) cap)
        show (W2.setCell ⟨b, 1, none⟩ (.slice sa (l.length + 1) cap)).heap[b]? = _
        simpa using this
      · show g0 < (W2.setCell ⟨b, 1, none⟩ (.slice sa (l.length + 1) cap)).heap.size
        rw [setCell_size]
        have := hltW _ _ ho
        omega
      · rw [keysOf_append, List.length_append, List.length_singleton]
        refine ⟨⟨hown.1, ?_⟩, fun g' hg' => by simp [hg']⟩
        rcases hown.2 with h2 | ⟨g1, cap', cur, hv, hg1, hc1, r⟩
        · exact .inl h2
        · refine .inr ⟨g1, cap', cur, hv, hg1, ?_, r⟩
          have hne1 : ∀ c m, own c = some m → m ≠ (i + 1, 1) → g1 ≠ c := fun c m hm hne e => hgne c m hm hne (by rw [hv, ← e]; rfl)
          rw [hheap g1 (hne1 g0 _ ho (by simp)) (hne1 b _ hb (by simp))]
          exact hc1
      · rw [List.map_append, List.nodup_append]
        refine ⟨hn, by simp, ?_⟩
        intro a ha c hc'
        simp only [List.map_cons, List.map_nil, List.mem_singleton] at hc'
        subst hc'
        obtain ⟨y, hy, rfl⟩ := List.mem_map.1 ha
        exact hs y hy

end Go.Proofs.YtmbipadiaggolaaGreatDoor
