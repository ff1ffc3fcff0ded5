import Derived.Test.YtmbipadiaggolaaGreatDoorHeapW6
/- Walks: the first member of a thing; Set. -/
namespace Go.Proofs.YtmbipadiaggolaaGreatDoor
open Go.RowKit
attribute [local go_sem] ta_aa ta_ao ta_an ta_oa ta_oo ta_on m_kind_a m_kind_o m_behind_a m_behind_o m_own_a m_own_o valV

theorem alloc_at (W : World) (o : Obj) (n : Nat) (h : n = W.heap.size) : (W.alloc o).heap[n]? = some o := by subst h; exact alloc_get _ _

def SetFirst (w : World) (b : Nat) (kv : Value) (s : ByteArray) (x : Val) (e : Ending) (w' : World) : Prop :=
  e = .returned (.tuple #[]) ∧ ∃ (W W2 : World) (sa : Option Addr) (cap : Nat) (es' : Array MapEntry) (clk' : Nat), Kept (· = b) w W ∧ w.heap.size < W.heap.size ∧
    W.heap[b]? = some (.cells #[.map (some (w.heap.size + 1)), kv] 94 (0, 0)) ∧ W.heap[w.heap.size + 1]? = some (.map #[] 0) ∧
    W2.ownsRow 0 9 1 (.slice sa 1 cap) 1 [.string s] ∧ W.grownBy W2 kv.ownBlock ∧ ((Value.slice sa 1 cap).ownBlock = kv.ownBlock ∨ ∃ g, (Value.slice sa 1 cap).ownBlock = some g ∧ W.heap.size ≤ g) ∧
    w' = putB ((W2.setCell ⟨b, 1, none⟩ (.slice sa 1 cap)).drew) (w.heap.size + 1) (.map es' clk') ∧ Entries es' Value.string valV [(s, x)]

set_option maxRecDepth 100000 in
theorem set_first (b : Nat) (s : ByteArray) (x : Val) (w : World) (kv : Value)
    (hc : w.heap[b]? = some (.cells #[.map none, kv] 94 (0, 0))) (hrow : w.ownsRow 0 9 1 kv 0 []) (hbk : kv.ownBlock ≠ some b) :
    Calls Tryz.prog 45 #[.pointer (some ⟨b, 0, none⟩), .string s, .agg #[.int .i64 (x).k, .int .i64 (x).n, .string (x).s]] w (SetFirst w b kv s x) := by
  have HX := Lib.hid (And.intro hc (And.intro hrow hbk))
  have a0 := cell_of hc 0
  have a1 := cell_of hc 1
  have a2 := ice_of hc 1
  have a5 := ice_of hc 0
  have a3 := lt_of_heap hc
  simp only [List.getElem?_toArray, List.getElem?_cons_zero, List.getElem?_cons_succ] at a0 a1
  have hne : ∀ w, (binOp .eql 91 (.map none) (.map none)).run Tryz.prog w = .ok (.bool true) w := fun _ => by kernel_rfl
  have hmm := @run_makeMap Tryz.prog
  obtain ⟨i0, hi, hz0, hz1, hz2⟩ := info_parts str_info
  obtain ⟨sa0, cap0, rfl⟩ := ownsRow_form hrow
  clear hc hrow hbk
  have hb0 : Hid ((w.setCell ⟨b, 0, none⟩ (.map (some (w.heap.size + 1)))).heap[b]? = some (.cells #[.map (some (w.heap.size + 1)), .slice sa0 0 cap0] 94 (0, 0))) := by
    have := setCell_block (i := 0) HX.out.1 (.map (some (w.heap.size + 1)))
    simpa [Hid] using this
  have hrw : Hid ((w.setCell ⟨b, 0, none⟩ (.map (some (w.heap.size + 1)))).ownsRow 0 9 1 (.slice sa0 0 cap0) 0 []) := ownsRow_keep HX.out.2.1 fun g hg => setCell_other (fun e => HX.out.2.2 (by rw [← e]; exact hg)) _
  have c1 : ∀ o1 o2 o3, ((((w.setCell ⟨b, 0, none⟩ (.map (some (w.heap.size + 1)))).alloc o1).alloc o2).alloc o3).cell? ⟨b, 1, none⟩ = some (.slice sa0 0 cap0) := fun o1 o2 o3 => cell_of (Up.get (w' := (((w.setCell ⟨b, 0, none⟩ (.map (some (w.heap.size + 1)))).alloc o1).alloc o2).alloc o3) (by repeat (first | with_reducible exact Up.refl _ | with_reducible assumption | with_reducible refine Up.drewN ?_ _ | with_reducible refine Up.drew ?_ | with_reducible refine Up.alloc ?_ _ | with_reducible refine Up.setCell ?_ (by first | omega | (simp; done) | (simp; omega)) _ | with_reducible refine Up.trans ?_ (by assumption))) hb0.out) 1
  go_enter Tryz.func45, Tryz.ntmps45
  go_wp2_with (first | (at_lookup; go_must (refine wpList_lookup rfl rfl (run_lookup_miss Tryz.underlying91 Tryz.underlying9 strKeys (zero_val _) (es := #[]) (clk := 0) (l := []) (f := valV) ?_ rfl s (by simp)).1 ?_; exact (by repeat (first | exact alloc_at _ _ _ (by simp) | rw [alloc_old _ _ _ (by (try simp only [World.size_alloc, setCell_size]); omega)] | rw [setCell_other (by omega)] | assumption)))) | (at_builtin; go_must (refine wpList_append_new rfl _ _ 92 rfl 9 i0 (.string ⟨#[]⟩) 1 16 Tryz.underlying92 hi hz0 hz1 hz2 rfl (by decide) (.slice sa0 0 cap0) 0 [] rfl (ownsRow_up hrw.out (by repeat (first | with_reducible exact Up.refl _ | with_reducible assumption | with_reducible refine Up.drewN ?_ _ | with_reducible refine Up.drew ?_ | with_reducible refine Up.alloc ?_ _ | with_reducible refine Up.setCell ?_ (by first | omega | (simp; done) | (simp; omega)) _ | with_reducible refine Up.trans ?_ (by assumption)))) _ 1 1 rfl ?_ rfl ?_ ?_ ?_ ?_; (simp only [World.size_alloc, setCell_size]); (simp [Value.oneCell']); (simp [maxLen]); omega; intro sa' cap' w2 hown' hgrow hblk; have hd := grown_get hgrow (Up.get (by repeat (first | with_reducible exact Up.refl _ | with_reducible assumption | with_reducible refine Up.drewN ?_ _ | with_reducible refine Up.drew ?_ | with_reducible refine Up.alloc ?_ _ | with_reducible refine Up.setCell ?_ (by first | omega | (simp; done) | (simp; omega)) _ | with_reducible refine Up.trans ?_ (by assumption))) hb0.out) HX.out.2.2; have hbx := grown_get hgrow (Up.get (w := (w.setCell ⟨b, 0, none⟩ (.map (some (w.heap.size + 1)))).alloc (.cells #[.int .i64 x.k, .int .i64 x.n, .string x.s] 34)) (by repeat (first | with_reducible exact Up.refl _ | with_reducible assumption | with_reducible refine Up.drewN ?_ _ | with_reducible refine Up.drew ?_ | with_reducible refine Up.alloc ?_ _ | with_reducible refine Up.setCell ?_ (by first | omega | (simp; done) | (simp; omega)) _ | with_reducible refine Up.trans ?_ (by assumption))) (alloc_at _ _ w.heap.size (setCell_size _ _ _).symm)) (ownsRow_ne HX.out.2.1 (Nat.le_refl _)); have hmp := Lib.hid (grown_get hgrow (Up.get (w := ((w.setCell ⟨b, 0, none⟩ (.map (some (w.heap.size + 1)))).alloc (.cells #[.int .i64 x.k, .int .i64 x.n, .string x.s] 34)).alloc (.map #[] 0)) (by repeat (first | with_reducible exact Up.refl _ | with_reducible assumption | with_reducible refine Up.drewN ?_ _ | with_reducible refine Up.drew ?_ | with_reducible refine Up.alloc ?_ _ | with_reducible refine Up.setCell ?_ (by first | omega | (simp; done) | (simp; omega)) _ | with_reducible refine Up.trans ?_ (by assumption))) (alloc_at _ _ (w.heap.size + 1) (by simp))) (ownsRow_ne HX.out.2.1 (by omega))); have HY := Lib.hid (And.intro hown' (And.intro hgrow hblk)); clear hown' hgrow hblk; have d0 := cell_of hd 0; have d1 := cell_of hd 1; have d2 := ice_of hd 1; have d3 := lt_of_heap hd; have d4 := cell_of hbx 0; have d5 := cell_of hbx 1; have d6 := cell_of hbx 2; simp only [List.getElem?_toArray, List.getElem?_cons_zero, List.getElem?_cons_succ] at d0 d1 d4 d5 d6; clear hd hbx)))
  (refine wp_region_tail 6 (by kernel_rfl) (by kernel_rfl) ?_; simp only [List.take_succ_cons, List.take_zero, List.drop_succ_cons, List.drop_zero]; (repeat still_step); refine wpStill_nil ?_)
  refine wpList_update rfl rfl (run_store_miss Tryz.underlying91 Tryz.underlying9 strKeys (g := w.heap.size + 1) (es := #[]) (clk := 0) (l := []) (f := valV) (show ((w2.setCell ⟨b, 1, none⟩ (.slice sa' 1 cap')).drew).heap[w.heap.size + 1]? = some (.map #[] 0) from by
    show (w2.setCell ⟨b, 1, none⟩ (.slice sa' 1 cap')).heap[w.heap.size + 1]? = _
    rw [setCell_other (by omega)]
    exact hmp.out) rfl s x (by simp)) ?_
  intro es' clk' hes'
  go_wp2
  go_end0
  obtain ⟨hown', hgrow, hblk⟩ := HY.out
  exact ⟨rfl, _, w2, sa', cap', es', clk', (by repeat (first | with_reducible exact Kept.refl _ _ | with_reducible refine Kept.alloc ?_ _ | with_reducible refine Kept.drew ?_ | with_reducible refine Kept.drewN ?_ _ | with_reducible refine Kept.setCell ?_ (by first | exact .inl rfl | exact .inr (by first | omega | (simp; omega))) _)), by simp only [World.size_alloc, setCell_size]; omega, Up.get (by repeat (first | with_reducible exact Up.refl _ | with_reducible assumption | with_reducible refine Up.drewN ?_ _ | with_reducible refine Up.drew ?_ | with_reducible refine Up.alloc ?_ _ | with_reducible refine Up.setCell ?_ (by first | omega | (simp; done) | (simp; omega)) _ | with_reducible refine Up.trans ?_ (by assumption))) hb0.out,
    Up.get (w := ((w.setCell ⟨b, 0, none⟩ (.map (some (w.heap.size + 1)))).alloc (.cells #[.int .i64 x.k, .int .i64 x.n, .string x.s] 34)).alloc (.map #[] 0)) (by repeat (first | with_reducible exact Up.refl _ | with_reducible assumption | with_reducible refine Up.drewN ?_ _ | with_reducible refine Up.drew ?_ | with_reducible refine Up.alloc ?_ _ | with_reducible refine Up.setCell ?_ (by first | omega | (simp; done) | (simp; omega)) _ | with_reducible refine Up.trans ?_ (by assumption))) (alloc_at _ _ (w.heap.size + 1) (by simp)),
    hown', hgrow, by simpa only [World.size_alloc, setCell_size] using hblk, rfl, hes'⟩

theorem set_any_first (own : Own) (tvs : List Value) (i : Nat) (k p : Int) (b : Nat) (s : ByteArray) (x : Val) (w : World)
    (hlt : ∀ b m, own b = some m → b < w.heap.size) (kv : Value) (hk : k = 1 ∨ k = 3 ∨ k = 4) (hp : -1 ≤ p) (hpi : p < i) (hb : own b = some (i + 1, 0)) (hc : w.heap[b]? = some (.cells #[.map none, kv] 94 (0, 0)))
    (hr : Row w own (i + 1, 1) 9 1 kv 0 []) :
    Calls Tryz.prog 45 #[.pointer (some ⟨b, 0, none⟩), .string s, .agg #[.int .i64 (x).k, .int .i64 (x).n, .string (x).s]] w (SetDone own tvs i ⟨k, p, [(s, x)], []⟩ (.iface 96 (.agg #[.pointer (some ⟨b, 0, none⟩), .int .i64 k, protoV tvs p])) w) := by
  have hbk : kv.ownBlock ≠ some b := fun e => by have := hr.2 _ e; rw [hb] at this; cases this
  refine (set_first b s x w kv hc hr.1 hbk).mono ?_
  rintro e w' ⟨rfl, W, W2, sa, cap, es', clk', hkept, hsz, hbW, hgW, hown, hgrow, hblk, rfl, hes'⟩
  have hszG := hgrow.size
  have hgWlt := lt_of_heap hgW
  have hblt := hlt b _ hb
  have hltW : ∀ b m, own b = some m → b < W.heap.size := fun b m hm => Nat.lt_trans (hlt b m hm) hsz
  have hsame := keys_own hr.2 hltW hblk
  have hgb : ∀ g', (Value.slice sa 1 cap).ownBlock = some g' → own g' = some (i + 1, 1) ∨ W.heap.size ≤ g' := fun g' hg' => by
    rcases hblk with hk | ⟨g1, hk, hk'⟩
    · exact .inl (hr.2 g' (by rw [← hk]; exact hg'))
    · rw [hk] at hg'; cases hg'; exact .inr hk'
  have hgne : ∀ c m, own c = some m → m ≠ (i + 1, 1) → (Value.slice sa 1 cap).ownBlock ≠ some c := fun c m hm hne e => by
    rcases hgb c e with h' | h'
    · rw [hm] at h'; cases h'; exact hne rfl
    · have := hltW c m hm; omega
  have hgm : (Value.slice sa 1 cap).ownBlock ≠ some (w.heap.size + 1) := fun e => by
    rcases hgb _ e with h' | h'
    · have := hlt _ _ h'; omega
    · omega
  have hglt : ∀ g', (Value.slice sa 1 cap).ownBlock = some g' → g' < W2.heap.size := fun g' hg' => ownBlock_lt hown hg'
  have hsz3 : (putB ((W2.setCell ⟨b, 1, none⟩ (.slice sa 1 cap)).drew) (w.heap.size + 1) (.map es' clk')).heap.size = W2.heap.size := by
    rw [putB_size]; exact setCell_size _ _ _
  have hheap : ∀ c, c ≠ w.heap.size + 1 → c ≠ b → (putB ((W2.setCell ⟨b, 1, none⟩ (.slice sa 1 cap)).drew) (w.heap.size + 1) (.map es' clk')).heap[c]? = W2.heap[c]? := fun c h1 h2 => by
    rw [putB_other _ _ _ _ h1]
    exact setCell_other h2 _
  refine ⟨rfl, fun c => if c = w.heap.size + 1 then some (i + 1, 2) else if (Value.slice sa 1 cap).ownBlock = some c then some (i + 1, 1) else own c, ?_, ?_, ?_, ?_⟩
  · refine Kept.putB (Kept.drew (Kept.setCell (Kept.grow (hkept.mono fun c _ hc' => ⟨_, by rw [show c = b from hc']; exact hb, rfl⟩) hgrow fun g' hg' => .inl ⟨_, hr.2 g' hg', rfl⟩) (.inl ⟨_, hb, rfl⟩) _)) (.inr (by omega)) _
  · intro c hc'
    show (if _ then _ else _) = _
    rw [if_neg (by omega)]
    by_cases hg' : (Value.slice sa 1 cap).ownBlock = some c
    · rw [if_pos hg']
      rcases hgb c hg' with h' | h'
      · exact h'.symm
      · omega
    · rw [if_neg hg']
  · intro c m hm
    rw [hsz3]
    have hm : (if c = w.heap.size + 1 then some (i + 1, 2) else if (Value.slice sa 1 cap).ownBlock = some c then some (i + 1, 1) else own c) = some m := hm
    by_cases hcm : c = w.heap.size + 1
    · rw [if_pos hcm] at hm; cases hm
      exact ⟨by omega, fun _ => rfl⟩
    · rw [if_neg hcm] at hm
      by_cases hg' : (Value.slice sa 1 cap).ownBlock = some c
      · rw [if_pos hg'] at hm; cases hm
        exact ⟨hglt c hg', fun _ => rfl⟩
      · rw [if_neg hg'] at hm
        have := hltW c m hm
        have := hlt c m hm
        exact ⟨by omega, fun h' => by omega⟩
  · have hown' : ∀ c m, own c = some m → (if c = w.heap.size + 1 then some (i + 1, 2) else if (Value.slice sa 1 cap).ownBlock = some c then some (i + 1, 1) else own c) = some m := fun c m hm => by
      have := hlt c m hm
      rw [if_neg (by omega)]
      exact hsame c m hm
    refine .obj k p _ b (.map (some (w.heap.size + 1))) (.slice sa 1 cap) hk hp hpi (hown' _ _ hb) ?_ (.inr ⟨w.heap.size + 1, es', clk', rfl, by simp, putB_same _ _ _ ?_, hes'⟩) ?_ (by simp)
    · rw [putB_other _ _ _ _ (by omega)]
      have h5 : W2.heap[b]? = some (.cells #[.map (some (w.heap.size + 1)), kv] 94 (0, 0)) := grown_get hgrow hbW hbk
      have := setCell_block (i := 1) h5 (.slice sa 1 cap)
      show (W2.setCell ⟨b, 1, none⟩ (.slice sa 1 cap)).heap[b]? = _
      simpa using this
    · show w.heap.size + 1 < (W2.setCell ⟨b, 1, none⟩ (.slice sa 1 cap)).heap.size
      rw [setCell_size]
      omega
    · refine ⟨⟨hown.1, ?_⟩, fun g' hg' => ?_⟩
      · rcases hown.2 with h2 | ⟨g1, cap', cur, hv, hg1, hc1, r⟩
        · exact .inl h2
        · refine .inr ⟨g1, cap', cur, hv, hg1, ?_, r⟩
          rw [hheap g1 (fun e => hgm (by rw [hv, ← e]; rfl)) (fun e => hgne b _ hb (by simp) (by rw [hv, ← e]; rfl))]
          exact hc1
      · show (if _ then _ else _) = _
        rw [if_neg (fun e => by rw [e] at hg'; exact hgm hg'), if_pos hg']

/-- set, of a thing that is no array -/
theorem set_any (own : Own) (tvs : List Value) (i : Nat) (k p : Int) (l : List (ByteArray × Val)) (b : Nat) (kk pp : Value) (s : ByteArray) (x : Val) (w : World) (hlen : l.length ≤ 1048576)
    (hlt : ∀ b m, own b = some m → b < w.heap.size) (h : ThingIs w own tvs i ⟨k, p, l, []⟩ (.iface 96 (.agg #[.pointer (some ⟨b, 0, none⟩), kk, pp]))) :
    Calls Tryz.prog 45 #[.pointer (some ⟨b, 0, none⟩), .string s, .agg #[.int .i64 (x).k, .int .i64 (x).n, .string (x).s]] w (SetDone own tvs i ⟨k, p, setSlot l s x, []⟩ (.iface 96 (.agg #[.pointer (some ⟨b, 0, none⟩), kk, pp])) w) := by
  rcases slot_cases l s with hs | ⟨j, y, hj⟩
  · cases h with
    | obj _ _ _ _ mv kv hk hp hpi hb hc hm hr hn =>
      rcases hm with ⟨rfl, rfl⟩ | ⟨g, es, clk, rfl, ho, hg, hes⟩
      · exact set_any_first own tvs i k p b s x w hlt kv hk hp hpi hb hc hr
      · exact set_any_miss own tvs i k p l b _ _ s x w g hlt kv hk hp hpi hb hc (.inr ⟨g, es, clk, rfl, ho, hg, hes⟩) hr hn hlen hs rfl rfl
  · exact set_any_hit own tvs i k p l b kk pp s x y j w hlt h hj

end Go.Proofs.YtmbipadiaggolaaGreatDoor
