import Derived.Test.YtbghpkoimbmijaaGreatDoorBase
/- append on a row of one's own: where the new row lies. -/
namespace Go.Proofs.YtbghpkoimbmijaaGreatDoor
open Go.RowKit
section
variable {P : Program} {w : World}

theorem ownsRow_form {base : Nat} {e : TypeId} {size : Nat} {v : Value} {n : Nat} {xs : List Value} (h : w.ownsRow base e size v n xs) : ∃ sa cap, v = .slice sa n cap := by
  rcases h.2 with ⟨rfl, rfl⟩ | ⟨g, cap, cur, rfl, _⟩
  · exact ⟨none, 0, rfl⟩
  · exact ⟨_, cap, rfl⟩

theorem run_append_row (t ty e : TypeId) (i : TypeInfo) (z : Value) (size bytes : Nat) (ht : P.underlying t = some (.slice e)) (hi : P.info? e = some i) (hz : i.zero = some z)
    (hsize : i.size = size) (hby : i.bytes = bytes) (hzs : z.cells.size = size) (hsz : 0 < size)
    (v : Value) (n : Nat) (xs : List Value) (hown : w.ownsRow 0 e size v n xs)
    (a : Addr) (m c : Nat) (news : List Value) (hl : news.length = m * size) (hnews : ∀ j u, news[j]? = some u → w.cell? (a.add j) = some u) (h1 : ∀ u ∈ news, u.oneCell' = true)
    (h63 : n + m ≤ maxLen) (hbytes : (n + m) * bytes ≤ 140737488355328) :
    ∃ sa cap w', (Builtin.append_ #[t, t] ty #[v, .slice (some a) m c]).run P w = .ok (.slice sa (n + m) cap) w' ∧ w'.ownsRow 0 e size (.slice sa (n + m) cap) (n + m) (xs ++ news) ∧ w.grownBy w' v.ownBlock ∧
      ((Value.slice sa (n + m) cap).ownBlock = v.ownBlock ∨ ∃ g, (Value.slice sa (n + m) cap).ownBlock = some g ∧ w.heap.size ≤ g) := by
  obtain ⟨v', w', hr, ho, hg, _⟩ := run_append_own (P := P) w 0 t ty e i z size bytes ht hi hz hsize hby hzs hsz v n xs hown a m c news hl hnews h1 h63 hbytes (Nat.zero_le _)
  obtain ⟨sa, cap, rfl⟩ := ownsRow_form ho
  refine ⟨sa, cap, w', hr, ho, hg, ?_⟩
  subst hsize
  subst hby
  have hsmall : n + m ≤ 9223372036854775807 := by simp only [maxLen] at h63; omega
  rcases hown.2 with ⟨rfl, rfl⟩ | ⟨g, cap0, cur, rfl, _, hgb, hnc, hcm, hcs, htake⟩
  · by_cases hm : m = 0
    · subst hm
      left
      rcases ho.2 with ⟨h, _⟩ | ⟨g, cap', cur', h, _, _, _, _, _, _⟩
      · rw [h]
      · cases sa with
        | none => rfl
        | some a' =>
          exfalso
          have hn : news = [] := List.eq_nil_of_length_eq_zero (by simpa using hl)
          have : (Builtin.append_ #[t, t] ty #[.slice none 0 0, .slice (some a) 0 c]).run P w = .ok (.slice none 0 0) w := by
            simp [Builtin.append_, run_underlying ht, sizeOf, typeInfo, hi, Builtin.lenOf, Builtin.firstCells, loadCells, loadCellsFrom]
          rw [this] at hr
          simp at hr
    · right
      have hr2 := run_append_nil (P := P) w t ty e i z ht hi hz a m c news hl hnews (by omega) (by omega) (by have hb := hbytes; simp only [Nat.zero_add] at hb; omega)
      rw [hr2] at hr
      injection hr with h1 h2
      injection h1 with h3 h4 h5
      subst h3
      exact ⟨_, rfl, Nat.le_refl _⟩
  · by_cases hroom : n + m ≤ cap0
    · have hfit : n * i.size + news.length ≤ cur.size := by rw [hl, hcs, ← Nat.add_mul]; exact Nat.mul_le_mul_right _ hroom
      have hr2 := run_append_room (P := P) w t ty e i ht hi g n cap0 cur hgb a m c news hl hnews h1 hroom hfit
      rw [hr2] at hr
      injection hr with h1 h2
      injection h1 with h3 h4 h5
      subst h3
      exact .inl rfl
    · have holds : ∀ j u, xs[j]? = some u → w.cell? ((⟨g, 0, none⟩ : Addr).add j) = some u := hown.cells (g := g) rfl
      have hr2 := run_append_grow (P := P) w t ty e i z ht hi hz ⟨g, 0, none⟩ n cap0 xs hown.1 holds a m c news hl hnews (by omega) (by omega) (growslice_fits (by omega) hbytes)
      rw [hr2] at hr
      injection hr with h1 h2
      injection h1 with h3 h4 h5
      subst h3
      exact .inr ⟨_, rfl, Nat.le_refl _⟩

theorem wp_append_row {o : Oper} {a : Act} {K : Act → World → Prop} {Q : Exit → Act → World → Prop} (s x : Operand) (t : TypeId)
    (ho : o.op = .call { callee := .builtin .append, args := #[s, x], argTypes := #[t, t] })
    (e : TypeId) (i : TypeInfo) (z : Value) (size bytes : Nat) (ht : P.underlying t = some (.slice e)) (hi : P.info? e = some i) (hz : i.zero = some z)
    (hsize : i.size = size) (hby : i.bytes = bytes) (hzs : z.cells.size = size) (hsz : 0 < size)
    (v : Value) (n : Nat) (xs : List Value) (hs : a.eval s = v) (hown : w.ownsRow 0 e size v n xs)
    (ad : Addr) (m c : Nat) (news : List Value) (hx : a.eval x = .slice (some ad) m c) (hl : news.length = m * size) (hnews : ∀ j u, news[j]? = some u → w.cell? (ad.add j) = some u) (h1 : ∀ u ∈ news, u.oneCell' = true)
    (h63 : n + m ≤ maxLen) (hbytes : (n + m) * bytes ≤ 140737488355328)
    (h : ∀ sa cap w', w'.ownsRow 0 e size (.slice sa (n + m) cap) (n + m) (xs ++ news) → w.grownBy w' v.ownBlock →
      ((Value.slice sa (n + m) cap).ownBlock = v.ownBlock ∨ ∃ g, (Value.slice sa (n + m) cap).ownBlock = some g ∧ w.heap.size ≤ g) → K (a.put o.dst (.slice sa (n + m) cap)) w') : o.wp P a w K Q := by
  obtain ⟨sa, cap, w', hr, h2, h3, h4⟩ := run_append_row (P := P) (w := w) t o.type e i z size bytes ht hi hz hsize hby hzs hsz v n xs hown ad m c news hl hnews h1 h63 hbytes
  unfold Oper.wp execOp
  simp only [ho, resolve, invoke, builtin, Sem.run_bind, Sem.run_pure, Result.andThen_ok, List.map_toArray, List.map_cons, List.map_nil, hs, hx, hr]
  exact h sa cap w' h2 h3 h4

theorem wpList_append_row {ops : Array Oper} {rest : List Oper} {o : Oper} {a : Act} {Q : Exit → Act → World → Prop} (hgd : o.guard = none) (s x : Operand) (t : TypeId)
    (ho : o.op = .call { callee := .builtin .append, args := #[s, x], argTypes := #[t, t] })
    (e : TypeId) (i : TypeInfo) (z : Value) (size bytes : Nat) (ht : P.underlying t = some (.slice e)) (hi : P.info? e = some i) (hz : i.zero = some z)
    (hsize : i.size = size) (hby : i.bytes = bytes) (hzs : z.cells.size = size) (hsz : 0 < size)
    (v : Value) (n : Nat) (xs : List Value) (hs : a.eval s = v) (hown : w.ownsRow 0 e size v n xs)
    (ad : Addr) (m c : Nat) (news : List Value) (hx : a.eval x = .slice (some ad) m c) (hl : news.length = m * size) (hnews : ∀ j u, news[j]? = some u → w.cell? (ad.add j) = some u) (h1 : ∀ u ∈ news, u.oneCell' = true)
    (h63 : n + m ≤ maxLen) (hbytes : (n + m) * bytes ≤ 140737488355328)
    (h : ∀ sa cap w', w'.ownsRow 0 e size (.slice sa (n + m) cap) (n + m) (xs ++ news) → w.grownBy w' v.ownBlock →
      ((Value.slice sa (n + m) cap).ownBlock = v.ownBlock ∨ ∃ g, (Value.slice sa (n + m) cap).ownBlock = some g ∧ w.heap.size ≤ g) → wpList P ops Q rest (a.put o.dst (.slice sa (n + m) cap)) w') : wpList P ops Q (o :: rest) a w :=
  wpList_plain hgd fun _ hK => wp_append_row s x t ho e i z size bytes ht hi hz hsize hby hzs hsz v n xs hs hown ad m c news hx hl hnews h1 h63 hbytes fun sa cap w' h2 h3 h4 => hK _ _ (h sa cap w' h2 h3 h4)

theorem cells_new (W : World) (cs : Array Value) (te : TypeId) (b : Nat) (hb : b = W.heap.size) : ∀ (j : Nat) (u : Value), cs.toList[j]? = some u → (W.alloc (.cells cs te)).cell? ((⟨b, 0, none⟩ : Addr).add j) = some u := by
  intro j u hj
  have h1 : (W.alloc (.cells cs te)).heap[b]? = some (.cells cs te (0, 0)) := by rw [hb]; exact alloc_get _ _
  unfold Addr.add
  split
  · rename_i h0
    subst h0
    simp only [World.cell?, h1]
    simpa using hj
  · simp only [World.cell?, h1]
    simpa using hj

/-- append of elements that the operation ahead has laid into a block of their own -/
theorem wpList_append_new {W : World} {cs : Array Value} {te : TypeId} {ops : Array Oper} {rest : List Oper} {o : Oper} {a : Act} {Q : Exit → Act → World → Prop} (hgd : o.guard = none) (s x : Operand) (t : TypeId)
    (ho : o.op = .call { callee := .builtin .append, args := #[s, x], argTypes := #[t, t] })
    (e : TypeId) (i : TypeInfo) (z : Value) (size bytes : Nat) (ht : P.underlying t = some (.slice e)) (hi : P.info? e = some i) (hz : i.zero = some z)
    (hsize : i.size = size) (hby : i.bytes = bytes) (hzs : z.cells.size = size) (hsz : 0 < size)
    (v : Value) (n : Nat) (xs : List Value) (hs : a.eval s = v) (hown : (W.alloc (.cells cs te)).ownsRow 0 e size v n xs)
    (b m c : Nat) (hx : a.eval x = .slice (some ⟨b, 0, none⟩) m c) (hb : b = W.heap.size) (hl : cs.size = m * size) (h1 : ∀ u ∈ cs.toList, u.oneCell' = true)
    (h63 : n + m ≤ maxLen) (hbytes : (n + m) * bytes ≤ 140737488355328)
    (h : ∀ sa cap w', w'.ownsRow 0 e size (.slice sa (n + m) cap) (n + m) (xs ++ cs.toList) → (W.alloc (.cells cs te)).grownBy w' v.ownBlock →
      ((Value.slice sa (n + m) cap).ownBlock = v.ownBlock ∨ ∃ g, (Value.slice sa (n + m) cap).ownBlock = some g ∧ W.heap.size + 1 ≤ g) → wpList P ops Q rest (a.put o.dst (.slice sa (n + m) cap)) w') : wpList P ops Q (o :: rest) a (W.alloc (.cells cs te)) :=
  wpList_append_row hgd s x t ho e i z size bytes ht hi hz hsize hby hzs hsz v n xs hs hown ⟨b, 0, none⟩ m c cs.toList hx (by rw [Array.length_toList]; exact hl) (cells_new W cs te b hb) h1 h63 hbytes
    (fun sa cap w' g1 g2 g3 => h sa cap w' g1 g2 (by simpa only [World.size_alloc] using g3))
end

/-- a block of cells behind a store -/
theorem setCell_block {w : World} {b i : Nat} {cs : Array Value} {t : TypeId} {f : Nat × Nat} (h : w.heap[b]? = some (.cells cs t f)) (v : Value) : (w.setCell ⟨b, i, none⟩ v).heap[b]? = some (.cells (cs.setIfInBounds i v) t f) := by
  simp [World.setCell, Array.getElem?_modify, h]
theorem setCell_other {w : World} {b c i : Nat} (h : c ≠ b) (v : Value) : (w.setCell ⟨b, i, none⟩ v).heap[c]? = w.heap[c]? := Below.heap_setCell _ _ _ _ (by simpa using h)
theorem setCell_size (w : World) (a : Addr) (v : Value) : (w.setCell a v).heap.size = w.heap.size := by simp [World.setCell]
end Go.Proofs.YtbghpkoimbmijaaGreatDoor
