import Derived.Shelf.Abstract
import Derived.Test.YtbghpkoimbmijaaGreatDoorM05
import Derived.Test.YtbghpkoimbmijaaGreatDoorM08
/- YtbghpkoimbmijaaGreatDoorM10: lemmas of the proof, in order: KJ, KN. -/
/- Walks: union: its loop over what is given. -/
namespace Go.Proofs.YtbghpkoimbmijaaGreatDoor
open Go.RowKit
set_option linter.unusedSimpArgs false
attribute [local go_sem] Oper.semAt_some

/-- a type was taken in -/
theorem union_body {kd : Nat → Int} {w : World} {no : Nat → Prop} {m3 n3 m4 n4 n5 y n vcap cap' : Nat} {va sa' : Option Addr} {xs Ds : List Nat} {W W3 w7 : World} (hI : UI kd w no m3 n3 m4 n4 n5 xs W) (hM : Marks w.heap.size Ds W)
    (hd : m3 ≠ n3 ∧ m3 ≠ m4 ∧ m3 ≠ n4 ∧ m3 ≠ n5 ∧ n5 ≠ n3 ∧ n5 ≠ m4 ∧ n5 ≠ n4) (hl : w.heap.size ≤ m3 ∧ w.heap.size ≤ n5) (hz3 : W3.heap.size = W.heap.size) (hos3 : W3.os = W.os ∧ W3.tape = W.tape ∧ W3.output = W.output) (hot3 : ∀ x, x ≠ m3 → W3.heap[x]? = W.heap[x]?)
    (hc3 : CMap W3 m3 (fun k' => if k' = kd y then (xs.map kd).count (kd y) + 1 else (xs.map kd).count k'))
    (hv : W.heap[n5]? = some (.cells #[.slice va n vcap] SlT (0, 0))) (hn : n = xs.length) (hrow : W.ownsRow 0 TpT 1 (.slice va n vcap) xs.length (xs.map ptrV)) (hown : ∀ g, (Value.slice va n vcap).ownBlock = some g → w.heap.size ≤ g ∧ ¬ no g)
    (hno : ∀ g, W.heap.size ≤ g → ¬ no g) (hown' : w7.ownsRow 0 TpT 1 (.slice sa' (n + 1) cap') (n + 1) (xs.map ptrV ++ [.pointer (some ⟨y, 0, none⟩)])) (hgrow : (W3.alloc (.cells #[.pointer (some ⟨y, 0, none⟩)] TpT)).grownBy w7 (Value.slice va n vcap).ownBlock)
    (hblk : (Value.slice sa' (n + 1) cap').ownBlock = (Value.slice va n vcap).ownBlock ∨ ∃ g, (Value.slice sa' (n + 1) cap').ownBlock = some g ∧ W3.heap.size + 1 ≤ g) :
    let W' := w7.setCell ⟨n5, 0, none⟩ (.slice sa' (n + 1) cap')
    (UI kd w no m3 n3 m4 n4 n5 (xs ++ [y]) W' ∧ Marks w.heap.size Ds W') ∧ W.heap.size ≤ W'.heap.size ∧ ∀ x o, x ≠ m3 → x ≠ n5 → (Value.slice va n vcap).ownBlock ≠ some x → W.heap[x]? = some o → W'.heap[x]? = some o := by
  obtain ⟨d1, d2, d3, d4, d5, d6, d7⟩ := hd
  -- of what kind the row's block is
  have hrb : ∀ g, (Value.slice va n vcap).ownBlock = some g → ∃ cur, W.heap[g]? = some (.cells cur TpT (0, 0)) := fun g' hg' => by
    rcases hrow.2 with ⟨hv, _⟩ | ⟨g'', cap, cur, hv, _, hc, _⟩
    · rw [hv] at hg'; cases hg'
    · rw [hv] at hg'; cases hg'; exact ⟨cur, hc⟩
  have hr : ∀ x cs t f, t ≠ TpT → W.heap[x]? = some (.cells cs t f) → (Value.slice va n vcap).ownBlock ≠ some x := fun x cs t f ht hx e => by
    obtain ⟨cur, hc⟩ := hrb x e
    rw [hx] at hc
    injection hc with hc
    injection hc with _ hc _
    exact ht hc
  have hrm : ∀ x o, o.isCells = false → W.heap[x]? = some o → (Value.slice va n vcap).ownBlock ≠ some x := fun x o ho hx e => by
    obtain ⟨cur, hc⟩ := hrb x e
    rw [hx] at hc
    cases hc
    cases ho
  have hm3 : ∀ x o, o.isCells = true → W.heap[x]? = some o → x ≠ m3 := fun x o ho hx e => by
    obtain ⟨es, clk, cs, h1, _⟩ := hI.c3
    rw [e, h1] at hx
    cases hx
    cases ho
  have step : ∀ x o, x ≠ m3 → x ≠ n5 → (Value.slice va n vcap).ownBlock ≠ some x → W.heap[x]? = some o → (w7.setCell ⟨n5, 0, none⟩ (.slice sa' (n + 1) cap')).heap[x]? = some o := fun x o h1 h2 h3 hx => by
    rw [setCell_other h2]
    refine grown_get hgrow ?_ h3
    have hx3 : W3.heap[x]? = some o := (hot3 x h1).trans hx
    exact alloc_keep hx3
  have hsz : W.heap.size ≤ (w7.setCell ⟨n5, 0, none⟩ (.slice sa' (n + 1) cap')).heap.size := by
    rw [setCell_size]
    have := hgrow.size
    simp only [World.size_alloc] at this
    omega
  have hup : Up w (w7.setCell ⟨n5, 0, none⟩ (.slice sa' (n + 1) cap')) := by
    refine ⟨?_, ?_, ?_, Nat.le_trans hI.up.size hsz, fun i hi => ?_⟩
    · exact (hgrow.os.trans hos3.1).trans hI.up.os
    · exact (hgrow.tape.trans hos3.2.1).trans hI.up.tape
    · exact (hgrow.output.trans hos3.2.2).trans hI.up.output
    · rw [setCell_other (by omega), hgrow.block i (by simp only [World.size_alloc]; have := hI.up.size; omega) (fun e => by have := (hown i e.symm).1; omega), alloc_old _ _ _ (by have := hI.up.size; omega), hot3 i (by omega)]
      exact hI.up.block i hi
  refine ⟨⟨⟨hup, ?_, ?_, ?_, ?_, .slice sa' (n + 1) cap', ?_, ?_, ?_⟩, hM.nodup, fun D hD => ⟨(hM.at_ D hD).1, ?_⟩⟩, hsz, step⟩
  · exact step n3 _ (hm3 n3 _ rfl hI.b3) d5.symm (hr n3 _ _ _ (by decide) hI.b3) hI.b3
  · have e : (fun k => ((xs ++ [y]).map kd).count k) = fun k' => if k' = kd y then (xs.map kd).count (kd y) + 1 else (xs.map kd).count k' := by
      funext k
      rw [List.map_append, List.count_append]
      simp only [List.map_cons, List.map_nil, List.count_cons, List.count_nil]
      by_cases e : k = kd y
      · subst e; simp
      · rw [if_neg e, if_neg (by simpa using fun x => e x.symm)]; simp
    rw [e]
    refine hc3.keep ?_
    rw [setCell_other d4]
    have h3 := hc3.lt
    rw [hgrow.block m3 (by simp only [World.size_alloc]; omega) (fun e => by obtain ⟨es, clk, cs, h1, _⟩ := hI.c3; exact hrm m3 _ rfl h1 e.symm), alloc_old _ _ _ h3]
  · exact step n4 _ (hm3 n4 _ rfl hI.b4) d7.symm (hr n4 _ _ _ (by decide) hI.b4) hI.b4
  · obtain ⟨clk, h4⟩ := hI.c4
    exact ⟨clk, step m4 _ d2.symm d6.symm (hrm m4 _ rfl h4) h4⟩
  · have h5 : W3.heap[n5]? = some (.cells #[.slice va n vcap] SlT (0, 0)) := (hot3 n5 d4.symm).trans hv
    have h6 := grown_get hgrow (alloc_keep h5) (hr n5 _ _ _ (by decide) hv)
    exact setCell_block (i := 0) h6 _
  · rw [List.length_append, List.map_append, ← hn]
    refine ownsRow_keep hown' fun g hg => setCell_other (fun e => ?_) _
    subst e
    rcases hblk with q | ⟨g', q, q2⟩
    · rw [q] at hg; exact hr g _ _ _ (by decide) hv hg
    · rw [q] at hg; cases hg; have := lt_of_heap hv; omega
  · intro g hg
    rcases hblk with q | ⟨g', q, q2⟩
    · rw [q] at hg; exact hown g hg
    · rw [q] at hg; cases hg; have := hI.up.size; exact ⟨by omega, hno g (by omega)⟩
  · exact step D _ (fun e => by
      obtain ⟨es, clk, cs, h1, _⟩ := hI.c3
      have h2 := (hM.at_ D hD).2
      rw [e, h1] at h2; cases h2) (fun e => by
      have h2 := (hM.at_ D hD).2
      rw [e, hv] at h2; cases h2) (hrm D _ rfl (hM.at_ D hD).2) (hM.at_ D hD).2

theorem row_cells {w : World} {v : Value} {xs : List Nat} (h : w.ownsRow 0 TpT 1 v xs.length (xs.map ptrV)) (hne : xs ≠ []) : ∃ g cap cur, v = .slice (some ⟨g, 0, none⟩) xs.length cap ∧ w.heap[g]? = some (.cells cur TpT (0, 0)) ∧ xs.length ≤ cap ∧ ∀ j x, xs[j]? = some x → cur[0 + j]? = some (ptrV x) := by
  rcases h.2 with ⟨_, h0⟩ | ⟨g, cap, cur, hv, _, hc, hn, _, _, ht⟩
  · exact absurd (List.eq_nil_of_length_eq_zero h0) hne
  · refine ⟨g, cap, cur, hv, hc, hn, fun j x hx => ?_⟩
    have hj := (List.getElem?_eq_some_iff.1 hx).1
    rw [Nat.mul_one] at ht
    have e : (cur.toList.take xs.length)[j]? = some (ptrV x) := by rw [ht, List.getElem?_map, hx]; rfl
    rw [List.getElem?_take, if_pos hj] at e
    rw [Nat.zero_add, ← Array.getElem?_toList]
    exact e

theorem parts_two {w : World} {gr x y sx sy : Nat} {kx ky : Int} {s t : ByteArray} (h : TwoAt w gr 0 x y kx ky s t) (ex : w.cell? ⟨x, 6, none⟩ = some (.int .i64 sx) ∧ sx ≤ 1099511627776 ∧ x < w.heap.size) (ey : w.cell? ⟨y, 6, none⟩ = some (.int .i64 sy) ∧ sy ≤ 1099511627776 ∧ y < w.heap.size) : Parts w (.slice (some ⟨gr, 0, none⟩) 2 2) [(x, sx), (y, sy)] := by
  refine ⟨⟨_, 2, rfl⟩, fun j z hz => ?_, by simp⟩
  match j, hz with
  | 0, hz => simp at hz; subst hz; exact ⟨gr, 0, 2, rfl, h.lt, h.c0, ex.2.2, ex.1, ex.2.1⟩
  | 1, hz => simp at hz; subst hz; exact ⟨gr, 0, 2, rfl, h.lt, h.c1, ey.2.2, ey.1, ey.2.1⟩
  | j + 2, hz => simp at hz

theorem Marks.kept {B g : Nat} {Ds : List Nat} {W W' : World} (h : Marks B Ds W) {cs : Array Value} {t : TypeId} {f : Nat × Nat} (hg : W.heap[g]? = some (.cells cs t f)) (k : Kept (fun b => b = g) W W') : Marks B Ds W' :=
  ⟨h.nodup, fun D hD => ⟨(h.at_ D hD).1, k.get (h.at_ D hD).2 (fun e => by have q := (h.at_ D hD).2; rw [show D = g from e, hg] at q; cases q)⟩⟩

/-- union's frame between two rounds of its loop -/
def unionT (sv p3 p4 p5 m3 m4 n i u7 u18 u19 u20 u21 u22 u45 : Value) : Array Value := #[sv, undef, .pointer none, p3, p4, p5, undef, u7, undef, undef, undef, undef, undef, m3, m4, sv, n, i, u18, u19, u20, u21, u22, undef, undef, undef, undef, undef, undef, undef, undef, undef, undef, undef, undef, undef, undef, undef, undef, undef, undef, undef, undef, undef, undef, u45, undef, undef, undef, undef, undef, undef, undef, undef, undef, undef, undef, undef, undef, undef, undef, undef, undef, undef, undef, undef, undef, undef, undef, undef, undef, undef, undef, undef, undef, undef]

set_option maxRecDepth 100000 in
set_option maxHeartbeats 4000000 in
theorem union_two (kd : Nat → Int) (tx : Nat → ByteArray) (sz : Nat → Nat) (x y : Nat) (xs : List Nat) (g off cap : Nat) (cs : Array Value) (w : World) (h2 : w.heap[g]? = some (.cells cs TpT (0, 0))) (h3 : ∀ j x, xs[j]? = some x → cs[off + j]? = some (ptrV x)) (hlen : xs.length ≤ 1000)
    (hit : ∀ x ∈ xs, Item w x (kd x) (tx x) ∧ (kd x == 16) = false ∧ (kd x == 19) = false) (hno : ∀ x ∈ xs, (kd x == 20) = false ∧ kd x ≠ 1 ∧ kd x ≠ 2) (hf : (xs.filter fun z => !goesK (fun k => (xs.map kd).count k) (kd z)) = [x, y])
    (hle : 0 ≤ cmpS (partS (kd y) (tx y)) (partS (kd x) (tx x))) (hne : ((partS (kd y) (tx y)).toList == (partS (kd x) (tx x)).toList) = false) (hsz : ∀ z ∈ xs, w.cell? ⟨z, 6, none⟩ = some (.int .i64 (sz z)) ∧ sz z ≤ 1099511627776 ∧ (tx z).size ≤ 1000000000) :
    Calls Tryz.prog 33 #[.slice (some ⟨g, off, none⟩) xs.length cap] w fun e w' => ∃ c g2 cs2 fz, e = .returned (.pointer (some ⟨c, 0, none⟩)) ∧ w.heap.size ≤ c ∧ w.heap.size ≤ g2 ∧ w'.heap[c]? = some (.cells #[.int .i64 16, .int .i64 0, .string ⟨#[]⟩, .slice (some ⟨g2, 0, none⟩) 2 2, .slice none 0 0, .slice none 0 0, .int .i64 (sizeL 1 [(x, sz x), (y, sz y)]), .string ⟨#[]⟩] TyT (0, 0)) ∧
      w'.heap[g2]? = some (.cells cs2 TpT fz) ∧ cs2[0]? = some (ptrV x) ∧ cs2[1]? = some (ptrV y) ∧ Up w w' := by
  refine callsIn_wide.1 (callsIn_of_wp_marks (n := 2) Tryz.func33 rfl trivial ?_)
  refine wpIn_wide.2 ?_
  simp only [Tryz.ntmps33, List.size_toArray, List.length_cons, List.length_nil, Nat.reduceAdd, Nat.reduceSub, Array.replicate_succ, Array.replicate_zero, List.push_toArray, List.append_toArray, List.nil_append, List.cons_append]
  have HI := Lib.hid hit
  have HG := Lib.hid (And.intro h2 h3)
  have hmm := @run_makeMap Tryz.prog
  go_wp2_with fail
  refine range_named fun A W hA hW => ?_
  have hU : UI kd w (fun _ => False) w.heap.size (w.heap.size + 1) (w.heap.size + 2) (w.heap.size + 3) (w.heap.size + 4) [] W := by
    subst hW
    refine ⟨uq, ?_, ⟨#[], 0, [], ?_, rfl, List.nodup_nil, fun _ => rfl⟩, ?_, ⟨0, ?_⟩, .slice none 0 0, alloc_at _ _ _ (by simp <;> omega), (show World.ownsRow _ 0 TpT 1 (.slice none 0 0) 0 [] from ⟨rfl, .inl ⟨rfl, rfl⟩⟩), fun g hg => by simp [Value.ownBlock] at hg⟩
    · exact (alloc_old _ _ _ (by simp <;> omega)).trans ((alloc_old _ _ _ (by simp <;> omega)).trans ((alloc_old _ _ _ (by simp <;> omega)).trans (alloc_at _ _ _ (by simp <;> omega))))
    · exact (alloc_old _ _ _ (by simp <;> omega)).trans ((alloc_old _ _ _ (by simp <;> omega)).trans ((alloc_old _ _ _ (by simp <;> omega)).trans ((alloc_old _ _ _ (by simp <;> omega)).trans (alloc_get _ _))))
    · exact (alloc_old _ _ _ (by simp <;> omega)).trans (alloc_at _ _ _ (by simp <;> omega))
    · exact (alloc_old _ _ _ (by simp <;> omega)).trans ((alloc_old _ _ _ (by simp <;> omega)).trans (alloc_at _ _ _ (by simp <;> omega)))
  have HNO := Lib.hid (And.intro hno (And.intro hf (And.intro hle (And.intro hne hsz))))
  clear hW hmm h2 h3 hit hno hf hle hne hsz
  refine wp_loop (fun a' wr => ∃ (u7 u18 u19 u20 u21 u22 u45 : Value) (j : Nat) (Ds : List Nat), (j ≤ xs.length ∧ UI kd w (fun _ => False) w.heap.size (w.heap.size + 1) (w.heap.size + 2) (w.heap.size + 3) (w.heap.size + 4) (xs.take j) wr ∧ Marks w.heap.size Ds wr) ∧
    a' = { tmps := unionT (.slice (some ⟨g, off, none⟩) xs.length cap) (.pointer (some ⟨w.heap.size + 1, 0, none⟩)) (.pointer (some ⟨w.heap.size + 3, 0, none⟩)) (.pointer (some ⟨w.heap.size + 4, 0, none⟩)) (.map (some w.heap.size)) (.map (some (w.heap.size + 2))) (.int .i64 xs.length) (.int .i64 j) u7 u18 u19 u20 u21 u22 u45, defers := Ds.map markOf }) (fun a' _ => xs.length - (intOf (a'.tmps.getD 17 undef)).toNat) ⟨_, _, _, _, _, _, _, 0, [], ⟨Nat.zero_le _, hU, Marks.none _ _⟩, hA⟩ ?_
  clear hU hA
  rintro _ wr ⟨u7, u18, u19, u20, u21, u22, u45, j, Ds, ⟨hj, hI, hM⟩, rfl⟩
  simp only [unionT]
  by_cases hlt : j < xs.length
  · have hji : (j : Int) < xs.length := by omega
    obtain ⟨x, hx⟩ : ∃ x, xs[j]? = some x := ⟨_, List.getElem?_eq_getElem hlt⟩
    obtain ⟨hit, hk16, hk19⟩ := HI.out x (List.mem_of_getElem? hx)
    have HT := Lib.hid (And.intro hit (And.intro hk16 hk19))
    have y0 : wr.cell? ⟨g, off + j, none⟩ = some (.pointer (some ⟨x, 0, none⟩)) := (cell_of (hI.up.get HG.out.1) _).trans (HG.out.2 j x hx)
    have HJ := Lib.hid (And.intro hI hM)
    have HX := Lib.hid hx
    clear hI hM hx hit hk16 hk19 hlt
    go_wp2_with (first | (go_at_call 46; refine (each_item x (kd x) (tx x) HT.out.2.1 _ (HT.out.1.up HJ.out.1.up)).mono ?_; rintro e w2 ⟨tb, g2, rfl, hsq, htb, hg2, hu2⟩))
    refine range_named fun A2 W2 hA2 hW2 => ?_
    subst hW2
    have hus := hu2.size
    have hDs : ∀ D ∈ Ds, D < W2.heap.size := fun D hD => Nat.lt_of_lt_of_le (lt_of_heap (HJ.out.2.at_ D hD).2) hus
    have hwl := HJ.out.1.up.size
    have hm3 := HJ.out.1.c3.lt
    obtain ⟨clk4, hm4⟩ := HJ.out.1.c4
    have hm4 := lt_of_heap hm4
    have HI2 : Hid (UI kd w (fun z => z = tb ∨ z = g2) w.heap.size (w.heap.size + 1) (w.heap.size + 2) (w.heap.size + 3) (w.heap.size + 4) (xs.take j) W2 ∧ Marks w.heap.size Ds W2) := by
      refine ⟨UI.on (HJ.out.1.weaken fun g' _ hg' e => ?_) hu2, HJ.out.2.up hu2⟩
      omega
    have hn5 : w.heap.size + 4 < wr.heap.size := by
      obtain ⟨v, q, _⟩ := HJ.out.1.row
      exact lt_of_heap q
    have htg : tb < W2.heap.size ∧ g2 < W2.heap.size := by
      obtain ⟨_, _, _, _, q1, q2, _⟩ := hsq
      exact ⟨lt_of_heap q1, lt_of_heap q2⟩
    have HSQ := Lib.hid hsq
    clear hsq
    refine (wpIn_wide (n := 2)).1 ?_
    refine wpIn_rangeFunc_ownG rfl (by omega) (gf := valuesF) (lb := #[.pointer (some ⟨tb, 0, none⟩)]) (by subst hA2; rfl) trivial (enters_of Tryz.func83 (by kernel_rfl) rfl)
      (values_stops tb [x] (by simp) W2 g2 HSQ.out) TwoKeep.trans (fun W l o o' _ h1 h2 _ => TwoKeep.putObj _ W l o o' h1 h2) (Below.refl _ _) (fun _ => rfl)
      (fun (pre : List (OneOf [x])) W => UI kd w (fun z => z = tb ∨ z = g2) w.heap.size (w.heap.size + 1) (w.heap.size + 2) (w.heap.size + 3) (w.heap.size + 4) (xs.take j ++ pre.map (·.1)) W ∧ Marks w.heap.size Ds W ∧ W2.heap.size ≤ W.heap.size) (fun _ _ _ => False)
      (fun s X Y row hs hg hr => ⟨UI.own kd w _ _ _ _ _ _ W2.heap.size (Nat.le_trans hwl hus) (Nat.lt_of_lt_of_le hm3 hus) (Nat.lt_of_lt_of_le hm4 hus) (xs.take j) (s.map (·.1)) X Y row hs.1 hg hr, Marks.own _ Ds hDs [] X Y row hs.2.1 hg hr, Nat.le_trans hs.2.2 hg.size⟩) (fun _ _ _ _ _ h _ _ => h) ⟨by simpa using HI2.out.1, HI2.out.2, Nat.le_refl _⟩
      (fun (y : OneOf [x]) => { tmps := (A2.tmps.setIfInBounds 23 (.pointer (some ⟨y.1, 0, none⟩))).setIfInBounds 8 (.pointer (some ⟨y.1, 0, none⟩)), defers := [] }) ?assign ?body ?done ?stop
    case assign => intro l y W K hK; subst hA2; gi_wp2; simpa [ptrV] using hK
    case body =>
      rintro l pre ⟨y, hy⟩ W ⟨hI, hM, hsW⟩ hpl
      obtain rfl : y = x := by simpa using hy
      have b3 := cell_of hI.b3 0
      obtain ⟨cs0, hc0, hc1, _⟩ := HT.out.1.up hI.up
      have y0 := (cell_of hc0 0).trans hc1
      have yl := lt_of_heap hc0
      obtain ⟨n0, hn0⟩ : ∃ n0, Hid (((xs.take j ++ pre.map (·.1)).map kd).count (kd y) = n0) := ⟨_, rfl⟩
      have hlk := CMap.look (w := W.drew) (hI.c3.up uq) (kd y)
      obtain ⟨es', clk', hst, hcm⟩ := CMap.bump (w := W.drew) (hI.c3.up uq) (kd y)
      rw [hn0.out] at hlk hst
      have hn1 : (n0 : Int) < 100000 := by
        have h1 := List.count_le_length (a := kd y) (l := (xs.take j ++ pre.map (·.1)).map kd)
        rw [hn0.out] at h1
        simp only [List.length_map, List.length_append, List.length_take] at h1
        have hpl2 : pre.length < 1 := hpl
        omega
      have hpl3 : Hid (pre.length < 1) := hpl
      have hwr := IntWalk.i64_in ((n0 : Int) + 1) (by omega)
      simp only [List.getElem?_toArray, List.getElem?_cons_zero] at b3
      have HB := Lib.hid (And.intro hI (And.intro hM hcm))
      clear hI hM hcm hc0 hc1 hpl
      subst hA2
      simp only [List.setIfInBounds_toArray, List.set_cons_succ, List.set_cons_zero]
      gi_wp2
      apply wpIn_one (W := putB W.drew w.heap.size (.map es' clk'))
      · gi_region
        all_goals exact ⟨rfl, rfl, rfl⟩
      rintro A3 W3 hA3 hW3
      obtain ⟨v, hv, hrow, hown⟩ := HB.out.1.row
      obtain ⟨va, vcap, rfl⟩ := ownsRow_form hrow
      have hz3 : W3.heap.size = W.heap.size := by subst hW3; exact putB_size _ _ _
      have hot3 : ∀ x, x ≠ w.heap.size → W3.heap[x]? = W.heap[x]? := fun x hx => by subst hW3; exact putB_other _ _ _ _ hx
      have hos3 : W3.os = W.os ∧ W3.tape = W.tape ∧ W3.output = W.output := by subst hW3; exact ⟨rfl, rfl, rfl⟩
      have hcm3 := HB.out.2.2 W3 (by subst hW3; exact putB_same _ _ _ HB.out.1.c3.lt)
      clear hW3 hst hlk hwr
      subst hA3
      have hrb : ∀ g', (Value.slice va (xs.take j ++ pre.map (·.1)).length vcap).ownBlock = some g' → ∃ cur, W.heap[g']? = some (.cells cur TpT (0, 0)) := fun g' hg' => by
        rcases hrow.2 with ⟨hv, _⟩ | ⟨g'', cap, cur, hv, _, hc, _⟩
        · rw [hv] at hg'; cases hg'
        · rw [hv] at hg'; cases hg'; exact ⟨cur, hc⟩
      have row3 : Hid (W3.ownsRow 0 TpT 1 (.slice va (xs.take j ++ pre.map (·.1)).length vcap) (xs.take j ++ pre.map (·.1)).length ((xs.take j ++ pre.map (·.1)).map ptrV)) := ownsRow_keep hrow fun g' hg' => hot3 g' (fun e => by
        obtain ⟨cur, hc⟩ := hrb g' hg'
        obtain ⟨es, clk, cs, h1, _⟩ := HB.out.1.c3
        rw [e, h1] at hc; cases hc)
      have hd3 : Hid (W3.heap[w.heap.size + 4]? = some (.cells #[.slice va (xs.take j ++ pre.map (·.1)).length vcap] SlT (0, 0))) := (hot3 _ (by omega)).trans hv
      have a0 := cell_of hd3.out 0
      have f0 := ice_of hd3.out 0
      have a4 := lt_of_heap hd3.out
      simp only [List.getElem?_toArray, List.getElem?_cons_zero, List.getElem?_cons_succ] at a0
      have y1 : W3.cell? ⟨y, 0, none⟩ = some (.int .i64 (kd y)) := by
        obtain ⟨cs0, hc0, hc1, _⟩ := HT.out.1.up HB.out.1.up
        refine (cell_of ((hot3 y (fun e => ?_)).trans hc0) 0).trans hc1
        obtain ⟨es, clk, cs, h1, _⟩ := HB.out.1.c3
        rw [e, h1] at hc0; cases hc0
      have e19 := HT.out.2.2
      have HZ : Hid ((Value.slice va (xs.take j ++ pre.map (·.1)).length vcap).ownBlock ≠ some (w.heap.size + 4)) := fun e => by
        obtain ⟨cur, hc⟩ := hrb _ e
        rw [hv] at hc
        injection hc with hc
        injection hc with _ hc _
        exact absurd hc (by decide)
      have hfin := HB.out.1.up.size
      have HR := Lib.hid (And.intro hz3 (And.intro hos3 (And.intro hot3 (And.intro hcm3 (And.intro hv (And.intro hrow hown))))))
      obtain ⟨nn, hnn⟩ : ∃ nn, Hid ((xs.take j ++ pre.map (·.1)).length = nn) := ⟨_, rfl⟩
      obtain ⟨vs, hvs⟩ : ∃ vs, Hid ((xs.take j ++ pre.map (·.1)).map ptrV = vs) := ⟨_, rfl⟩
      have hnb : nn ≤ 100000 := by
        have := hnn.out
        simp only [List.length_map, List.length_append, List.length_take] at this
        have := hpl3.out
        omega
      rw [hnn.out] at a0 row3 hd3 HZ
      rw [hvs.out] at row3
      clear hz3 hos3 hot3 hcm3 hv hrow hown hrb y0 b3 yl
      obtain ⟨i0, hi, hz0, hz1, hz2⟩ := info_parts typ_info
      gi_wp2_with (first | (gi_at_builtin; go_must (refine wpListIn_append_new rfl _ _ 55 rfl TpT i0 (.pointer none) 1 8 Tryz.underlying55 hi hz0 hz1 hz2 rfl (by decide) (.slice va nn vcap) nn vs rfl (ownsRow_up row3.out uq) _ 1 1 rfl (by first | rfl | (simp; done) | omega) rfl (by intro u hu; have hu2 : u = .pointer (some ⟨y, 0, none⟩) := (by simpa using hu); rw [hu2]; rfl) (by unfold maxLen; omega) (by omega) ?_; intro sa' cap' w7 hown' hgrow hblk; have hd := Lib.hid (grown_get hgrow (Up.get (w := W3) uq hd3.out) HZ.out); have a0 := cell_of hd.out 0; have f0 := ice_of hd.out 0; have a4 := lt_of_heap hd.out; simp only [List.getElem?_toArray, List.getElem?_cons_zero, List.getElem?_cons_succ] at a0; have HY := Lib.hid (And.intro hown' (And.intro hgrow hblk)); clear hown' hgrow hblk)))
      obtain ⟨hz3, hos3, hot3, hcm3, hv, hrow, hown⟩ := HR.out
      have hn9 := hnn.out
      subst hn9
      have hv9 := hvs.out
      subst hv9
      obtain ⟨q1, q2, q3⟩ := union_body (kd := kd) (y := y) HB.out.1 HB.out.2.1 ⟨by omega, by omega, by omega, by omega, by omega, by omega, by omega⟩ ⟨by omega, by omega⟩ hz3 hos3 hot3 hcm3 hv rfl hrow hown (fun g' hg' e => by omega) HY.out.1 HY.out.2.1 HY.out.2.2
      refine ⟨⟨q2, fun k o hk ho hoc => q3 k o (by omega) (by omega) (fun e => ?_) ho⟩, ⟨q2, fun x o hx ho hoc => q3 x o (by omega) (by omega) (fun e => (hown x e).2 hx) ho⟩, ?_, q1.2, by omega⟩
      · rcases hrow.2 with ⟨hv', _⟩ | ⟨g'', cap, cur, hv', _, hc, _⟩
        · rw [hv'] at e; cases e
        · rw [hv'] at e; cases e; rw [hc] at ho; cases ho; cases hoc
      · rw [List.map_append, ← List.append_assoc]
        exact q1.1
    case done =>
      rintro D zs W hD hzs ⟨hI, hM, hsW⟩ hK
      have HF : Hid (UI kd w (fun _ => False) w.heap.size (w.heap.size + 1) (w.heap.size + 2) (w.heap.size + 3) (w.heap.size + 4) (xs.take (j + 1)) W ∧ Marks w.heap.size (D :: Ds) W) := by
        rw [hzs] at hI
        rw [show xs.take (j + 1) = xs.take j ++ [x] by rw [List.take_add_one, HX.out]; rfl]
        exact ⟨hI.weaken fun _ _ _ e => e.elim, hM.cons hK (by omega) fun h => by have := hDs D h; omega⟩
      clear hI hM hK hzs
      subst hA2
      go_wp2_with fail
      exact ⟨⟨_, _, _, _, _, _, _, j + 1, D :: Ds, ⟨by omega, HF.out.1, HF.out.2⟩, rfl⟩, by simp [intOf]; omega⟩
    case stop => rintro D c pre W hD hSp h hK; exact h.elim
  · obtain rfl : j = xs.length := by omega
    rw [List.take_length] at hI
    obtain ⟨hno, hf, hle, hne, hsz⟩ := HNO.out
    have hk0 : ∀ k : Int, (∀ z ∈ xs, kd z ≠ k) → (xs.map kd).count k = 0 := fun k hk => List.count_eq_zero.2 fun hm => by
      obtain ⟨z, hz, e⟩ := List.mem_map.1 hm
      exact hk z hz e
    have hlk1 := hI.c3.look 1
    have hlk2 := hI.c3.look 2
    rw [hk0 1 (fun z hz => (hno z hz).2.1)] at hlk1
    rw [hk0 2 (fun z hz => (hno z hz).2.2)] at hlk2
    have hix0 : ∀ w, (Instr.index 103 (.agg #[.int .i64 1, .int .i64 2]) (.int .i64 0)).run Tryz.prog w = .ok (.int .i64 1) w := fun _ => by kernel_rfl
    have hix1 : ∀ w, (Instr.index 103 (.agg #[.int .i64 1, .int .i64 2]) (.int .i64 1)).run Tryz.prog w = .ok (.int .i64 2) w := fun _ => by kernel_rfl
    have b3 := cell_of hI.b3 0
    simp only [List.getElem?_toArray, List.getElem?_cons_zero] at b3
    have hxs : xs ≠ [] := fun e => by subst e; simp at hf
    obtain ⟨v, hv5, hrow, hown⟩ := hI.row
    obtain ⟨gr, rcap, cur, rfl, hgr, hcap, hcur⟩ := row_cells hrow hxs
    have b5 := cell_of hv5 0
    simp only [List.getElem?_toArray, List.getElem?_cons_zero] at b5
    have HE := Lib.hid (And.intro hI (And.intro hM (And.intro hgr (And.intro hcap (And.intro hcur (And.intro (hown gr rfl).1 hf))))))
    have HS := Lib.hid (And.intro hle (And.intro hne hsz))
    clear hI hM hgr hcur hown hrow hv5 hf hno hk0 hle hne hsz hlt hj
    -- a block that is no row of types
    have hnr : Hid (∀ (b : Nat) (cs : Array Value) (t : TypeId) (f : Nat × Nat), t ≠ TpT → wr.heap[b]? = some (.cells cs t f) → b ≠ gr) := fun b cs t f ht hb e => by
      have q := HE.out.2.2.1
      rw [← e, hb] at q
      injection q with q
      injection q with _ q _
      exact ht q
    have hnm : Hid (∀ (b : Nat) (o : Obj), o.isCells = false → wr.heap[b]? = some o → b ≠ gr) := fun b o ho hb e => by
      have q := HE.out.2.2.1
      rw [← e, hb] at q
      cases q
      cases ho
    obtain ⟨p, hpe⟩ : ∃ p : Nat → Bool, Hid (p = fun z => goesK (fun k => (xs.map kd).count k) (kd z)) := ⟨_, rfl⟩
    have hf : Hid ((xs.filter fun z => !p z) = [x, y]) := by unfold Hid; rw [hpe.out]; exact HE.out.2.2.2.2.2.2
    have hp : Hid (∀ z ∈ xs, ∀ W, Kept (fun b => b = gr) wr W → Calls Tryz.prog 47 #[.pointer (some ⟨z, 0, none⟩), .pointer (some ⟨w.heap.size + 1, 0, none⟩), .pointer (some ⟨w.heap.size + 3, 0, none⟩)] W fun e W' => e = .returned (.bool (p z)) ∧ Up W W') := fun z hz W hW => by
      have h1 := goes_any (kd z) (tx z) (fun k => (xs.map kd).count k) z w.heap.size (w.heap.size + 1) (w.heap.size + 3) W (by
        obtain ⟨cs, q1, q2⟩ := (HI.out z hz).1.up HE.out.1.up
        exact ⟨cs, hW.get q1 (hnr.out z _ _ _ (by decide) q1), q2⟩) (hW.get HE.out.1.b3 (hnr.out _ _ _ _ (by decide) HE.out.1.b3)) (HE.out.1.c3.keep (hW.block _ HE.out.1.c3.lt (by
          obtain ⟨es, clk, cs, q, _⟩ := HE.out.1.c3
          exact hnm.out _ _ rfl q))) (HNO.out.1 z hz).1
      rw [hpe.out]
      exact h1
    have hx : Hid (x ∈ xs) := by have q : x ∈ xs.filter fun z => !p z := by rw [hf.out]; simp
                                 exact (List.mem_filter.1 q).1
    have hy : Hid (y ∈ xs) := by have q : y ∈ xs.filter fun z => !p z := by rw [hf.out]; simp
                                 exact (List.mem_filter.1 q).1
    have h2c : Hid (2 ≤ rcap) := by
      have q := List.length_filter_le (fun z => !p z) xs
      rw [hf.out] at q
      exact Nat.le_trans q HE.out.2.2.2.1
    have hlen6 : Hid (xs.length ≤ 1000000) := by unfold Hid; omega
    -- what stands when some went out
    have hafter : Hid (∀ (w2 : World) (cs2 : Array Value), Kept (fun b => b = gr) wr w2 → w2.heap[gr]? = some (.cells cs2 TpT (0, 0)) → (∀ j z, [x, y][j]? = some z → cs2[0 + j]? = some (ptrV z)) →
        TwoAt w2 gr 0 x y (kd x) (kd y) (tx x) (tx y) ∧ Marks w.heap.size Ds w2 ∧ Up w w2 ∧ (∀ z, z = x ∨ z = y → w2.cell? ⟨z, 6, none⟩ = some (.int .i64 (sz z)) ∧ sz z ≤ 1099511627776 ∧ z < w2.heap.size) ∧ cs2[0]? = some (ptrV x) ∧ cs2[1]? = some (ptrV y)) := fun w2 cs2 hk hg hc => by
      have e0 := hc 0 x rfl
      have e1 := hc 1 y rfl
      have hit : ∀ z ∈ xs, Item w2 z (kd z) (tx z) := fun z hz => by
        obtain ⟨cs, q1, q2⟩ := (HI.out z hz).1.up HE.out.1.up
        exact ⟨cs, hk.get q1 (hnr.out z _ _ _ (by decide) q1), q2⟩
      refine ⟨⟨hit x hx.out, hit y hy.out, (cell_of hg 0).trans e0, (cell_of hg 1).trans e1, lt_of_heap hg, (HS.out.2.2 x hx.out).2.2, (HS.out.2.2 y hy.out).2.2⟩, HE.out.2.1.kept HE.out.2.2.1 hk, ?_, fun z hz => ?_, e0, e1⟩
      · refine ⟨hk.os.trans HE.out.1.up.os, hk.tape.trans HE.out.1.up.tape, hk.output.trans HE.out.1.up.output, Nat.le_trans HE.out.1.up.size hk.size, fun i hi => (hk.block i (Nat.lt_of_lt_of_le hi HE.out.1.up.size) (fun e => by have := HE.out.2.2.2.2.2.1; have e : i = gr := e; omega)).trans (HE.out.1.up.block i hi)⟩
      · have hzx : z ∈ xs := hz.elim (fun e => e ▸ hx.out) (fun e => e ▸ hy.out)
        obtain ⟨cs, q1, q2⟩ := (HI.out z hzx).1
        refine ⟨?_, (HS.out.2.2 z hzx).2.1, ?_⟩
        · have q3 := hk.get (HE.out.1.up.get q1) (hnr.out z _ _ _ (by decide) (HE.out.1.up.get q1))
          rw [cell_of q3, ← cell_of q1]
          exact (HS.out.2.2 z hzx).1
        · exact lt_of_heap (hk.get (HE.out.1.up.get q1) (hnr.out z _ _ _ (by decide) (HE.out.1.up.get q1)))
    go_wp2_with fail
    refine wp_loop_rounds 3 ?_
    rw [rounds_succ]
    go_wp2_with fail
    rw [rounds_succ]
    go_wp2_with fail
    rw [rounds_succ]
    go_wp2_with (first | (go_at_call 49; refine (DeleteFunc_goes p xs gr 0 rcap (w.heap.size + 1) (w.heap.size + 3) cur _ HE.out.2.2.1 HE.out.2.2.2.2.1 hlen6.out HE.out.2.2.2.1 hp.out).mono ?_; rintro e w2 ⟨rfl, hk2, cs2, hg2, hs2, hc2⟩; rw [hf.out] at hc2; simp only [hf.out, List.length_cons, List.length_nil, Nat.zero_add, Nat.reduceAdd]; have HA := Lib.hid (And.intro (hafter.out w2 cs2 hk2 hg2 hc2) hg2); clear hk2 hg2 hs2 hc2) | (go_at_call 48; refine (sorted_two gr 0 rcap x y (kd x) (kd y) (tx x) (tx y) _ HA.out.1.1 HS.out.1 HS.out.2.1).mono ?_; rintro e w3 ⟨rfl, hu3⟩) | (go_at_call 52; refine (Clip_any ⟨gr, 0, none⟩ 2 rcap h2c.out (by decide) _).mono ?_; rintro e w4 ⟨rfl, hu4⟩) | (go_at_call 26; refine (made_any 16 0 ⟨#[]⟩ (.slice (some ⟨gr, 0, none⟩) 2 2) (.slice none 0 0) (.slice none 0 0) [(x, sz x), (y, sz y)] _ (Parts.up (w := w2) (parts_two HA.out.1.1 (HA.out.1.2.2.2.1 x (.inl rfl)) (HA.out.1.2.2.2.1 y (.inr rfl))) uq) ⟨_, _, _, rfl⟩ ⟨_, _, _, rfl⟩).mono ?_; rintro e w5 ⟨c, rfl, hc5, hl5, hu5⟩))
    have hu25 : Up w2 w5 := uq
    have hu : Up w w5 := HA.out.1.2.2.1.trans hu25
    have hcl : w.heap.size ≤ c := Nat.le_trans (Up.size (HA.out.1.2.2.1.trans (show Up w2 _ from uq))) hl5
    refine leaves_marks w.heap.size Ds _ (HA.out.1.2.1.up hu25) fun W' hW' => ?_
    refine ⟨.pointer (some ⟨c, 0, none⟩), by simp [results, Tryz.results33, go_sem], c, gr, cs2, (0, 0), rfl, hcl, HE.out.2.2.2.2.2.1, hW'.cells _ _ _ _ hc5, hW'.cells _ _ _ _ (hu25.get HA.out.2), HA.out.1.2.2.2.2.1, HA.out.1.2.2.2.2.2, Below.trans hu hW'.low⟩
  
end Go.Proofs.YtbghpkoimbmijaaGreatDoor

/- Walks: the text of a union. -/
namespace Go.Proofs.YtbghpkoimbmijaaGreatDoor
open Go.RowKit
set_option linter.unusedSimpArgs false

abbrev StT : TypeId := 9
theorem str_info : (Tryz.prog.info? StT).map (fun i => (i.zero, i.size, i.bytes)) = some (some (.string ⟨#[]⟩), 1, 16) := by kernel_rfl

theorem row_cells_gen {w : World} {e : TypeId} {v : Value} {n : Nat} {vs : List Value} (h : w.ownsRow 0 e 1 v n vs) (hn : 0 < n) : ∃ g cap cur, v = .slice (some ⟨g, 0, none⟩) n cap ∧ w.heap[g]? = some (.cells cur e (0, 0)) ∧ n ≤ cap ∧ ∀ j u, vs[j]? = some u → cur[0 + j]? = some u := by
  have hl := h.1
  rcases h.2 with ⟨_, h0⟩ | ⟨g, cap, cur, hv, _, hc, hn, _, _, ht⟩
  · omega
  · refine ⟨g, cap, cur, hv, hc, hn, fun j u hu => ?_⟩
    have hj := (List.getElem?_eq_some_iff.1 hu).1
    rw [Nat.mul_one] at ht hl
    rw [← ht] at hu
    rw [List.getElem?_take, if_pos (by omega)] at hu
    rw [Nat.zero_add, ← Array.getElem?_toList]
    exact hu

def barS : ByteArray := ⟨#[32, 124, 32]⟩
def joinS (l : List ByteArray) : ByteArray := ⟨(Lib.join (l.map (·.data.toList)) barS.data.toList).toArray⟩

set_option maxRecDepth 100000 in
set_option maxHeartbeats 3200000 in
theorem spelled_union (kd : Nat → Int) (tx : Nat → ByteArray) (xs : List Nat) (b g off cap : Nat) (cs : Array Value) (fz : Nat × Nat) (cb : Array Value) (w : World) (hb : w.heap[b]? = some (.cells cb TyT (0, 0))) (hb0 : cb[0]? = some (.int .i64 16)) (hb3 : cb[3]? = some (.slice (some ⟨g, off, none⟩) xs.length cap))
    (h1 : w.heap[g]? = some (.cells cs TpT fz)) (h3 : ∀ j x, xs[j]? = some x → cs[off + j]? = some (ptrV x)) (hlen : xs.length ≤ 100000) (hne : xs ≠ []) (hit : ∀ x ∈ xs, Item w x (kd x) (tx x) ∧ (tx x).size ≤ 1000000000)
    (hj : (Lib.join ((xs.map fun z => partS (kd z) (tx z)).map (·.data.toList)) barS.data.toList).length ≤ 140737488355328) :
    Calls Tryz.prog 53 #[.pointer (some ⟨b, 0, none⟩)] w fun e w' => e = .returned (.string (joinS (xs.map fun z => partS (kd z) (tx z)))) ∧ Up w w' := by
  have HI := Lib.hid hit
  have HC := Lib.hid (And.intro h1 h3)
  have HJ := Lib.hid hj
  have a0 := (cell_of hb 0).trans hb0
  have a3 := (cell_of hb 3).trans hb3
  have a4 := lt_of_heap hb
  clear h1 h3 hit hj hb hb0 hb3
  go_enter Tryz.func53, Tryz.ntmps53
  go_wp2_with fail
  go_loopw [11, 141] (fun v i wr => ∃ j : Nat, j ≤ xs.length ∧ i = .int .i64 j ∧ wr.ownsRow 0 StT 1 v j ((xs.take j).map fun z => .string (partS (kd z) (tx z))) ∧ (∀ g, v.ownBlock = some g → w.heap.size ≤ g) ∧ Up w wr) (fun _ i _ => xs.length - (intOf i).toNat)
  case atStart => exact ⟨0, Nat.zero_le _, rfl, (show w.ownsRow 0 StT 1 (.slice none 0 0) 0 [] from ⟨rfl, .inl ⟨rfl, rfl⟩⟩), (fun g hg => by simp [Value.ownBlock] at hg), uq⟩
  case round =>
    obtain ⟨j, hj, rfl, hv, hvb, hup⟩ := hrel
    by_cases hlt : j < xs.length
    · have hji : (j : Int) < xs.length := by omega
      obtain ⟨x, hx⟩ : ∃ x, xs[j]? = some x := ⟨_, List.getElem?_eq_getElem hlt⟩
      have y0 : wr.cell? ⟨g, off + j, none⟩ = some (.pointer (some ⟨x, 0, none⟩)) := (cell_of (hup.get HC.out.1) _).trans (HC.out.2 j x hx)
      have HT := Lib.hid (HI.out x (List.mem_of_getElem? hx))
      obtain ⟨va, vcap, rfl⟩ := ownsRow_form hv
      have HV := Lib.hid (And.intro hv hvb)
      have HNX : Hid ((xs.take (j + 1)).map (fun z => Value.string (partS (kd z) (tx z))) = (xs.take j).map (fun z => Value.string (partS (kd z) (tx z))) ++ [.string (partS (kd x) (tx x))]) := by
        unfold Hid
        rw [List.take_add_one, hx, List.map_append]
        rfl
      obtain ⟨vs, hvs⟩ : ∃ vs, Hid ((xs.take j).map (fun z => Value.string (partS (kd z) (tx z))) = vs) := ⟨_, rfl⟩
      rw [hvs.out] at HV HNX
      obtain ⟨pt, hpt⟩ : ∃ pt, Hid (roundS [15] (kd x) (tx x) = pt) := ⟨_, rfl⟩
      have HNX : Hid ((xs.take (j + 1)).map (fun z => Value.string (partS (kd z) (tx z))) = vs ++ [.string pt]) := by unfold Hid; rw [HNX.out, ← hpt.out]; rfl
      obtain ⟨i0, hi, hz0, hz1, hz2⟩ := info_parts str_info
      clear hx hv hvb hlt
      go_wp2_with (first | (go_at_call 51; refine (round_said [15] wr.heap.size 1 x (kd x) (tx x) _ (HT.out.1.up uq) HT.out.2 (by intro j z hz; cases j with | zero => simp at hz; subst hz; simp | succ j => simp at hz) (by simp) (by simp)).mono ?_; rintro e w2 ⟨rfl, hu2⟩; rw [hpt.out]) | (at_builtin; go_must (refine wpList_append_new rfl _ _ 23 rfl StT i0 (.string ⟨#[]⟩) 1 16 Tryz.underlying23 hi hz0 hz1 hz2 rfl (by decide) (.slice va j vcap) j vs rfl (ownsRow_up HV.out.1 uq) _ 1 1 rfl (by first | rfl | (simp; done) | omega) rfl (by intro u hu; have hu2 : u = .string pt := (by simpa using hu); rw [hu2]; rfl) (by unfold maxLen; omega) (by omega) ?_; intro sa' cap' w7 hown' hgrow hblk; have HY := Lib.hid (And.intro hown' (And.intro hgrow hblk)); clear hown' hgrow hblk)))
      refine ⟨⟨j + 1, by omega, by simp, by rw [HNX.out]; exact HY.out.1, fun g hg => ?_, ?_⟩, by simp [intOf]; omega⟩
      · rcases HY.out.2.2 with q | ⟨g', q, q2⟩
        · exact HV.out.2 g (by rw [← q]; exact hg)
        · rw [q] at hg
          cases hg
          have := hup.size
          have := hu2.size
          simp only [World.size_alloc] at this
          omega
      · refine Up.grown (W := _) ?_ HY.out.2.1 (fun r e => HV.out.2 r e)
        exact uq
    · obtain rfl : j = xs.length := by omega
      rw [List.take_length] at hv
      obtain ⟨rg, rcap, cur, rfl, hrg, hrc, hcur⟩ := row_cells_gen hv (List.length_pos_iff.2 hne)
      have HR := Lib.hid (And.intro hrg (And.intro hrc hcur))
      have hlj : Hid ((xs.map fun z => partS (kd z) (tx z)).length = xs.length) := List.length_map _
      have hJ := Tryz.strings_Join rg 0 rcap (xs.map fun z => partS (kd z) (tx z)) barS wr (fun i s hs => (cell_of hrg _).trans (hcur i (.string s) (by
        rw [List.getElem?_map] at hs
        rw [List.getElem?_map]
        cases hq : xs[i]? with
        | none => rw [hq] at hs; cases hs
        | some z => rw [hq] at hs; cases hs; rfl))) (lt_of_heap hrg) (by rw [hlj.out]; omega) (by rw [hlj.out]; exact hrc) HJ.out
      rw [hlj.out] at hJ
      obtain ⟨js, hjs⟩ : ∃ js, Hid (joinS (xs.map fun z => partS (kd z) (tx z)) = js) := ⟨_, rfl⟩
      have HJ2 : Hid (Calls Tryz.prog 74 #[.slice (some ⟨rg, 0, none⟩) xs.length rcap, .string barS] wr fun e w' => e = .returned (.string js) ∧ Below wr.heap.size wr w') := by
        unfold Hid
        rw [← hjs.out]
        exact hJ
      clear hlt hv hvb hrg hrc hcur hJ
      go_wp2_with (first | (go_at_call 74; refine HJ2.out.mono ?_; rintro e w2 ⟨rfl, hu2⟩; have hu2 : Up wr w2 := hu2))
      refine bodyPost_ret (v := .string js) (by simp [results, Tryz.results53, go_sem]) rfl ?_
      exact ⟨by rw [hjs.out], uq⟩

set_option maxHeartbeats 1600000 in
/-- of a type whose text was not asked for yet -/
theorem text_new (b : Nat) (s : ByteArray) (cs : Array Value) (w : World) (hb : w.heap[b]? = some (.cells cs TyT (0, 0))) (h7 : cs[7]? = some (.string ⟨#[]⟩)) (hsp : ∀ W, Up w W → Calls Tryz.prog 53 #[.pointer (some ⟨b, 0, none⟩)] W fun e W' => e = .returned (.string s) ∧ Up W W') :
    TextOk b s (fun cs' => cs' = cs.setIfInBounds 7 (.string s)) w := by
  intro W hW
  have hb' := hW.get hb
  have HB := Lib.hid hb'
  have HS := Lib.hid (hsp W hW)
  have a7 := (cell_of hb' 7).trans h7
  have f7 := ice_of hb' 7
  have a4 := lt_of_heap hb'
  have H7 := Lib.hid h7
  clear hb hb' hsp h7
  go_enter Tryz.func34, Tryz.ntmps34
  go_wp2_with (first | (go_at_call 53; refine HS.out.mono ?_; rintro e w2 ⟨rfl, hu2⟩; have HL2 := Lib.hid (hu2.get HB.out); have f7 := ice_of HL2.out 7; have a7 := (cell_of HL2.out 7).trans H7.out; have a4 := lt_of_heap HL2.out))
  go_ret
  refine ⟨by rfl, ⟨_, setCell_block (i := 7) HL2.out (.string s), rfl⟩, Kept.setCell (S := fun x => x = b) (p := ⟨b, 7, none⟩) (Kept.of_up hu2) (.inl rfl) _⟩

end Go.Proofs.YtbghpkoimbmijaaGreatDoor
