import Derived.Test.YtbghpkoimbmijaaGreatDoorM21
/- YtbghpkoimbmijaaGreatDoorM22: lemmas of the proof, in order: AA, AB, AC. -/
/- Arenas in general: what is in one; has, all. -/
namespace Go.Proofs.YtbghpkoimbmijaaGreatDoor
open Go.RowKit
set_option linter.unusedSimpArgs false

theorem has_in (dv : Value) (A n tcap : Nat) (ta : Option Addr) (mv : Value) (z : Nat) (hz : z < n) (w : World) (hA : w.heap[A]? = some (.cells #[.slice ta n tcap, mv, dv] ArT (0, 0))) :
    Calls Tryz.prog 29 #[.pointer (some ⟨A, 0, none⟩), .int .i64 z] w fun e w' => e = .returned (.bool true) ∧ Up w w' := by
  have a0 := cell_of hA 0
  have a4 := lt_of_heap hA
  simp only [List.getElem?_toArray, List.getElem?_cons_zero, List.getElem?_cons_succ] at a0
  have hzi : (z : Int) < n := by omega
  clear hA
  go_enter Tryz.func29, Tryz.ntmps29
  go_wp2_with fail
  (try go_quiet (fail))
  (try go_wp2_with fail)
  go_ret
  exact ⟨rfl, uq⟩

set_option maxRecDepth 100000 in
set_option maxHeartbeats 3200000 in
theorem all_in (dv : Value) (A : Nat) (tv mv : Value) (bs zs : List Nat) (a : Option Addr) (cap : Nat) (w : World) (hA : w.heap[A]? = some (.cells #[tv, mv, dv] ArT (0, 0))) (hrow : w.ownsRow 0 TpT 1 tv bs.length (bs.map ptrV))
    (hz : ∀ (j z : Nat), zs[j]? = some z → ∃ b off, a = some ⟨b, off, none⟩ ∧ b < w.heap.size ∧ w.cell? ⟨b, off + j, none⟩ = some (.int .i64 z)) (hr : ∀ z ∈ zs, z < bs.length) (hf : zs.length ≤ 1000000) :
    Calls Tryz.prog 23 #[.pointer (some ⟨A, 0, none⟩), .slice a zs.length cap] w fun e w' => ∃ v, e = .returned (.tuple #[v, .bool true]) ∧ w'.ownsRow 0 TpT 1 v zs.length (zs.map fun z => ptrV (bs.getD z 0)) ∧ (∀ g, v.ownBlock = some g → w.heap.size ≤ g) ∧ Up w w' := by
  obtain ⟨ta, tcap, rfl⟩ := ownsRow_form hrow
  have HA := Lib.hid hA
  have HZ := Lib.hid hz
  have HR := Lib.hid hr
  have HW := Lib.hid hrow
  clear hA hz hr hrow
  go_enter Tryz.func23, Tryz.ntmps23
  go_wp2_with fail
  go_loopw [6, 11] (fun v i wr => ∃ j : Nat, j ≤ zs.length ∧ i = .int .i64 j ∧ wr.ownsRow 0 TpT 1 v j ((zs.take j).map fun z => ptrV (bs.getD z 0)) ∧ (∀ g, v.ownBlock = some g → w.heap.size ≤ g) ∧ Up w wr) (fun _ i _ => zs.length - (intOf i).toNat)
  case atStart => exact ⟨0, Nat.zero_le _, rfl, (show w.ownsRow 0 TpT 1 (.slice none 0 0) 0 [] from ⟨rfl, .inl ⟨rfl, rfl⟩⟩), (fun g hg => by simp [Value.ownBlock] at hg), uq⟩
  case round =>
    obtain ⟨j, hj, rfl, hv, hvb, hup⟩ := hrel
    by_cases hlt : j < zs.length
    · have hji : (j : Int) < zs.length := by omega
      obtain ⟨z, hzj⟩ : ∃ z, zs[j]? = some z := ⟨_, List.getElem?_eq_getElem hlt⟩
      obtain ⟨b, off, rfl, hbl, hc⟩ := HZ.out j z hzj
      have hzl := HR.out z (List.mem_of_getElem? hzj)
      have y0 := (hup.cells _ _ hbl).trans hc
      obtain ⟨va, vcap, rfl⟩ := ownsRow_form hv
      have HV := Lib.hid (And.intro hv hvb)
      have HH := Lib.hid (hup.get HA.out)
      have a0 := cell_of HH.out 0
      have a4 := lt_of_heap HH.out
      simp only [List.getElem?_toArray, List.getElem?_cons_zero, List.getElem?_cons_succ] at a0
      obtain ⟨tg, rfl, htg, hpt⟩ : ∃ tg, ta = some ⟨tg, 0, none⟩ ∧ tg < wr.heap.size ∧ wr.cell? ⟨tg, z, none⟩ = some (ptrV (bs.getD z 0)) := by
        rcases HW.out.2 with ⟨_, h0⟩ | ⟨g, cap', cur, hv', _, hg, _⟩
        · omega
        · cases hv'
          have hl := lt_of_heap hg
          refine ⟨g, rfl, Nat.lt_of_lt_of_le hl hup.size, (hup.cells _ _ hl).trans ?_⟩
          have q := HW.out.cells (g := g) rfl z (ptrV (bs.getD z 0)) (by simp [List.getD, List.getElem?_eq_getElem hzl])
          rw [Addr.add_lit] at q
          simpa using q
      have hpt : wr.cell? ⟨tg, z, none⟩ = some (.pointer (some ⟨bs.getD z 0, 0, none⟩)) := hpt
      obtain ⟨p, hp⟩ : ∃ p, Hid (bs.getD z 0 = p) := ⟨_, rfl⟩
      rw [hp.out] at hpt
      have hzi : (z : Int) < bs.length := by omega
      have HNX : Hid ((zs.take (j + 1)).map (fun z => ptrV (bs.getD z 0)) = (zs.take j).map (fun z => ptrV (bs.getD z 0)) ++ [.pointer (some ⟨p, 0, none⟩)]) := by
        unfold Hid
        rw [List.take_add_one, hzj, List.map_append, ← hp.out]
        rfl
      obtain ⟨i0, hi, hz0, hz1, hz2⟩ := info_parts typ_info
      clear hzj hc hv hvb
      go_wp2_with (first | (go_at_call 29; refine (has_in dv A bs.length tcap _ _ z hzl _ (Up.get (w := wr) uq HH.out)).mono ?_; rintro e w2 ⟨rfl, hu2⟩; have hh := hu2.get HH.out; have a0 := cell_of hh 0; have a4 := lt_of_heap hh; simp only [List.getElem?_toArray, List.getElem?_cons_zero, List.getElem?_cons_succ] at a0; have hpt := (hu2.cells _ _ htg).trans hpt; clear hh) | (at_builtin; go_must (refine wpList_append_new rfl _ _ 55 rfl TpT i0 (.pointer none) 1 8 Tryz.underlying55 hi hz0 hz1 hz2 rfl (by decide) (.slice va j vcap) j ((zs.take j).map fun z => ptrV (bs.getD z 0)) rfl (ownsRow_up HV.out.1 uq) _ 1 1 rfl (by first | rfl | (simp; done) | omega) rfl (by intro u hu; have hu2 : u = .pointer (some ⟨p, 0, none⟩) := (by simpa using hu); rw [hu2]; rfl) (by unfold maxLen; omega) (by omega) ?_; intro sa' cap' w7 hown' hgrow hblk; have HY := Lib.hid (And.intro hown' (And.intro hgrow hblk)); clear hown' hgrow hblk)))
      refine ⟨⟨j + 1, by omega, by simp, by rw [HNX.out]; exact HY.out.1, fun g hg => ?_, ?_⟩, by simp [intOf]; omega⟩
      · rcases HY.out.2.2 with q | ⟨g', q, q2⟩
        · exact HV.out.2 g (by rw [← q]; exact hg)
        · rw [q] at hg
          cases hg
          have := hup.size
          have := hu2.size
          omega
      · refine Up.grown (W := _) ?_ HY.out.2.1 (fun r e => HV.out.2 r e)
        exact uq
    · obtain rfl : j = zs.length := by omega
      rw [List.take_length] at hv
      clear hlt
      go_wp2_with fail
      refine bodyPost_ret (v := .tuple #[_, .bool true]) (by simp [results, Tryz.results23, go_sem]; rfl) rfl ?_
      exact ⟨_, rfl, hv, hvb, uq⟩

theorem has_not (dv : Value) (A n tcap : Nat) (ta : Option Addr) (mv : Value) (z : Int) (hz : z < 0 ∨ (n : Int) ≤ z) (w : World) (hA : w.heap[A]? = some (.cells #[.slice ta n tcap, mv, dv] ArT (0, 0))) :
    Calls Tryz.prog 29 #[.pointer (some ⟨A, 0, none⟩), .int .i64 z] w fun e w' => e = .returned (.bool false) ∧ Up w w' := by
  have a0 := cell_of hA 0
  have a4 := lt_of_heap hA
  simp only [List.getElem?_toArray, List.getElem?_cons_zero, List.getElem?_cons_succ] at a0
  clear hA
  by_cases h0 : z < 0
  · have h1 : ¬ 0 ≤ z := by omega
    go_enter Tryz.func29, Tryz.ntmps29
    go_wp2_with fail
    go_ret
    exact ⟨rfl, uq⟩
  · have h1 : 0 ≤ z := by omega
    have h2 : ¬ z < n := by omega
    clear hz
    go_enter Tryz.func29, Tryz.ntmps29
    go_wp2_with fail
    (try go_quiet (fail))
    (try go_wp2_with fail)
    go_ret
    exact ⟨rfl, uq⟩

/-- what a world need not keep: only what was not there is left -/
theorem Memo.less {S T : Nat → Prop} {B : Nat} {w w' : World} (h : Memo T B w w') (hs : ∀ x, T x → S x ∨ w.heap.size ≤ x) : Memo S B w w' :=
  { h with
    obj := fun b o h1 h2 h3 => h.obj b o h1 h2 (fun q => (hs b q).elim h3 fun e => by have := lt_of_heap h1; omega)
    ty := fun N b t h1 h2 => (h.ty _ b t (fun x hx q => (hs x q).elim (h1 x hx.1) fun e => by have := hx.2; omega) h2.there).weaken fun _ q _ => q.1 }

/-- the blocks that are an arena's own -/
def arS (A : Nat) (tv mv : Value) : Nat → Prop := fun x => x = A ∨ tv.ownBlock = some x ∨ mv = .map (some x)
theorem text_ne {t : Ty} (h : t.Valid) : (t.text.toList == []) = false := by
  obtain ⟨c, r, e, _⟩ := tx_first h
  rw [ByteArray.toList_eq]
  have : t.text.data.toList = c :: r := e
  rw [this]
  rfl

/-- an arena at A, all of it behind B: its types at bs, these read as ts -/
structure Are (w : World) (B A : Nat) (bs : List Nat) (ts : List Ty) (tv mv dv : Value) : Prop where
  base : B ≤ A
  head : w.heap[A]? = some (.cells #[tv, mv, dv] ArT (0, 0))
  row : w.ownsRow 0 TpT 1 tv bs.length (bs.map ptrV)
  rowB : ∀ g, tv.ownBlock = some g → B ≤ g
  ids : (mv = .map none ∧ ts = []) ∨ ∃ g es clk, mv = .map (some g) ∧ B ≤ g ∧ w.heap[g]? = some (.map es clk) ∧ Entries es Value.string numV ((ts.map Ty.text).zipIdx)
  len : ts.length = bs.length
  nodup : (ts.map Ty.text).Nodup
  ty : ∀ (i b : Nat) (t : Ty), bs[i]? = some b → ts[i]? = some t → TyAt (fun x => ¬ arS A tv mv x) B w b t
  good : ∀ t ∈ ts, t.Valid ∧ t.nodes ≤ 500 ∧ t.namesLe 2000000
  closed : ∀ t ∈ ts, ∀ p ∈ t.parts, ∃ u ∈ ts, u.text = p.text

theorem Are.memo {w w' : World} {B A : Nat} {bs : List Nat} {ts : List Ty} {tv mv dv : Value} (h : Are w B A bs ts tv mv dv) (k : Memo none1 B w w') : Are w' B A bs ts tv mv dv where
  base := h.base
  head := k.cells h.head (by decide) (fun e => e)
  row := ownsRow_memo h.row (by decide) k
  rowB := h.rowB
  ids := h.ids.imp id fun ⟨g, es, clk, h1, h2, h3, h4⟩ => ⟨g, es, clk, h1, h2, k.obj _ _ h3 (fun _ _ e => by cases e) (fun e => e), h4⟩
  len := h.len
  nodup := h.nodup
  ty i b t h1 h2 := (h.ty i b t h1 h2).memo k
  good := h.good
  closed := h.closed
theorem Are.up {w w' : World} {B A : Nat} {bs : List Nat} {ts : List Ty} {tv mv dv : Value} (h : Are w B A bs ts tv mv dv) (k : Up w w') : Are w' B A bs ts tv mv dv := h.memo (Memo.of_up _ _ k)
theorem Are.lt {w : World} {B A : Nat} {bs : List Nat} {ts : List Ty} {tv mv dv : Value} (h : Are w B A bs ts tv mv dv) : B ≤ w.heap.size := Nat.le_trans h.base (Nat.le_of_lt (lt_of_heap h.head))

/-- what a call that lays types leaves: the arena's own blocks may be others -/
structure LayM (B A : Nat) (tv mv : Value) (w w' : World) (tv' mv' : Value) : Prop where
  memo : Memo (arS A tv mv) B w w'
  own : ∀ x, arS A tv' mv' x → arS A tv mv x ∨ w.heap.size ≤ x
theorem LayM.refl (B A : Nat) (tv mv : Value) (w : World) : LayM B A tv mv w w tv mv := ⟨Memo.refl _ _ _, fun _ h => .inl h⟩
theorem LayM.trans {B A : Nat} {tv mv tv' mv' tv2 mv2 : Value} {a b c : World} (h : LayM B A tv mv a b tv' mv') (k : LayM B A tv' mv' b c tv2 mv2) : LayM B A tv mv a c tv2 mv2 where
  memo := ((h.memo.mono (T := fun x => arS A tv mv x ∨ a.heap.size ≤ x) fun _ e => .inl e).trans (k.memo.mono h.own)).less fun _ e => e
  own x hx := by
    rcases k.own x hx with q | q
    · exact h.own x q
    · exact .inr (Nat.le_trans h.memo.size q)
theorem LayM.of_memo {B A : Nat} {tv mv : Value} {w w' : World} (h : Memo none1 B w w') : LayM B A tv mv w w' tv mv := ⟨h.mono fun _ e => e.elim, fun _ h => .inl h⟩
/-- a type that lies outside of an arena -/
theorem LayM.ty {B A : Nat} {tv mv tv' mv' : Value} {w w' : World} (h : LayM B A tv mv w w' tv' mv') {b : Nat} {t : Ty} (ht : TyAt (fun x => ¬ arS A tv mv x) B w b t) : TyAt (fun x => ¬ arS A tv' mv' x) B w' b t :=
  (h.memo.ty _ b t (fun x hx => hx.1) ht.there).weaken fun x hx _ q => (h.own x q).elim hx.1 fun e => by have := hx.2; omega
theorem LayM.glob {B A : Nat} {tv mv tv' mv' : Value} {w w' : World} (h : LayM B A tv mv w w' tv' mv') (hg : Glob w) (hS : ∀ x, arS A tv mv x → x < w.heap.size → ∃ cs f, w.heap[x]? = some (.cells cs TpT f)) : Glob w' := hg.memoS h.memo hS

end Go.Proofs.YtbghpkoimbmijaaGreatDoor

/- An arena in general: what stands when a new type is laid. -/
namespace Go.Proofs.YtbghpkoimbmijaaGreatDoor
open Go.RowKit
set_option linter.unusedSimpArgs false

/-- the tables lie below -/
def GlobB (B : Nat) (w : World) : Prop := ∀ w' : World, (∀ (b : Nat) (o : Obj), b < B → w.heap[b]? = some o → w'.heap[b]? = some o) → Glob w'
theorem GlobB.glob {B : Nat} {w : World} (h : GlobB B w) : Glob w := h w fun _ _ _ q => q
theorem GlobB.memo {S : Nat → Prop} {B : Nat} {w w' : World} (h : GlobB B w) (k : Memo S B w w') : GlobB B w' := fun w2 h2 => h w2 fun b o h3 h4 => h2 b o h3 (by rw [k.low b h3 (lt_of_heap h4)]; exact h4)

/-- an arena has a map -/
theorem Are.mapped {w W2 : World} {B A g : Nat} {tv : Value} {ts : List Ty} {bs : List Nat} {dv : Value} (h : Are w B A bs ts tv (.map none) dv) (hg : W2.heap[g]? = some (.map #[] 0)) (hgs : w.heap.size ≤ g) (hA : W2.heap[A]? = some (.cells #[tv, .map (some g), dv] ArT (0, 0))) (hm : Memo (fun x => x = A) B w W2) :
    Are W2 B A bs ts tv (.map (some g)) dv ∧ LayM B A tv (.map none) w W2 tv (.map (some g)) := by
  have hL : LayM B A tv (.map none) w W2 tv (.map (some g)) := by
    refine ⟨hm.mono fun x e => .inl e, fun x e => ?_⟩
    rcases e with e | e | e
    · exact .inl (.inl e)
    · exact .inl (.inr (.inl e))
    · injection e with e
      injection e with e
      subst e
      exact .inr hgs
  have hts : ts = [] := by
    rcases h.ids with ⟨_, e⟩ | ⟨_, _, _, e, _⟩
    · exact e
    · cases e
  refine ⟨?_, hL⟩
  exact {
    base := h.base
    head := hA
    row := ownsRow_keep h.row fun g' hg' => by
      obtain ⟨cur, hc⟩ : ∃ cur, w.heap[g']? = some (.cells cur TpT (0, 0)) := by
        rcases h.row.2 with ⟨hv, _⟩ | ⟨g'', cap, cur, hv, _, hc, _⟩
        · rw [hv] at hg'; cases hg'
        · rw [hv] at hg'; cases hg'; exact ⟨cur, hc⟩
      rw [hc]
      exact hm.cells hc (by decide) (fun e => cells_ne hc h.head (by decide) e)
    rowB := h.rowB
    ids := .inr ⟨g, #[], 0, rfl, Nat.le_trans h.lt hgs, hg, by rw [hts]; rfl⟩
    len := h.len
    nodup := h.nodup
    ty := fun i b t h1 h2 => hL.ty (h.ty i b t h1 h2)
    good := h.good
    closed := h.closed }

/-- what stands when a new type is laid -/
theorem Are.laid {B A b g n tcap cap' : Nat} {bs : List Nat} {ts : List Ty} {ta sa' : Option Addr} {t : Ty} {dv : Value} {wr W3 w7 : World} {es' : Array MapEntry} {clk' : Nat}
    (hn : n = bs.length) (HA : Are wr B A bs ts (.slice ta n tcap) (.map (some g)) dv) (hbt : TyAt (fun x => ¬ arS A (.slice ta n tcap) (.map (some g)) x) B wr b t) (hgood : t.Valid ∧ t.nodes ≤ 500 ∧ t.namesLe 2000000) (hs : t.text ∉ ts.map Ty.text) (hcl : ∀ p ∈ t.parts, ∃ u ∈ ts, u.text = p.text)
    (hz3 : W3.heap.size = wr.heap.size) (HZ : ∀ x, x ≠ g → W3.heap[x]? = wr.heap[x]?) (hg3 : W3.heap[g]? = some (.map es' clk')) (hos3 : W3.os = wr.os ∧ W3.tape = wr.tape ∧ W3.output = wr.output)
    (HE' : Entries es' Value.string numV ((ts.map Ty.text).zipIdx ++ [(t.text, n)])) 
    (hown' : w7.ownsRow 0 TpT 1 (.slice sa' (n + 1) cap') (n + 1) (bs.map ptrV ++ [.pointer (some ⟨b, 0, none⟩)])) (hgrow : (W3.alloc (.cells #[.pointer (some ⟨b, 0, none⟩)] TpT)).grownBy w7 (Value.slice ta n tcap).ownBlock)
    (hblk : (Value.slice sa' (n + 1) cap').ownBlock = (Value.slice ta n tcap).ownBlock ∨ ∃ g', (Value.slice sa' (n + 1) cap').ownBlock = some g' ∧ W3.heap.size + 1 ≤ g') :
    ∃ tv', Are (w7.setCell ⟨A, 0, none⟩ (.slice sa' (n + 1) cap')) B A (bs ++ [b]) (ts ++ [t]) tv' (.map (some g)) dv ∧ LayM B A (.slice ta n tcap) (.map (some g)) wr (w7.setCell ⟨A, 0, none⟩ (.slice sa' (n + 1) cap')) tv' (.map (some g)) := by
  obtain ⟨es, clk, hBg, hm⟩ : ∃ es clk, B ≤ g ∧ wr.heap[g]? = some (.map es clk) := by
    rcases HA.ids with ⟨h9, _⟩ | ⟨g', es, clk, h9, h, h2, _⟩
    · cases h9
    · cases h9; exact ⟨es, clk, h, h2⟩
  have hrb : ∀ g', (Value.slice ta n tcap).ownBlock = some g' → B ≤ g' ∧ ∃ cur, wr.heap[g']? = some (.cells cur TpT (0, 0)) := fun g' hg' => by
    refine ⟨HA.rowB g' hg', ?_⟩
    rcases HA.row.2 with ⟨hv, _⟩ | ⟨g'', cap, cur, hv, _, hc, _⟩
    · rw [hv] at hg'; cases hg'
    · rw [hv] at hg'; cases hg'; exact ⟨cur, hc⟩
  have hAg : A ≠ g := fun e => by have q := HA.head; rw [e, hm] at q; cases q
  have hrA : (Value.slice ta n tcap).ownBlock ≠ some A := fun e => by
    obtain ⟨_, cur, hc⟩ := hrb A e
    exact cells_ne hc HA.head (by decide) rfl
  have hrg : (Value.slice ta n tcap).ownBlock ≠ some g := fun e => by
    obtain ⟨_, cur, hc⟩ := hrb g e
    rw [hm] at hc; cases hc
  have hAl := lt_of_heap HA.head
  -- the map is written
  have m1 : Memo (arS A (.slice ta n tcap) (.map (some g))) B wr W3 := {
    os := hos3.1
    tape := hos3.2.1
    output := hos3.2.2
    size := by omega
    obj := fun x o h1 _ h3 => by rw [HZ x (fun e => h3 (by rw [e]; exact .inr (.inr rfl)))]; exact h1
    low := fun x h1 _ => HZ x (by omega)
    ty := fun N x u h1 h2 => h2.keep (fun g' cs T f _ hN hc => by rw [HZ g' (fun e => by rw [e, hm] at hc; cases hc)]; exact hc) (fun b' _ k m nm pv nv mv sz said _ q => ⟨said, by rw [HZ b' (fun e => by rw [e, hm] at q; cases q)]; exact q, .inl rfl⟩)
    fld := fun x cs f q => ⟨cs, by rw [HZ x (fun e => by rw [e, hm] at q; cases q)]; exact q, fun _ _ => rfl⟩ }
  -- the row grows
  have m2 : Memo (arS A (.slice ta n tcap) (.map (some g))) B (W3.alloc (.cells #[.pointer (some ⟨b, 0, none⟩)] TpT)) w7 := Memo.grown hgrow fun r e => by
    obtain ⟨q1, cur, q2⟩ := hrb r e
    exact ⟨.inr (.inl e), q1, cur, TpT, (0, 0), alloc_keep (by rw [HZ r (fun e2 => hrg (by rw [← e2]; exact e))]; exact q2), by decide⟩
  have hd : w7.heap[A]? = some (.cells #[.slice ta n tcap, .map (some g), dv] ArT (0, 0)) := grown_get hgrow (alloc_keep ((HZ A hAg).trans HA.head)) hrA
  have m3 : Memo (arS A (.slice ta n tcap) (.map (some g))) B w7 (w7.setCell ⟨A, 0, none⟩ (.slice sa' (n + 1) cap')) := Memo.cell1 hd (by decide) (.inl rfl) HA.base _
  have hM := ((m1.up (show Up W3 (W3.alloc (.cells #[.pointer (some ⟨b, 0, none⟩)] TpT)) from uq)).trans m2).trans m3
  have hsz : wr.heap.size ≤ w7.heap.size := by
    have q3 := hgrow.size
    have q4 : (W3.alloc (.cells #[.pointer (some ⟨b, 0, none⟩)] TpT)).heap.size = W3.heap.size + 1 := by simp
    omega
  have hL : LayM B A (.slice ta n tcap) (.map (some g)) wr (w7.setCell ⟨A, 0, none⟩ (.slice sa' (n + 1) cap')) (.slice sa' (n + 1) cap') (.map (some g)) := ⟨hM, fun x e => by
    rcases e with e | e | e
    · exact .inl (.inl e)
    · rcases hblk with q | ⟨g', q, q2⟩
      · exact .inl (.inr (.inl (by rw [← q]; exact e)))
      · rw [q] at e
        cases e
        exact .inr (by omega)
    · exact .inl (.inr (.inr e))⟩
  have hsA : (Value.slice sa' (n + 1) cap').ownBlock ≠ some A := fun e => by
    rcases hblk with q | ⟨g', q, q2⟩
    · exact hrA (by rw [← q]; exact e)
    · rw [q] at e
      cases e
      omega
  refine ⟨.slice sa' (n + 1) cap', ?_, hL⟩
  exact {
    base := HA.base
    head := setCell_block (i := 0) hd _
    row := by
      have q := ownsRow_keep (w' := w7.setCell ⟨A, 0, none⟩ (.slice sa' (n + 1) cap')) hown' fun g' hg' => setCell_other (fun e => hsA (by rw [← e]; exact hg')) _
      have e1 : (bs ++ [b]).length = n + 1 := by simp [hn]
      have e2 : (bs ++ [b]).map ptrV = bs.map ptrV ++ [.pointer (some ⟨b, 0, none⟩)] := by simp [ptrV]
      rw [e1, e2]
      exact q
    rowB := fun g' hg' => by
      rcases hblk with q | ⟨g'', q, q2⟩
      · exact HA.rowB g' (by rw [← q]; exact hg')
      · rw [q] at hg'
        cases hg'
        have := HA.lt
        omega
    ids := .inr ⟨g, es', clk', rfl, hBg, by
      rw [setCell_other (fun e => hAg e.symm), hgrow.block g (by have := lt_of_heap hg3; simp; omega) (fun e => hrg e.symm)]
      exact alloc_keep hg3, by
        rw [List.map_append, List.map_cons, List.map_nil, zip_snoc, List.length_map, HA.len, ← hn]; exact HE'⟩
    len := by simp [HA.len]
    nodup := by
      rw [List.map_append, List.nodup_append]
      refine ⟨HA.nodup, by simp, fun x hx y hy => ?_⟩
      simp only [List.map_cons, List.map_nil, List.mem_singleton] at hy
      subst hy
      intro e
      subst e
      exact hs hx
    ty := fun i c u h1 h2 => by
      rcases Nat.lt_or_ge i bs.length with hi | hi
      · rw [List.getElem?_append_left hi] at h1
        rw [List.getElem?_append_left (by rw [HA.len]; exact hi)] at h2
        exact hL.ty (HA.ty i c u h1 h2)
      · have e0 : i = bs.length := by
          have := (List.getElem?_eq_some_iff.1 h1).1
          simp at this
          omega
        subst e0
        rw [List.getElem?_append_right (Nat.le_refl _), Nat.sub_self] at h1
        rw [List.getElem?_append_right (by rw [HA.len]; exact Nat.le_refl _), HA.len, Nat.sub_self] at h2
        simp at h1 h2
        subst h1 h2
        exact hL.ty hbt
    good := fun u hu => by
      rcases List.mem_append.1 hu with q | q
      · exact HA.good u q
      · simp at q; subst q; exact hgood
    closed := fun u hu p hp => by
      rcases List.mem_append.1 hu with q | q
      · obtain ⟨x, h1, h2⟩ := HA.closed u q p hp
        exact ⟨x, List.mem_append_left _ h1, h2⟩
      · simp at q; subst q
        obtain ⟨x, h1, h2⟩ := hcl p hp
        exact ⟨x, List.mem_append_left _ h1, h2⟩ }

/-- what lay answers -/
def LayR (B A : Nat) (bs : List Nat) (ts : List Ty) (tv mv dv : Value) (w : World) (t : Ty) (e : Ending) (w' : World) : Prop :=
  ∃ (i : Nat) (bs' : List Nat) (ts' : List Ty) (tv' mv' : Value), e = .returned (.int .i64 i) ∧ Are w' B A (bs ++ bs') (ts ++ ts') tv' mv' dv ∧ LayM B A tv mv w w' tv' mv' ∧ ((ts ++ ts').map Ty.text)[i]? = some t.text ∧ bs'.length ≤ t.nodes ∧ ∀ u ∈ ts', u.nodes ≤ t.nodes

/-- lay, of a tree -/
def LayAny (t : Ty) : Prop := ∀ (B A b : Nat) (bs : List Nat) (ts : List Ty) (tv mv dv : Value) (w : World), Are w B A bs ts tv mv dv → TyAt (fun x => ¬ arS A tv mv x) B w b t → GlobB B w → bs.length + t.nodes ≤ 1000000 →
  Calls Tryz.prog 21 #[.pointer (some ⟨A, 0, none⟩), .pointer (some ⟨b, 0, none⟩)] w (LayR B A bs ts tv mv dv w t)

end Go.Proofs.YtbghpkoimbmijaaGreatDoor

/- Walks: lay in general. -/
namespace Go.Proofs.YtbghpkoimbmijaaGreatDoor
open Go.RowKit
set_option linter.unusedSimpArgs false

theorem zip_text {ts : List Ty} {i : Nat} {s : ByteArray} (h : (ts.map Ty.text)[i]? = some s) : ((ts.map Ty.text).zipIdx)[i]? = some (s, i) := zip_at _ i s h

set_option maxRecDepth 100000 in
set_option maxHeartbeats 3200000 in
/-- a type that is there -/
theorem lay_hit (t : Ty) (hv : t.Valid) (hs : Sm t) (B A b : Nat) (bs : List Nat) (ts : List Ty) (tv mv dv : Value) (i : Nat) (w : World) (h : Are w B A bs ts tv mv dv) (ht : TyAt (fun x => ¬ arS A tv mv x) B w b t) (hg : GlobB B w) (hi : (ts.map Ty.text)[i]? = some t.text) :
    Calls Tryz.prog 21 #[.pointer (some ⟨A, 0, none⟩), .pointer (some ⟨b, 0, none⟩)] w fun e w' => e = .returned (.int .i64 i) ∧ Memo none1 B w w' := by
  rcases h.ids with ⟨_, rfl⟩ | ⟨g, es, clk, rfl, hgB, hm, hE⟩
  · simp at hi
  have HM := Lib.hid (And.intro hm (And.intro hE (And.intro (zip_text hi) (show (((ts.map Ty.text).zipIdx).map (·.1)).Nodup by rw [zip_fst]; exact h.nodup))))
  have HT := Lib.hid (text_all hv hs _ B b w.drew (ht.up (show Up w w.drew from uq)) (hg.glob.up uq))
  have HA := Lib.hid h
  obtain ⟨s, hse⟩ : ∃ s, Hid (t.text = s) := ⟨_, rfl⟩
  have HS := Lib.hid (And.intro hv hs)
  rw [hse.out] at HM HT
  have a1 := cell_of h.head 1
  have a4 := lt_of_heap h.head
  simp only [List.getElem?_toArray, List.getElem?_cons_zero, List.getElem?_cons_succ] at a1
  clear h hv hs hi hm hE hgB ht hg
  go_enter Tryz.func21, Tryz.ntmps21
  go_wp2_with fail
  go_region_law (first | (go_simp; go_at_call 34; refine HT.out.mono ?_; rintro e w2 ⟨rfl, hm2⟩; have HA2 := Lib.hid ((HA.out.up (show Up w w.drew from uq)).memo hm2); have a1 := cell_of HA2.out.head 1; simp only [List.getElem?_toArray, List.getElem?_cons_zero, List.getElem?_cons_succ] at a1; have a4 := lt_of_heap HA2.out.head; have hlk : (Instr.lookup 56 (.map (some g)) (.string s) true).run Tryz.prog w2 = .ok (.tuple #[.int .i64 i, .bool true]) w2 := (run_lookup_hit (f := numV) Tryz.underlying56 Tryz.underlying9 strKeys (hm2.obj _ _ (Up.get (w := w) uq HM.out.1) (fun _ _ e => by cases e) (fun e => e)) HM.out.2.1 s i i HM.out.2.2.1 HM.out.2.2.2).1))
  all_goals (go_wp2_with fail)
  all_goals go_ret
  all_goals exact ⟨rfl, (Memo.of_up _ _ (show Up w w.drew from uq)).trans hm2⟩

/-- while the parts are laid -/
structure LayS (B A : Nat) (bs : List Nat) (ts : List Ty) (tv mv dv : Value) (w : World) (ps : List Ty) (m j : Nat) (bs1 : List Nat) (ts1 : List Ty) (tv1 mv1 : Value) (wr : World) : Prop where
  are : Are wr B A (bs ++ bs1) (ts ++ ts1) tv1 mv1 dv
  lay : LayM B A tv mv w wr tv1 mv1
  few : bs1.length ≤ ((ps.take j).map Ty.nodes).sum
  less : ∀ u ∈ ts1, u.nodes < m
  parts : ∀ p ∈ ps.take j, ∃ u ∈ ts ++ ts1, u.text = p.text
def LayJ (B A : Nat) (bs : List Nat) (ts : List Ty) (tv mv dv : Value) (w : World) (ps : List Ty) (m j : Nat) (wr : World) : Prop := ∃ bs1 ts1 tv1 mv1, LayS B A bs ts tv mv dv w ps m j bs1 ts1 tv1 mv1 wr

theorem LayS.next {B A : Nat} {bs : List Nat} {ts : List Ty} {tv mv dv : Value} {w : World} {ps : List Ty} {m j : Nat} {bs1 : List Nat} {ts1 : List Ty} {tv1 mv1 : Value} {wr w2 : World} (h : LayS B A bs ts tv mv dv w ps m j bs1 ts1 tv1 mv1 wr) (hu : Up wr w2) {p : Ty} (hp : ps[j]? = some p) (hm : p.nodes < m) {e : Ending} {w' : World} (k : LayR B A (bs ++ bs1) (ts ++ ts1) tv1 mv1 dv w2 p e w') :
    ∃ i : Nat, e = .returned (.int .i64 i) ∧ LayJ B A bs ts tv mv dv w ps m (j + 1) w' := by
  obtain ⟨i, bs', ts', tv', mv', rfl, k1, k2, k3, k4, k5⟩ := k
  refine ⟨i, rfl, bs1 ++ bs', ts1 ++ ts', tv', mv', ?_⟩
  rw [List.append_assoc] at k1
  rw [List.append_assoc] at k1 k3
  refine ⟨k1, (h.lay.trans (LayM.of_memo (Memo.of_up _ _ hu))).trans k2, ?_, ?_, ?_⟩
  · rw [List.take_add_one, hp]
    have := h.few
    simp only [Option.toList_some, List.map_append, List.map_cons, List.map_nil, List.sum_append, List.sum_cons, List.sum_nil, List.length_append]
    omega
  · intro u hu2
    rcases List.mem_append.1 hu2 with q | q
    · exact h.less u q
    · exact Nat.lt_of_le_of_lt (k5 u q) hm
  · intro q hq
    rw [List.take_add_one, hp, Option.toList_some] at hq
    rcases List.mem_append.1 hq with hq | hq
    · obtain ⟨u, q1, q2⟩ := h.parts q hq
      refine ⟨u, ?_, q2⟩
      rcases List.mem_append.1 q1 with q1 | q1
      · exact List.mem_append_left _ q1
      · exact List.mem_append_right _ (List.mem_append_left _ q1)
    · rw [List.mem_singleton.1 hq]
      obtain ⟨u, q1, q2⟩ := List.mem_map.1 (List.mem_of_getElem? k3)
      exact ⟨u, q1, q2⟩

end Go.Proofs.YtbghpkoimbmijaaGreatDoor
