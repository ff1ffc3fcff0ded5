import Derived.Test.YtiaepldmgighbaaGreatDoorM38
import Derived.Test.YtiaepldmgighbaaGreatDoorM40
namespace Go.Proofs.YtiaepldmgighbaaGreatDoor
open Go.RowKit
set_option linter.unusedSimpArgs false
set_option linter.unusedVariables false
theorem tyR {t : Ty} {zs : List Nat} : TyR (fun pa ma W => TyV W t zs pa ma) zs where
 up _ _ _ _ h u := h.up u
 box _ _ _ _ _ _ x0 x1 x2 x3 x4 x5 h hb := h.set6 hb x0 x1 x2 x3 x4 x5
 ints _ _ _ h := h.ints
 far _ _ _ h hz := h.far hz
def piecesOf (ts : List Ty) (t : Ty) : Option (List Mem) := if t.kind = 14 then some (memsOf ts t) else none
theorem memCells_of (ts : List Ty) (t : Ty) : memCells (memsOf ts t) = (List.range t.parts.length).flatMap fun j => [.string (t.names.getD j ⟨#[]⟩), .int .i64 (Int.ofNat ((t.parts.map (idOf ts)).getD j 0)), .bool (t.marks.getD j false)] := by
 unfold memCells memsOf
 rw [List.flatMap_map]
 rfl
theorem pieces_any {w : World} {B A : Nat} {bs : List Nat} {ts : List Ty} {tv mv : Value} (h : Are w B A bs ts tv mv (.map none)) {i : Nat} {t : Ty} (ht : ts[i]? = some t) : PieK A i w (piecesOf ts t) := by
 intro W hW
 have h := h.up hW
 obtain ⟨n, tcap, gr, b, g, es, clk, pv, nv, kv, said, qs, hql, hH⟩ := h.atH ht
 have hv := (h.good t (List.mem_of_getElem? ht)).1
 unfold piecesOf
 by_cases hk : t.kind = 14
 · rw [if_pos hk]
   have hl := obj_len hv hk
   rw [hk] at hH
   refine (Pieces_obj _ A i n tcap gr b g es clk _ t.num t.name pv nv kv t.size said qs _ _ t.names t.marks W hH (by omega) (by omega)).mono ?_
   rintro e w' ⟨v, rfl, hr, hu⟩
   refine ⟨⟨v, rfl, ?_⟩, hu⟩
   rw [memCells_of]
   have hm : (memsOf ts t).length = qs.length := by unfold memsOf; rw [List.length_map, List.length_range, hql]
   rw [hm, ← hql]
   exact hr
 · rw [if_neg hk]
   by_cases h17 : t.kind = 17
   · rw [h17] at hH
     exact Pieces_ref _ A i n tcap gr b g es clk t.num t.name pv nv kv t.size said qs _ _ t.names t.marks W hH
   · exact Pieces_other _ A i n tcap gr b g es clk t.kind t.num t.name pv nv kv t.size said qs _ _ t.names t.marks W hH ⟨hk, h17⟩
theorem mems_nodup {ts : List Ty} {t : Ty} (hv : t.Valid) (hk : t.kind = 14) : ((memsOf ts t).map (·.1)).Nodup := by
 have hl := obj_len hv hk
 have e : (memsOf ts t).map (·.1) = t.names := by
   unfold memsOf memOf
   rw [List.map_map]
   apply List.ext_getElem?
   intro j
   rw [List.getElem?_map]
   rcases Nat.lt_or_ge j t.parts.length with hj | hj
   · rw [List.getElem?_range hj, getD_lt (l := t.names) (d := ⟨#[]⟩) (by omega)]
     rfl
   · rw [List.getElem?_eq_none (by rw [List.length_range]; exact hj), List.getElem?_eq_none (by omega)]
     rfl
 rw [e]
 exact names_once hv hk
theorem members_over {w : World} {B A : Nat} {bs : List Nat} {ts : List Ty} {tv mv : Value} (h : Are w B A bs ts tv mv (.map none)) {i j : Nat} {x y : Ty} (hi : ts[i]? = some x) (hj : ts[j]? = some y) :
   Calls Tryz.prog 134 #[.agg #[.pointer (some ⟨A, 0, none⟩)], .agg #[.int .i64 i, .int .i64 j]] w (AnsQ (if x.kind = 14 ∧ y.kind = 14 then memG (memsOf ts x) (memsOf ts y) [] else sayQ false) w) := by
 have px := pieces_any h hi
 have py := pieces_any h hj
 have hl : ∀ {t : Ty}, t ∈ ts → (memsOf ts t).length ≤ 100000 := fun ht => by unfold memsOf; rw [List.length_map, List.length_range]; exact (h.few ht).1
 by_cases hk : x.kind = 14 ∧ y.kind = 14
 · rw [if_pos hk]
   unfold piecesOf at px py
   rw [if_pos hk.1] at px
   rw [if_pos hk.2] at py
   exact members_yes A i j _ _ w px py (hl (List.mem_of_getElem? hi)) (hl (List.mem_of_getElem? hj)) (mems_nodup (h.good x (List.mem_of_getElem? hi)).1 hk.1)
 · rw [if_neg hk]
   refine (members_no A i j _ _ w px py ?_).mono ?_
   · unfold piecesOf
     by_cases h1 : x.kind = 14
     · exact .inr (if_neg fun e => hk ⟨h1, e⟩)
     · exact .inl (if_neg h1)
   · rintro e w' ⟨rfl, hu⟩
     exact ⟨_, rfl, PairsAt.nil _ _, hu⟩
theorem asks_over {w : World} {B A : Nat} {bs : List Nat} {ts : List Ty} {tv mv : Value} (h : Are w B A bs ts tv mv (.map none)) {i j : Nat} {x y : Ty} (hi : ts[i]? = some x) (hj : ts[j]? = some y) :
   Calls Tryz.prog 87 #[.agg #[.pointer (some ⟨A, 0, none⟩)], .agg #[.int .i64 i, .int .i64 j]] w (AnsQ (asksQ ts x y i j) w) := by
 have hx := List.mem_of_getElem? hi
 have hy := List.mem_of_getElem? hj
 have vx := (h.good x hx).1
 have vy := (h.good y hy).1
 have fx := h.few hx
 have fy := h.few hy
 refine asks_walk A i j x.kind x.num y.kind y.num x.name y.name (x.parts.map (idOf ts)) (y.parts.map (idOf ts)) x.names.length x.marks.length y.names.length y.marks.length (fun pa ma W => TyV W x (x.parts.map (idOf ts)) pa ma) (fun pa ma W => TyV W y (y.parts.map (idOf ts)) pa ma)
   (funQ x.marks y.marks (x.parts.map (idOf ts)) (y.parts.map (idOf ts)) (decide ((tyOf ts ((y.parts.map (idOf ts)).getD y.marks.length 0)).kind = 4)))
   (if x.kind = 14 ∧ y.kind = 14 then memG (memsOf ts x) (memsOf ts y) [] else sayQ false) w tyR tyR (fun W hW => at_any (h.up hW) hi) (fun W hW => at_any (h.up hW) hj) ?_ (fun W hW => members_over (h.up hW) hi hj) ?_ ?_ (by rw [List.length_map]; omega) (by rw [List.length_map]; omega)
 · intro kx ky W pa pc na nc ma mc qa qc oa oc la lc hW hX hY
   have lx := fn_len vx kx
   have ly := fn_len vy ky
   obtain ⟨z, hz, _⟩ := (h.rows.part hy (i := y.marks.length) (by omega))
   refine functions_any A x.kind x.num y.kind y.num _ x.name y.name _ _ x.marks y.marks pa na ma qa oa la pc x.names.length nc mc qc y.names.length oc lc W hX.ints hY.ints hX.bools hY.bools (by rw [List.length_map]; omega) (by rw [List.length_map]; omega) (by rw [List.length_map]; omega) (by rw [List.length_map]; omega) ?_
   intro W' hW'
   rw [tyOf_some hz]
   refine (at_any (h.up (hW.trans hW')) hz).mono ?_
   rintro e w' ⟨pa, pc, na, nc, ma, mc, rfl, _, hu⟩
   exact ⟨_, _, _, _, _, _, _, _, _, _, _, rfl, hu⟩
 · intro hk
   rw [List.length_map]
   exact one_part vx (by omega)
 · intro hk
   rw [List.length_map]
   exact one_part vy (.inl hk)
theorem Are.asks {w : World} {B A : Nat} {bs : List Nat} {ts : List Ty} {tv mv : Value} (h : Are w B A bs ts tv mv (.map none)) : AsksAny A (queOf ts) (In ts) (fun b => b < w.heap.size) w := by
 refine ⟨fun p hp => que_closed h.rows hp, fun p hp W hW => ?_⟩
 obtain ⟨i, j⟩ := p
 obtain ⟨x, hi⟩ : ∃ x, ts[i]? = some x := ⟨_, List.getElem?_eq_getElem hp.1⟩
 obtain ⟨y, hj⟩ : ∃ y, ts[j]? = some y := ⟨_, List.getElem?_eq_getElem hp.2⟩
 have hu : Up w W := ⟨hW.os, hW.tape, hW.output, hW.size, hW.same⟩
 have e : queOf ts (i, j) = asksQ ts x y i j := by unfold queOf; rw [tyOf_some hi, tyOf_some hj]
 rw [e]
 exact asks_over (h.up hu) hi hj
theorem Are.len_any {w : World} {B A : Nat} {bs : List Nat} {ts : List Ty} {tv mv : Value} (h : Are w B A bs ts tv mv (.map none)) (hl : bs.length ≤ 1000000) : LenAny A bs.length (fun b => b < w.heap.size) w :=
 ⟨hl, fun W hW => Len_in _ B A bs ts tv mv W (h.up ⟨hW.os, hW.tape, hW.output, hW.size, hW.same⟩)⟩
theorem Assignable_over {w : World} {B A : Nat} {bs : List Nat} {ts : List Ty} {tv mv : Value} (h : Are w B A bs ts tv mv (.map none)) (hl : bs.length ≤ 1000000) {i j : Nat} {x y : Ty} (hi : ts[i]? = some x) (hj : ts[j]? = some y) :
   Calls Tryz.prog 16 #[.pointer (some ⟨A, 0, none⟩), .int .i64 i, .int .i64 j] w fun e w' => ∃ (b : Bool) (er : Int), e = .returned (.tuple #[.bool b, .int .i64 er]) ∧ Up w w' ∧ ((er = 0 ∧ (b = true ↔ Sub x.canon y.canon)) ∨ (er = 9 ∧ b = false ∧ 2000 < (reachL (queOf ts) 2000 (i, j)).length)) := by
 have li := (List.getElem?_eq_some_iff.1 hi).1
 have lj := (List.getElem?_eq_some_iff.1 hj).1
 refine (Assignable_any A bs.length i j (queOf ts) (In ts) w h.asks (h.len_any hl) ⟨li, lj⟩ (by rw [← h.len]; exact li) (by rw [← h.len]; exact lj)).mono ?_
 rintro e w' ⟨b, er, rfl, hu, hq⟩
 refine ⟨b, er, rfl, hu, ?_⟩
 rcases hq with ⟨h0, _, _, hb⟩ | ⟨h9, hb, hr | ⟨q, _, hq⟩⟩
 · exact .inl ⟨h0, hb.trans (gfp_sub h.rows hi hj)⟩
 · exact .inr ⟨h9, hb, hr⟩
 · rw [que_soft] at hq
   cases hq
end Go.Proofs.YtiaepldmgighbaaGreatDoor
