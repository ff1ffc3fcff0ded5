import Derived.Laws.Cover4
import Derived.Deep.RegionHeld3
import Derived.Deep.RegionWith
import Derived.Scope
import Derived.Test.YtmbipadiaggolaaGreatDoorM18
import Derived.Test.YtmbipadiaggolaaGreatDoorM17
import Derived.Test.YtmbipadiaggolaaGreatDoorM10
/- YtmbipadiaggolaaGreatDoorM19: lemmas of the proof, in order: QuoT, RefH, RefI, ShowE. -/
/- Walks: a text in quotes: the document's. -/
namespace Go.Proofs.YtmbipadiaggolaaGreatDoor
open Go.RowKit
set_option linter.unusedSimpArgs false
attribute [local go_sem] conv_sb

/-- a rune within quotes -/
def quoteR (r : Nat) : ByteArray :=
  if r = 92 ∨ r = 34 then ⟨#[92]⟩ ++ Utf8.encode r
  else if r = 10 then ⟨#[92, 110]⟩
  else if r = 13 then ⟨#[92, 114]⟩
  else if r = 9 then ⟨#[92, 116]⟩
  else if r < 32 ∨ r = 127 then ⟨#[92, 117, 123]⟩ ++ hexS r ++ ⟨#[125]⟩
  else Utf8.encode r
def quoteL (acc : ByteArray) (l : List (Nat × Nat)) : ByteArray := l.foldl (fun a x => a ++ quoteR x.2) acc
def quoteS (s : ByteArray) : ByteArray := quoteL ⟨#[34]⟩ (runesOf s.data.toList) ++ ⟨#[34]⟩

theorem hexS_size (u : Nat) : (hexS u).size ≤ 2 := by
  have key : ∀ u, u < 32 → (hexS u).size ≤ 2 := by decide
  by_cases h : u < 32
  · exact key u h
  · by_cases h2 : u = 127
    · subst h2; decide
    · unfold hexS
      iterate 32 rw [if_neg (by omega)]
      rw [if_neg h2]
      decide
attribute [local irreducible] hexS
theorem quoteR_size (r : Nat) : (quoteR r).size ≤ 6 := by
  have h1 := encode_size_le (r : Int)
  have h2 := hexS_size r
  have a1 : (⟨#[92]⟩ : ByteArray).size = 1 := rfl
  have a2 : (⟨#[92, 117, 123]⟩ : ByteArray).size = 3 := rfl
  have a3 : (⟨#[125]⟩ : ByteArray).size = 1 := rfl
  unfold quoteR
  repeat' split
  all_goals first | (rw [ByteArray.size_append, ByteArray.size_append]; omega) | (rw [ByteArray.size_append]; omega) | omega | decide

theorem decS_big : ∀ l : List UInt8, (decS l).1 ≤ 1114111
  | [] => by simp [decS]
  | x :: r => by
    unfold decS
    dsimp only
    split
    · decide
    · split
      · decide
      · rename_i v _
        split
        · decide
        · rename_i h; omega
theorem runes_big (l : List UInt8) (j : Nat) (x : Nat × Nat) (h : (runesOf l)[j]? = some x) : x.2 ≤ 1114111 := by
  have key : ∀ (f o : Nat) (l : List UInt8) (y : Nat × Nat), y ∈ runesS f o l → y.2 ≤ 1114111 := by
    intro f
    induction f with
    | zero => intro o l y hy; simp [runesS] at hy
    | succ f ih =>
      intro o l y hy
      cases l with
      | nil => simp [runesS] at hy
      | cons a r =>
        rw [runesS] at hy
        rcases List.mem_cons.1 hy with rfl | hy
        · exact decS_big _
        · exact ih _ _ _ hy
  exact key _ _ _ _ (List.mem_of_getElem? h)

set_option maxRecDepth 100000 in
set_option maxHeartbeats 3200000 in
theorem s_quote (s : ByteArray) (hs : s.size ≤ 1000000) (w : World) : Calls Tryz.prog 61 #[.string s] w fun e w' => e = .returned (.string (quoteS s)) ∧ Up w w' := by
  have HS := Lib.hid hs
  clear hs
  have hlen : (runesOf s.data.toList).length ≤ 1000000 := by have := HS.out; have h2 := runesOf_le s.data.toList; simp at h2; omega
  have hbig := runes_big s.data.toList
  obtain ⟨l, hl⟩ : ∃ l, Hid (runesOf s.data.toList = l) := ⟨_, rfl⟩
  unfold quoteS
  rw [hl.out] at hlen hbig ⊢
  obtain ⟨tot, htot⟩ : ∃ tot, Hid (quoteL ⟨#[34]⟩ l = tot) := ⟨_, rfl⟩
  rw [htot.out]
  have HBG := Lib.hid hbig
  clear hbig
  go_enter Tryz.func61, Tryz.ntmps61
  go_wp2_with (first | (go_at_call 51; refine (r_runes_at s _ _ _ _ rfl (by simp) HS.out).mono ?_; rintro e w2 ⟨v, rfl, ⟨ra, rc, rfl, hra⟩, hu2⟩; rw [hl.out] at hra; rw [hl.out]))
  have HU : Up w w2 := Up.trans (bytesLaid_up _ _) hu2
  have HRA := Lib.hid hra
  clear hra hu2
  go_loopw [3, 5] (fun out i wr => ∃ (j : Nat) (acc : ByteArray), j ≤ l.length ∧ i = .int .i64 j ∧ out = .string acc ∧ Hid (quoteL acc (l.drop j) = tot) ∧ acc.size ≤ 1 + 6 * j ∧ Up w2 wr) (fun _ i _ => l.length - (intOf i).toNat)
  case atStart => exact ⟨0, ⟨#[34]⟩, Nat.zero_le _, rfl, rfl, by unfold Hid; rw [List.drop_zero]; exact htot.out, by decide, Up.refl _⟩
  case round =>
    obtain ⟨j, acc, hj, rfl, rfl, hq, hsz, hup⟩ := hrel
    by_cases hlt : j < l.length
    · obtain ⟨x, hx⟩ : ∃ x, l[j]? = some x := ⟨_, List.getElem?_eq_getElem hlt⟩
      obtain ⟨g, rfl, hg⟩ := HRA.out j x hx
      obtain ⟨x1, r⟩ := x
      dsimp only at hg
      have hgl := cell_lt3 hg
      have d1 := (hup.cells g _ hgl).trans hg
      have hrb : r ≤ 1114111 := HBG.out j _ hx
      have hnext : Hid (quoteL (acc ++ quoteR r) (l.drop (j + 1)) = tot) := by
        unfold Hid
        rw [← hq.out, List.drop_eq_getElem_cons hlt]
        have e : l[j] = (x1, r) := (List.getElem?_eq_some_iff.1 hx).2
        rw [e]
        rfl
      have hji : (j : Int) < l.length := by omega
      have hez : (Utf8.encode (r : Int)).size ≤ 4 := encode_size_le _
      have hsq : acc.size + (quoteR r).size ≤ 1 + 6 * (j + 1) := by have := quoteR_size r; omega
      clear hx hg hq hlt
      by_cases c1 : r = 92
      · subst c1
        have hez2 : (Utf8.encode 92).size ≤ 4 := encode_size_le _
        go_wp2_with fail
        go_roundw
        case rel => exact ⟨j + 1, acc ++ quoteR 92, by omega, by simp, by simp [quoteR, ByteArray.append_assoc], hnext, by rw [ByteArray.size_append]; exact hsq, uq⟩
        case measure => simp [intOf]; omega
      by_cases c2 : r = 34
      · subst c2
        have hez2 : (Utf8.encode 34).size ≤ 4 := encode_size_le _
        go_wp2_with fail
        go_roundw
        case rel => exact ⟨j + 1, acc ++ quoteR 34, by omega, by simp, by simp [quoteR, ByteArray.append_assoc], hnext, by rw [ByteArray.size_append]; exact hsq, uq⟩
        case measure => simp [intOf]; omega
      by_cases c3 : r = 10
      · subst c3
        go_wp2_with fail
        go_roundw
        case rel => exact ⟨j + 1, acc ++ quoteR 10, by omega, by simp, by simp [quoteR, ByteArray.append_assoc], hnext, by rw [ByteArray.size_append]; exact hsq, uq⟩
        case measure => simp [intOf]; omega
      by_cases c4 : r = 13
      · subst c4
        go_wp2_with fail
        go_roundw
        case rel => exact ⟨j + 1, acc ++ quoteR 13, by omega, by simp, by simp [quoteR, ByteArray.append_assoc], hnext, by rw [ByteArray.size_append]; exact hsq, uq⟩
        case measure => simp [intOf]; omega
      by_cases c5 : r = 9
      · subst c5
        go_wp2_with fail
        go_roundw
        case rel => exact ⟨j + 1, acc ++ quoteR 9, by omega, by simp, by simp [quoteR, ByteArray.append_assoc], hnext, by rw [ByteArray.size_append]; exact hsq, uq⟩
        case measure => simp [intOf]; omega
      have e1 : ((r : Int) == 92) = false := by simp; omega
      have e2 : ((r : Int) == 34) = false := by simp; omega
      have e3 : ((r : Int) == 10) = false := by simp; omega
      have e4 : ((r : Int) == 13) = false := by simp; omega
      have e5 : ((r : Int) == 9) = false := by simp; omega
      by_cases c6 : r < 32 ∨ r = 127
      · have hqr : Hid (quoteR r = ⟨#[92, 117, 123]⟩ ++ hexS r ++ ⟨#[125]⟩) := by unfold Hid quoteR; rw [if_neg (by omega), if_neg c3, if_neg c4, if_neg c5, if_pos c6]
        have hx2 := hexS_size r
        rcases c6 with c6 | c6
        · have c7 : (r : Int) < 32 := by omega
          have HC := Lib.hid (show r < 32 ∨ r = 127 from .inl c6)
          clear c1 c2 c3 c4 c5 c6
          go_wp2_with (first | (go_at_call 76; refine (r_hex_any r HC.out _).mono ?_; rintro e w3 ⟨rfl, hu3⟩))
          go_roundw
          case rel => exact ⟨j + 1, acc ++ quoteR r, by omega, by simp, by rw [hqr.out]; simp [ByteArray.append_assoc], hnext, by rw [ByteArray.size_append]; exact hsq, uq⟩
          case measure => simp [intOf]; omega
        · subst c6
          go_wp2_with (first | (go_at_call 76; refine (r_hex_any 127 (.inr rfl) _).mono ?_; rintro e w3 ⟨rfl, hu3⟩))
          go_roundw
          case rel => exact ⟨j + 1, acc ++ quoteR 127, by omega, by simp, by rw [hqr.out]; simp [ByteArray.append_assoc], hnext, by rw [ByteArray.size_append]; exact hsq, uq⟩
          case measure => simp [intOf]; omega
      · have hqr : Hid (quoteR r = Utf8.encode r) := by unfold Hid quoteR; rw [if_neg (by omega), if_neg c3, if_neg c4, if_neg c5, if_neg c6]
        have c7 : ¬ (r : Int) < 32 := by omega
        have c8 : ((r : Int) == 127) = false := by simp; omega
        clear c1 c2 c3 c4 c5 c6
        go_wp2_with fail
        go_roundw
        case rel => exact ⟨j + 1, acc ++ quoteR r, by omega, by simp, by rw [hqr.out], hnext, by rw [ByteArray.size_append]; exact hsq, uq⟩
        case measure => simp [intOf]; omega
    · obtain rfl : j = l.length := by omega
      go_wp2_with fail
      refine bodyPost_eq (by (simp [results, Tryz.results61, go_sem, *]) <;> rfl) rfl rfl ?_
      refine ⟨?_, HU.trans hup⟩
      have h1 := hq.out
      rw [List.drop_length] at h1
      rw [← h1]
      rfl

end Go.Proofs.YtmbipadiaggolaaGreatDoor

/- The document's heap in memory, over the same model; what it reads. -/
namespace Go.Proofs.YtmbipadiaggolaaGreatDoor
open Go.RowKit
set_option linter.unusedSimpArgs false

structure RT where
  kind : Int
  proto : Int
  sv : Value
  vv : Value
def RT.cells (r : RT) : List Value := [.int .i64 r.kind, .int .i64 r.proto, r.sv, r.vv]
def slotCells (x : ByteArray × Val) : List Value := [.string x.1, .int .i64 x.2.k, .int .i64 x.2.n, .string x.2.s]

/-- a thing of the document's -/
structure RTIs (w : World) (own : Own) (i : Nat) (t : Thing) (r : RT) : Prop where
  kind : r.kind = t.kind
  proto : t.kind ≠ 2 → r.proto = t.proto
  slots : Row w own (i + 1, 0) 112 4 r.sv t.slots.length (t.slots.flatMap slotCells)
  vals : Row w own (i + 1, 1) 34 3 r.vv t.vals.length (t.vals.flatMap Val.cells)

/-- what every heap is like -/
structure HM.Wf (H : HM) : Prop where
  room0 : 0 ≤ H.used
  roomU : H.used ≤ H.room
  roomM : H.room ≤ 1048576
  few : (sizes H.things : Int) ≤ H.used
  things : ∀ (i : Nat) (t : Thing), H.things[i]? = some t → (t.kind = 2 ∧ t.slots = [] ∧ t.proto = -1) ∨ ((t.kind = 1 ∨ t.kind = 3 ∨ t.kind = 4) ∧ t.vals = [] ∧ -1 ≤ t.proto ∧ t.proto < i ∧ (t.slots.map (·.1)).Nodup)

theorem Rep.wf {w : World} {hb : Nat} {H : HM} {tvs : List Value} {own : Own} (h : Rep w hb H tvs own) : H.Wf where
  room0 := h.room0
  roomU := h.roomU
  roomM := h.roomM
  few := h.few
  things := fun i t ht => by
    obtain ⟨tv, _, hti⟩ := h.things i t ht
    cases hti with
    | arr vals b av hb hc hr => exact .inl ⟨rfl, rfl, rfl⟩
    | obj k p l b mv kv hk hp hpi hb hc hm hr hn => exact .inr ⟨hk, rfl, hp, hpi, hn⟩

/-- the document's heap in memory -/
structure RRep (w : World) (rb : Nat) (H : HM) (rs : List RT) (own : Own) : Prop where
  lt : ∀ b m, own b = some m → b < w.heap.size
  mine : own rb = some (0, 0)
  head : ∃ tv, w.heap[rb]? = some (.cells #[.int .i64 H.room, .int .i64 H.used, tv] 40 (0, 0)) ∧ Row w own (0, 1) 85 4 tv rs.length (rs.flatMap RT.cells)
  len : rs.length = H.things.length
  things : ∀ (i : Nat) (t : Thing), H.things[i]? = some t → ∃ r, rs[i]? = some r ∧ RTIs w own i t r

theorem RTIs.up {w w' : World} {own : Own} {i : Nat} {t : Thing} {r : RT} (h : RTIs w own i t r) (k : Up w w') : RTIs w' own i t r := ⟨h.kind, h.proto, h.slots.up k, h.vals.up k⟩
theorem RRep.up {w w' : World} {rb : Nat} {H : HM} {rs : List RT} {own : Own} (h : RRep w rb H rs own) (k : Up w w') : RRep w' rb H rs own where
  lt b m hm := Nat.lt_of_lt_of_le (h.lt b m hm) k.size
  mine := h.mine
  head := let ⟨tv, h1, h2⟩ := h.head; ⟨tv, k.get h1, h2.up k⟩
  len := h.len
  things i t ht := let ⟨r, h1, h2⟩ := h.things i t ht; ⟨r, h1, h2.up k⟩

theorem flat_get {α : Type} (f : α → List Value) (c : Nat) (hf : ∀ x, (f x).length = c) : ∀ (l : List α) (i : Nat) (x : α) (j : Nat), l[i]? = some x → j < c → (l.flatMap f)[i * c + j]? = (f x)[j]?
  | [], i, x, j, h, _ => by simp at h
  | y :: l, 0, x, j, h, hj => by
    simp at h
    subst h
    rw [List.flatMap_cons, Nat.zero_mul, Nat.zero_add, List.getElem?_append_left (by rw [hf]; exact hj)]
  | y :: l, i + 1, x, j, h, hj => by
    rw [List.flatMap_cons, List.getElem?_append_right (by rw [hf, Nat.add_mul]; omega), ← flat_get f c hf l i x j (by simpa using h) hj]
    congr 1
    rw [hf, Nat.add_mul]
    omega

theorem wf_len {H : HM} (h : H.Wf) : H.things.length ≤ 1048576 := by have := sizes_ge H.things; have := h.few; have := h.roomU; have := h.roomM; omega

theorem RRep.row {w : World} {rb : Nat} {H : HM} {rs : List RT} {own : Own} (h : RRep w rb H rs own) : ∃ sa cap, w.heap[rb]? = some (.cells #[.int .i64 H.room, .int .i64 H.used, .slice sa H.things.length cap] 40 (0, 0)) ∧ Row w own (0, 1) 85 4 (.slice sa H.things.length cap) H.things.length (rs.flatMap RT.cells) := by
  obtain ⟨tv, h1, h2⟩ := h.head
  obtain ⟨sa, cap, rfl⟩ := ownsRow_form h2.1
  rw [h.len] at h1 h2
  exact ⟨sa, cap, h1, h2⟩

/-- the cells of a thing -/
theorem RRep.at {w : World} {rb : Nat} {H : HM} {rs : List RT} {own : Own} (h : RRep w rb H rs own) {i : Nat} {t : Thing} (ht : H.things[i]? = some t) :
    ∃ tg cap r, w.heap[rb]? = some (.cells #[.int .i64 H.room, .int .i64 H.used, .slice (some ⟨tg, 0, none⟩) H.things.length cap] 40 (0, 0)) ∧ own tg = some (0, 1) ∧ rs[i]? = some r ∧
      w.cell? ⟨tg, i * 4, none⟩ = some (.int .i64 t.kind) ∧ w.cell? ⟨tg, i * 4 + 1, none⟩ = some (.int .i64 r.proto) ∧ w.cell? ⟨tg, i * 4 + 2, none⟩ = some r.sv ∧ w.cell? ⟨tg, i * 4 + 3, none⟩ = some r.vv ∧ RTIs w own i t r := by
  obtain ⟨sa, cap, h1, h2⟩ := h.row
  obtain ⟨r, hr, hi⟩ := h.things i t ht
  have e := fun j hj => flat_get RT.cells 4 (fun _ => rfl) rs i r j hr hj
  obtain ⟨tg, rfl, c0⟩ := row_at h2 (i * 4 + 0) _ (e 0 (by omega))
  obtain ⟨_, hg, c1⟩ := row_at h2 (i * 4 + 1) _ (e 1 (by omega)); cases hg
  obtain ⟨_, hg, c2⟩ := row_at h2 (i * 4 + 2) _ (e 2 (by omega)); cases hg
  obtain ⟨_, hg, c3⟩ := row_at h2 (i * 4 + 3) _ (e 3 (by omega)); cases hg
  exact ⟨tg, cap, r, h1, h2.2 tg rfl, hr, by rw [← hi.kind]; exact c0, c1, c2, c3, hi⟩

theorem there_things {H : HM} {n : Int} (h : H.there n = true) : 0 ≤ n ∧ ∃ t, H.things[n.toNat]? = some t := by
  unfold HM.there at h
  simp only [Bool.and_eq_true, decide_eq_true_eq] at h
  exact ⟨h.1, _, List.getElem?_eq_getElem (by omega)⟩

theorem s_there (rb : Nat) (H : HM) (rs : List RT) (own : Own) (n : Int) (w : World) (h : RRep w rb H rs own) (hw : H.Wf) : Calls Tryz.prog 41 #[.pointer (some ⟨rb, 0, none⟩), .int .i64 n] w fun e w' => e = .returned (.bool (H.there n)) ∧ w = w' := by
  obtain ⟨sa, cap, h1, h2⟩ := h.row
  have hl := wf_len hw
  have s0 := h1
  have a0 := cell_of s0 0; have a1 := cell_of s0 1; have a2 := cell_of s0 2; have f0 := ice_of s0 0; have f1 := ice_of s0 1; have f2 := ice_of s0 2; have a4 := lt_of_heap s0; (try simp only [World.size_alloc, List.getElem?_toArray, List.getElem?_cons_zero, List.getElem?_cons_succ] at a0 a1 a2 f0 f1 f2 a4); clear s0
  clear h1 h2 h hw
  unfold HM.there
  generalize H.things.length = len at *
  by_cases hn : 0 ≤ n
  · by_cases hm : n < len
    · go_enter Tryz.func41, Tryz.ntmps41
      go_wp2_with fail
      go_ret
      exact ⟨by simp [hn, hm], rfl⟩
    · go_enter Tryz.func41, Tryz.ntmps41
      go_wp2_with fail
      go_ret
      exact ⟨by simp [hn, hm], rfl⟩
  · have hn2 : n < 0 := by omega
    go_enter Tryz.func41, Tryz.ntmps41
    go_wp2_with fail
    go_ret
    exact ⟨by simp; omega, rfl⟩

theorem s_kind (rb : Nat) (H : HM) (rs : List RT) (own : Own) (n : Int) (w : World) (h : RRep w rb H rs own) (hw : H.Wf) : Calls Tryz.prog 15 #[.pointer (some ⟨rb, 0, none⟩), .int .i64 n] w fun e w' => e = .returned (.int .i64 (H.kindOf n)) ∧ w = w' := by
  have hh := Lib.hid h
  have HW := Lib.hid hw
  unfold HM.kindOf
  cases ht : H.there n
  · have HT := Lib.hid ht
    clear ht h hw
    go_enter Tryz.func15, Tryz.ntmps15
    go_wp2_with (first | (go_at_call 41; refine (s_there rb H rs own _ _ hh.out HW.out).mono ?_; rintro e w2 ⟨rfl, rfl⟩; rw [HT.out]))
    go_ret
    exact ⟨rfl, rfl⟩
  · have HT := Lib.hid ht
    obtain ⟨h0, t, hti⟩ := there_things ht
    obtain ⟨N, rfl⟩ := Int.eq_ofNat_of_zero_le h0
    rw [Int.toNat_natCast] at hti ⊢
    rw [hti]
    obtain ⟨tg, cap, r, h1, _, _, c0, _⟩ := h.at hti
    have hN : (N : Int) < H.things.length := by have := (List.getElem?_eq_some_iff.1 hti).1; omega
    have hl := wf_len hw
    have s0 := h1
    have a0 := cell_of s0 0; have a1 := cell_of s0 1; have a2 := cell_of s0 2; have f0 := ice_of s0 0; have f1 := ice_of s0 1; have f2 := ice_of s0 2; have a4 := lt_of_heap s0; (try simp only [World.size_alloc, List.getElem?_toArray, List.getElem?_cons_zero, List.getElem?_cons_succ] at a0 a1 a2 f0 f1 f2 a4); clear s0
    generalize H.things.length = len at *
    clear ht h hw h1 hti
    go_enter Tryz.func15, Tryz.ntmps15
    go_wp2_with (first | (go_at_call 41; refine (s_there rb H rs own _ _ hh.out HW.out).mono ?_; rintro e w2 ⟨rfl, rfl⟩; rw [HT.out]))
    go_ret
    exact ⟨rfl, rfl⟩

end Go.Proofs.YtmbipadiaggolaaGreatDoor

/- Walks: the document's heap: Len, array, Sane, find. -/
namespace Go.Proofs.YtmbipadiaggolaaGreatDoor
open Go.RowKit
set_option linter.unusedSimpArgs false

theorem s_len (rb : Nat) (H : HM) (rs : List RT) (own : Own) (n : Int) (w : World) (h : RRep w rb H rs own) (hw : H.Wf) : Calls Tryz.prog 17 #[.pointer (some ⟨rb, 0, none⟩), .int .i64 n] w fun e w' => e = .returned (.int .i64 (H.lenOf n)) ∧ w = w' := by
  have hh := Lib.hid h
  have HW := Lib.hid hw
  by_cases hk : H.kindOf n = 2
  · have ht : H.there n = true := by
      cases ht : H.there n with
      | true => rfl
      | false => unfold HM.kindOf at hk; rw [ht] at hk; simp at hk
    obtain ⟨h0, t, hti⟩ := there_things ht
    have HK := Lib.hid hk
    have hl2 : Hid (H.lenOf n = t.vals.length) := by unfold HM.lenOf Hid; rw [if_pos ht, hti]; rfl
    rw [hl2.out]
    obtain ⟨N, rfl⟩ := Int.eq_ofNat_of_zero_le h0
    rw [Int.toNat_natCast] at hti
    obtain ⟨tg, cap, r, h1, _, _, _, _, _, c3, hi⟩ := h.at hti
    obtain ⟨va, vc, hv⟩ := ownsRow_form hi.vals.1
    rw [hv] at c3
    have hN : (N : Int) < H.things.length := by have := (List.getElem?_eq_some_iff.1 hti).1; omega
    have hl := wf_len hw
    have s0 := h1
    have a0 := cell_of s0 0; have a1 := cell_of s0 1; have a2 := cell_of s0 2; have f0 := ice_of s0 0; have f1 := ice_of s0 1; have f2 := ice_of s0 2; have a4 := lt_of_heap s0; (try simp only [World.size_alloc, List.getElem?_toArray, List.getElem?_cons_zero, List.getElem?_cons_succ] at a0 a1 a2 f0 f1 f2 a4); clear s0
    generalize H.things.length = len at *
    clear ht h hw h1 hti hk hv hi
    go_enter Tryz.func17, Tryz.ntmps17
    go_wp2_with (first | (go_at_call 15; refine (s_kind rb H rs own _ _ hh.out HW.out).mono ?_; rintro e w2 ⟨rfl, rfl⟩; rw [HK.out]))
    go_ret
    exact ⟨rfl, rfl⟩
  · have hl2 : Hid (H.lenOf n = 0) := by
      unfold HM.lenOf Hid
      split
      · next ht =>
        obtain ⟨h0, t, hti⟩ := there_things ht
        rw [hti]
        unfold HM.kindOf at hk
        rw [if_pos ht, hti] at hk
        rcases hw.things _ _ hti with ⟨h2, _⟩ | ⟨_, hv, _⟩
        · exact absurd h2 hk
        · simp [hv]
      · rfl
    rw [hl2.out]
    obtain ⟨q, hq⟩ : ∃ q, Hid (H.kindOf n = q) := ⟨_, rfl⟩
    have hq2 : (q != 2) = true := by rw [hq.out] at hk; simpa using hk
    clear hk h hw
    go_enter Tryz.func17, Tryz.ntmps17
    go_wp2_with (first | (go_at_call 15; refine (s_kind rb H rs own _ _ hh.out HW.out).mono ?_; rintro e w2 ⟨rfl, rfl⟩; rw [hq.out]))
    go_ret
    exact ⟨rfl, rfl⟩

def HM.isArr (H : HM) (k n : Int) : Bool := decide (k = 5) && (H.kindOf n == 2)

theorem s_array (rb : Nat) (H : HM) (rs : List RT) (own : Own) (k n : Int) (s : ByteArray) (w : World) (h : RRep w rb H rs own) (hw : H.Wf) : Calls Tryz.prog 52 #[.pointer (some ⟨rb, 0, none⟩), .agg #[.int .i64 k, .int .i64 n, .string s]] w fun e w' => e = .returned (.bool (H.isArr k n)) ∧ Up w w' := by
  have HR := Lib.hid h
  have HW := Lib.hid hw
  clear h hw
  unfold HM.isArr
  obtain ⟨q, hq⟩ : ∃ q, Hid (H.kindOf n = q) := ⟨_, rfl⟩
  rw [hq.out]
  by_cases hk : k = 5
  · subst hk
    go_enter Tryz.func52, Tryz.ntmps52
    go_wp2_with (first | (go_at_call 15; refine (s_kind rb H rs own _ _ (HR.out.up uq) HW.out).mono ?_; rintro e w2 ⟨rfl, rfl⟩; rw [hq.out]))
    go_ret
    exact ⟨by simp, uq⟩
  · have hk2 : (k == 5) = false := by simpa using hk
    rw [decide_eq_false hk]
    clear hk
    go_enter Tryz.func52, Tryz.ntmps52
    go_wp2_with fail
    go_ret
    exact ⟨rfl, uq⟩

set_option maxHeartbeats 800000 in
theorem s_sane (rb : Nat) (H : HM) (rs : List RT) (own : Own) (k n : Int) (s : ByteArray) (w : World) (h : RRep w rb H rs own) (hw : H.Wf) :
    Calls Tryz.prog 38 #[.pointer (some ⟨rb, 0, none⟩), .agg #[.int .i64 k, .int .i64 n, .string s]] w fun e w' => e = .returned (.agg #[.int .i64 (plainS H ⟨k, n, s⟩).k, .int .i64 (plainS H ⟨k, n, s⟩).n, .string (plainS H ⟨k, n, s⟩).s]) ∧ Up w w' := by
  have HR := Lib.hid h
  have HW := Lib.hid hw
  clear h hw
  rcases ex : saneS ⟨k, n, s⟩ with ⟨pk, pn, ps⟩
  have HX := Lib.hid ex
  by_cases hk : pk = 5
  · subst hk
    have hkn : k = 5 ∧ pn = n ∧ ps = ⟨#[]⟩ := by
      unfold saneS at ex
      dsimp only at ex
      repeat' split at ex
      all_goals simp_all
    obtain ⟨rfl, rfl, rfl⟩ := hkn
    cases ht : H.there pn
    · have hp : Hid (plainS H ⟨5, pn, s⟩ = ⟨0, 0, ⟨#[]⟩⟩) := by simp [plainS, Hid, ht]
      have HT := Lib.hid ht
      rw [hp.out]
      clear ex ht
      go_enter Tryz.func38, Tryz.ntmps38
      go_wp2_with (first | (go_at_call 60; refine (rSane_any _ _ _ _).mono ?_; rintro e w' ⟨rfl, hu⟩; simp only [HX.out]; have s0 : w'.heap[w.heap.size + 1]? = some (.cells #[.int .i64 0, .int .i64 0, .string ⟨#[]⟩] 34 (0, 0)) := hu.get (alloc_at _ _ _ (by simp)); have a0 := cell_of s0 0; have a1 := cell_of s0 1; have a2 := cell_of s0 2; have f0 := ice_of s0 0; have f1 := ice_of s0 1; have f2 := ice_of s0 2; have a4 := lt_of_heap s0; (try simp only [World.size_alloc, List.getElem?_toArray, List.getElem?_cons_zero, List.getElem?_cons_succ] at a0 a1 a2 f0 f1 f2 a4); clear s0) | (go_at_call 41; refine (s_there rb H rs own _ _ (HR.out.up uq) HW.out).mono ?_; rintro e w2 ⟨rfl, rfl⟩; rw [HT.out]))
      all_goals (refine bodyPost_eq (by (simp [results, Tryz.results38, go_sem, *]) <;> rfl) rfl rfl ⟨rfl, uq⟩)
    · have hp : Hid (plainS H ⟨5, pn, s⟩ = ⟨5, pn, ⟨#[]⟩⟩) := by simp [plainS, Hid, ht]
      have HT := Lib.hid ht
      rw [hp.out]
      clear ex ht
      go_enter Tryz.func38, Tryz.ntmps38
      go_wp2_with (first | (go_at_call 60; refine (rSane_any _ _ _ _).mono ?_; rintro e w' ⟨rfl, hu⟩; simp only [HX.out]; have s0 : w'.heap[w.heap.size + 1]? = some (.cells #[.int .i64 0, .int .i64 0, .string ⟨#[]⟩] 34 (0, 0)) := hu.get (alloc_at _ _ _ (by simp)); have a0 := cell_of s0 0; have a1 := cell_of s0 1; have a2 := cell_of s0 2; have f0 := ice_of s0 0; have f1 := ice_of s0 1; have f2 := ice_of s0 2; have a4 := lt_of_heap s0; (try simp only [World.size_alloc, List.getElem?_toArray, List.getElem?_cons_zero, List.getElem?_cons_succ] at a0 a1 a2 f0 f1 f2 a4); clear s0) | (go_at_call 41; refine (s_there rb H rs own _ _ (HR.out.up uq) HW.out).mono ?_; rintro e w2 ⟨rfl, rfl⟩; rw [HT.out]))
      all_goals (refine bodyPost_eq (by (simp [results, Tryz.results38, go_sem, *]) <;> rfl) rfl rfl ⟨rfl, uq⟩)
  · have hp : Hid (plainS H ⟨k, n, s⟩ = ⟨pk, pn, ps⟩) := by
      unfold Hid
      rw [← ex]
      rw [show pk = (saneS ⟨k, n, s⟩).k by rw [ex]] at hk
      unfold saneS at hk ⊢
      unfold plainS
      dsimp only at hk ⊢
      repeat' split at hk
      all_goals simp_all
    rw [hp.out]
    have hk2 : (pk == 5) = false := by simpa using hk
    clear ex hk
    go_enter Tryz.func38, Tryz.ntmps38
    go_wp2_with (first | (go_at_call 60; refine (rSane_any _ _ _ _).mono ?_; rintro e w' ⟨rfl, hu⟩; simp only [HX.out]; have s0 : w'.heap[w.heap.size + 1]? = some (.cells #[.int .i64 0, .int .i64 0, .string ⟨#[]⟩] 34 (0, 0)) := hu.get (alloc_at _ _ _ (by simp)); have a0 := cell_of s0 0; have a1 := cell_of s0 1; have a2 := cell_of s0 2; have f0 := ice_of s0 0; have f1 := ice_of s0 1; have f2 := ice_of s0 2; have a4 := lt_of_heap s0; (try simp only [World.size_alloc, List.getElem?_toArray, List.getElem?_cons_zero, List.getElem?_cons_succ] at a0 a1 a2 f0 f1 f2 a4); clear s0))
    all_goals (refine bodyPost_eq (by (simp [results, Tryz.results38, go_sem, *]) <;> rfl) rfl rfl ⟨rfl, uq⟩)

end Go.Proofs.YtmbipadiaggolaaGreatDoor

/- Show: a value within so many things. -/
namespace Go.Proofs.YtmbipadiaggolaaGreatDoor
open Go.RowKit
set_option linter.unusedSimpArgs false
attribute [local go_sem] ta_aa ta_ao ta_an ta_oa ta_oo ta_on m_kind_a m_kind_o m_behind_a m_behind_o m_own_a m_own_o

def functionS : ByteArray := ⟨#[102, 117, 110, 99, 116, 105, 111, 110]⟩
def classS : ByteArray := ⟨#[99, 108, 97, 115, 115]⟩
def dotsS : ByteArray := ⟨#[46, 46, 46]⟩
def commaS : ByteArray := ⟨#[44, 32]⟩
def colonS : ByteArray := ⟨#[58, 32]⟩
def opens (t : Thing) : ByteArray := if t.kind = 2 then ⟨#[91]⟩ else ⟨#[123]⟩
def closes (t : Thing) : ByteArray := if t.kind = 2 then ⟨#[93]⟩ else ⟨#[125]⟩

def say (bs : List UInt8) (s : ByteArray) : Bool × List UInt8 := (fitsB bs s, laid bs s)

/-- one part -/
def stepPart (rec : Val → List UInt8 → Bool × List UInt8) (x : Part) (bs : List UInt8) : Bool × List UInt8 :=
  let a := if 0 < x.i then say bs commaS else (true, bs)
  if a.1 = false then (false, a.2) else
  let b := if x.keyed then say a.2 (x.key ++ colonS) else (true, a.2)
  if b.1 = false then (false, b.2) else rec x.v b.2

def showParts (rec : Val → List UInt8 → Bool × List UInt8) : List Part → List UInt8 → Bool × List UInt8
  | [], bs => (true, bs)
  | x :: l, bs => if (stepPart rec x bs).1 = false then (false, (stepPart rec x bs).2) else showParts rec l (stepPart rec x bs).2

theorem showParts_snoc (rec : Val → List UInt8 → Bool × List UInt8) : ∀ (l : List Part) (x : Part) (bs : List UInt8), (showParts rec l bs).1 = true → showParts rec (l ++ [x]) bs = stepPart rec x (showParts rec l bs).2
  | [], x, bs, _ => by
    simp only [List.nil_append, showParts]
    split
    · rename_i h; exact Prod.ext h.symm rfl
    · rename_i h; exact Prod.ext (by cases e : (stepPart rec x bs).1 <;> simp_all) rfl
  | y :: l, x, bs, h => by
    simp only [List.cons_append, showParts] at h ⊢
    split at h
    · simp at h
    · rename_i h1
      rw [if_neg h1, if_neg h1]
      exact showParts_snoc rec l x _ h

/-- the thing that a value stands for -/
def HM.at (H : HM) (v : Val) : Option Thing := if v.k = 5 ∧ H.there v.n = true then H.things[v.n.toNat]? else none

/-- a value within 3 - f things -/
def HM.showV (H : HM) (q : ByteArray → ByteArray) : Nat → Val → List UInt8 → Bool × List UInt8
  | f, v, bs =>
    if v.k = 4 then say bs (q v.s)
    else match H.at v with
    | none => say bs (textOf v)
    | some t =>
      if t.kind = 3 then say bs functionS
      else if t.kind = 4 then say bs classS
      else match f with
      | 0 => say bs dotsS
      | f + 1 =>
        let r := showParts (H.showV q f) (partsOf t) (laid bs (opens t))
        if fitsB bs (opens t) && r.1 then say r.2 (closes t) else (false, r.2)

theorem parts_any (T : TypeId) (y : Value) (w : World) :
    Calls Tryz.prog 59 #[.iface T y] w fun e w' => e = .returned (.func (.func 74) #[] #[.pointer (some ⟨w.heap.size, 0, none⟩)]) ∧ w' = w.alloc (.cells #[.iface T y] 79) := by
  go_enter Tryz.func59, Tryz.ntmps59
  go_wp2
  go_ret
  exact ⟨rfl, rfl⟩

/-- what is asked of a world, in which a value is shown -/
structure ShowIn (B sb : Nat) (hv : Value) (H : HM) (tvs : List Value) (own : Own) (bs : List UInt8) (w : World) : Prop where
  heap : HRep w hv H tvs own
  low : ∀ b m, own b = some m → b < B
  at_ : ShowAt B sb hv bs w
  len : bs.length ≤ 65536

theorem ShowIn.up {B sb : Nat} {hv : Value} {H : HM} {tvs : List Value} {own : Own} {bs : List UInt8} {w w' : World} (h : ShowIn B sb hv H tvs own bs w) (k : Up w w') : ShowIn B sb hv H tvs own bs w' := ⟨h.heap.up k, h.low, h.at_.up k, h.len⟩
theorem ShowIn.on {B sb : Nat} {hv : Value} {H : HM} {tvs : List Value} {own : Own} {bs bs' : List UInt8} {w w' : World} (h : ShowIn B sb hv H tvs own bs w) (k : Showed sb w w') (h' : ShowAt B sb hv bs' w') (hl : bs'.length ≤ 65536) : ShowIn B sb hv H tvs own bs' w' :=
  ⟨hrep_show h.heap h.low k.kept.size (fun b hb => k.below h.at_ b hb), h.low, h', hl⟩

theorem Showed.own {B sb : Nat} {hv : Value} {bs : List UInt8} {w w2 w3 : World} (h : ShowAt B sb hv bs w) (hu : Up w w2) (k : Showed sb w2 w3) {x : Nat} {o : Obj} (hx : w.heap.size ≤ x) (ho : w2.heap[x]? = some o) : w3.heap[x]? = some o :=
  k.get ho (by have := h.lt; omega) (by rw [bufOf_up (hu.block sb h.lt)]; intro e; have := (h.buf x e).2; omega)

def Shown (B sb : Nat) (hv : Value) (r : Bool × List UInt8) (w : World) (e : Ending) (w' : World) : Prop := e = .returned (.bool r.1) ∧ ShowAt B sb hv r.2 w' ∧ Showed sb w w'

set_option maxRecDepth 100000 in
set_option maxHeartbeats 4000000 in
theorem value_string (B sb : Nat) (hv : Value) (H : HM) (tvs : List Value) (own : Own) (bs : List UInt8) (n d : Int) (s : ByteArray) (w : World) (h : ShowIn B sb hv H tvs own bs w) (q : ByteArray)
    (hq : ∀ W, Up w W → Calls Tryz.prog 57 #[.string s] W fun e w' => e = .returned (.string q) ∧ Up W w') :
    Calls Tryz.prog 36 #[.pointer (some ⟨sb, 0, none⟩), .agg #[.int .i64 4, .int .i64 n, .string s], .int .i64 d] w (Shown B sb hv (say bs q) w) := by
  have hh := Lib.hid h
  obtain ⟨p0, v0, hsb0, _⟩ := h.at_.there
  have c0 := cell_of hsb0 0
  simp only [List.getElem?_toArray, List.getElem?_cons_zero] at c0
  have hlt := h.at_.lt
  clear h hsb0
  have c1 : ∀ o1 o2 o3, (((w.alloc o1).alloc o2).alloc o3).cell? ⟨sb, 0, none⟩ = some hv := fun o1 o2 o3 => (Up.cells (show Up w (((w.alloc o1).alloc o2).alloc o3) from uq) sb 0 hlt).trans c0
  refine callsIn_wide.1 (callsIn_of_wp_marks (n := 2) Tryz.func36 rfl trivial ?_)
  refine wpIn_wide.2 ?_
  simp only [Tryz.ntmps36, List.size_toArray, List.length_cons, List.length_nil, Nat.reduceAdd, Nat.reduceSub, Array.replicate_succ, Array.replicate_zero, List.push_toArray, List.append_toArray, List.nil_append, List.cons_append]
  go_wp2_with fail
  refine wp_scope_straight ?_
  go_wp2_with fail
  go_region_held3 (fun W => W.cell? ⟨w.heap.size, 0, none⟩ = some (.pointer (some ⟨sb, 0, none⟩)) ∧ W.cell? ⟨sb, 0, none⟩ = some hv ∧ W.cell? ⟨w.heap.size + 1, 0, none⟩ = some (.int .i64 4) ∧ W.cell? ⟨w.heap.size + 1, 1, none⟩ = some (.int .i64 n) ∧ W.cell? ⟨w.heap.size + 1, 2, none⟩ = some (.string s)) (go_keep) (first | (go_at_call 40; refine (thing_none hv H tvs own _ _ _ _ (hh.out.heap.up uq) (fun e => by simp at e)).mono ?_; rintro e w1 ⟨rfl, hu⟩; have s0 := hu.get (Up.get uq (alloc_get w _)); have B3 := Lib.hid s0; have a0 := cell_of s0 0; have a1 := cell_of s0 1; have a2 := cell_of s0 2; have f0 := ice_of s0 0; have f1 := ice_of s0 1; have f2 := ice_of s0 2; have a4 := lt_of_heap s0; (try simp only [World.size_alloc, List.getElem?_toArray, List.getElem?_cons_zero, List.getElem?_cons_succ] at a0 a1 a2 f0 f1 f2 a4); clear s0; have s0 := hu.get (Up.get uq (alloc_get (w.alloc _) _)); simp only [World.size_alloc] at s0; have B4 := Lib.hid s0; have a0 := cell_of s0 0; have a1 := cell_of s0 1; have a2 := cell_of s0 2; have f0 := ice_of s0 0; have f1 := ice_of s0 1; have f2 := ice_of s0 2; have a4 := lt_of_heap s0; (try simp only [World.size_alloc, List.getElem?_toArray, List.getElem?_cons_zero, List.getElem?_cons_succ] at a0 a1 a2 f0 f1 f2 a4); clear s0; have s0 := hu.get (Up.get uq (alloc_get ((w.alloc _).alloc _) _)); simp only [World.size_alloc] at s0; have B5 := Lib.hid s0; have a0 := cell_of s0 0; simp only [List.getElem?_toArray, List.getElem?_cons_zero] at a0; clear s0; have z0 := (hu.cells sb 0 (by simp; omega)); have hw1 : Up w w1 := uq))
  clear c1
  go_wp2_with fail
  go_region_held3 (fun W => W.cell? ⟨w.heap.size, 0, none⟩ = some (.pointer (some ⟨sb, 0, none⟩)) ∧ W.cell? ⟨w.heap.size + 1, 0, none⟩ = some (.int .i64 4) ∧ W.cell? ⟨w.heap.size + 1, 1, none⟩ = some (.int .i64 n) ∧ W.cell? ⟨w.heap.size + 1, 2, none⟩ = some (.string s)) (go_keep) (first | (go_at_call 57; refine (hq _ uq).mono ?_; rintro e w2 ⟨rfl, hu2⟩; have s0 := hu2.get B3.out; have a0 := cell_of s0 0; have a1 := cell_of s0 1; have a2 := cell_of s0 2; have f0 := ice_of s0 0; have f1 := ice_of s0 1; have f2 := ice_of s0 2; have a4 := lt_of_heap s0; (try simp only [World.size_alloc, List.getElem?_toArray, List.getElem?_cons_zero, List.getElem?_cons_succ] at a0 a1 a2 f0 f1 f2 a4); clear s0; have s0 := hu2.get B4.out; have a0 := cell_of s0 0; have a1 := cell_of s0 1; have a2 := cell_of s0 2; have f0 := ice_of s0 0; have f1 := ice_of s0 1; have f2 := ice_of s0 2; have a4 := lt_of_heap s0; (try simp only [World.size_alloc, List.getElem?_toArray, List.getElem?_cons_zero, List.getElem?_cons_succ] at a0 a1 a2 f0 f1 f2 a4); clear s0) | (go_at_call 56; refine (says_any B sb hv bs q _ (hh.out.at_.up uq) hh.out.len).mono ?_; rintro e w3 ⟨rfl, hS, hK⟩; have s0 := Showed.own hh.out.at_ uq hK (Nat.le_refl _) (Up.get (w := w1) uq B3.out); have a0 := cell_of s0 0; have a1 := cell_of s0 1; have a2 := cell_of s0 2; have f0 := ice_of s0 0; have f1 := ice_of s0 1; have f2 := ice_of s0 2; have a4 := lt_of_heap s0; (try simp only [World.size_alloc, List.getElem?_toArray, List.getElem?_cons_zero, List.getElem?_cons_succ] at a0 a1 a2 f0 f1 f2 a4); clear s0; have s0 := Showed.own hh.out.at_ uq hK (x := w.heap.size + 1) (by omega) (Up.get (w := w1) uq B4.out); have a0 := cell_of s0 0; have a1 := cell_of s0 1; have a2 := cell_of s0 2; have f0 := ice_of s0 0; have f1 := ice_of s0 1; have f2 := ice_of s0 2; have a4 := lt_of_heap s0; (try simp only [World.size_alloc, List.getElem?_toArray, List.getElem?_cons_zero, List.getElem?_cons_succ] at a0 a1 a2 f0 f1 f2 a4); clear s0))
  go_wp2_with fail
  refine ⟨_, results_tmp rfl _ _ _, rfl, hS, ?_⟩
  exact (Showed.of_up (uq) hh.out.at_.lt).trans hK

set_option maxRecDepth 100000 in
set_option maxHeartbeats 4000000 in
theorem value_none (B sb : Nat) (hv : Value) (H : HM) (tvs : List Value) (own : Own) (bs : List UInt8) (k n d : Int) (hk : (k == 4) = false) (hn : k = 5 → H.there n = false) (s : ByteArray) (w : World) (h : ShowIn B sb hv H tvs own bs w) (ht : k = 3 → (0 ≤ n ∧ n < 100) ∨ Tab w) :
    Calls Tryz.prog 36 #[.pointer (some ⟨sb, 0, none⟩), .agg #[.int .i64 k, .int .i64 n, .string s], .int .i64 d] w (Shown B sb hv (say bs (textOf ⟨k, n, s⟩)) w) := by
  have hh := Lib.hid h
  obtain ⟨p0, v0, hsb0, _⟩ := h.at_.there
  have c0 := cell_of hsb0 0
  simp only [List.getElem?_toArray, List.getElem?_cons_zero] at c0
  have hlt := h.at_.lt
  have HN := Lib.hid hn
  have HT := Lib.hid ht
  clear h hsb0 hn ht
  have c1 : ∀ o1 o2 o3, (((w.alloc o1).alloc o2).alloc o3).cell? ⟨sb, 0, none⟩ = some hv := fun o1 o2 o3 => (Up.cells (show Up w (((w.alloc o1).alloc o2).alloc o3) from uq) sb 0 hlt).trans c0
  refine callsIn_wide.1 (callsIn_of_wp_marks (n := 2) Tryz.func36 rfl trivial ?_)
  refine wpIn_wide.2 ?_
  simp only [Tryz.ntmps36, List.size_toArray, List.length_cons, List.length_nil, Nat.reduceAdd, Nat.reduceSub, Array.replicate_succ, Array.replicate_zero, List.push_toArray, List.append_toArray, List.nil_append, List.cons_append]
  go_wp2_with fail
  refine wp_scope_straight ?_
  go_wp2_with fail
  go_region_held3 (fun W => W.cell? ⟨w.heap.size, 0, none⟩ = some (.pointer (some ⟨sb, 0, none⟩)) ∧ W.cell? ⟨sb, 0, none⟩ = some hv ∧ W.cell? ⟨w.heap.size + 1, 0, none⟩ = some (.int .i64 k) ∧ W.cell? ⟨w.heap.size + 1, 1, none⟩ = some (.int .i64 n) ∧ W.cell? ⟨w.heap.size + 1, 2, none⟩ = some (.string s)) (go_keep) (first | (go_at_call 40; refine (thing_none hv H tvs own _ _ _ _ (hh.out.heap.up uq) HN.out).mono ?_; rintro e w1 ⟨rfl, hu⟩; have s0 := hu.get (Up.get uq (alloc_get w _)); have B3 := Lib.hid s0; have a0 := cell_of s0 0; have a1 := cell_of s0 1; have a2 := cell_of s0 2; have f0 := ice_of s0 0; have f1 := ice_of s0 1; have f2 := ice_of s0 2; have a4 := lt_of_heap s0; (try simp only [World.size_alloc, List.getElem?_toArray, List.getElem?_cons_zero, List.getElem?_cons_succ] at a0 a1 a2 f0 f1 f2 a4); clear s0; have s0 := hu.get (Up.get uq (alloc_get (w.alloc _) _)); simp only [World.size_alloc] at s0; have B4 := Lib.hid s0; have a0 := cell_of s0 0; have a1 := cell_of s0 1; have a2 := cell_of s0 2; have f0 := ice_of s0 0; have f1 := ice_of s0 1; have f2 := ice_of s0 2; have a4 := lt_of_heap s0; (try simp only [World.size_alloc, List.getElem?_toArray, List.getElem?_cons_zero, List.getElem?_cons_succ] at a0 a1 a2 f0 f1 f2 a4); clear s0; have s0 := hu.get (Up.get uq (alloc_get ((w.alloc _).alloc _) _)); simp only [World.size_alloc] at s0; have B5 := Lib.hid s0; have a0 := cell_of s0 0; simp only [List.getElem?_toArray, List.getElem?_cons_zero] at a0; clear s0; have z0 := (hu.cells sb 0 (by simp; omega)); have hw1 : Up w w1 := uq))
  clear c1
  go_wp2_with fail
  go_region_held3 (fun W => W.cell? ⟨w.heap.size, 0, none⟩ = some (.pointer (some ⟨sb, 0, none⟩)) ∧ W.cell? ⟨w.heap.size + 1, 0, none⟩ = some (.int .i64 k) ∧ W.cell? ⟨w.heap.size + 1, 1, none⟩ = some (.int .i64 n) ∧ W.cell? ⟨w.heap.size + 1, 2, none⟩ = some (.string s)) (go_keep) (first | (go_at_call 58; refine (vtext k n s _ (fun e => (HT.out e).imp id fun h => h.up uq)).mono ?_; rintro e w2 ⟨rfl, hu2⟩; have s0 := hu2.get B3.out; have a0 := cell_of s0 0; have a1 := cell_of s0 1; have a2 := cell_of s0 2; have f0 := ice_of s0 0; have f1 := ice_of s0 1; have f2 := ice_of s0 2; have a4 := lt_of_heap s0; (try simp only [World.size_alloc, List.getElem?_toArray, List.getElem?_cons_zero, List.getElem?_cons_succ] at a0 a1 a2 f0 f1 f2 a4); clear s0; have s0 := hu2.get B4.out; have a0 := cell_of s0 0; have a1 := cell_of s0 1; have a2 := cell_of s0 2; have f0 := ice_of s0 0; have f1 := ice_of s0 1; have f2 := ice_of s0 2; have a4 := lt_of_heap s0; (try simp only [World.size_alloc, List.getElem?_toArray, List.getElem?_cons_zero, List.getElem?_cons_succ] at a0 a1 a2 f0 f1 f2 a4); clear s0) | (go_at_call 56; refine (says_any B sb hv bs (textOf ⟨k, n, s⟩) _ (hh.out.at_.up uq) hh.out.len).mono ?_; rintro e w3 ⟨rfl, hS, hK⟩; have s0 := Showed.own hh.out.at_ uq hK (Nat.le_refl _) (Up.get (w := w1) uq B3.out); have a0 := cell_of s0 0; have a1 := cell_of s0 1; have a2 := cell_of s0 2; have f0 := ice_of s0 0; have f1 := ice_of s0 1; have f2 := ice_of s0 2; have a4 := lt_of_heap s0; (try simp only [World.size_alloc, List.getElem?_toArray, List.getElem?_cons_zero, List.getElem?_cons_succ] at a0 a1 a2 f0 f1 f2 a4); clear s0; have s0 := Showed.own hh.out.at_ uq hK (x := w.heap.size + 1) (by omega) (Up.get (w := w1) uq B4.out); have a0 := cell_of s0 0; have a1 := cell_of s0 1; have a2 := cell_of s0 2; have f0 := ice_of s0 0; have f1 := ice_of s0 1; have f2 := ice_of s0 2; have a4 := lt_of_heap s0; (try simp only [World.size_alloc, List.getElem?_toArray, List.getElem?_cons_zero, List.getElem?_cons_succ] at a0 a1 a2 f0 f1 f2 a4); clear s0))
  go_wp2_with fail
  refine ⟨_, results_tmp rfl _ _ _, rfl, hS, ?_⟩
  exact (Showed.of_up (uq) hh.out.at_.lt).trans hK

end Go.Proofs.YtmbipadiaggolaaGreatDoor
