import Derived.Test.YtmbipadiaggolaaGreatDoorM19
/- YtmbipadiaggolaaGreatDoorM20: lemmas of the proof, in order: In, InA, RefJ, RefK. -/
/- Walks: the document's heap: a value within things (1): but arrays and objects. -/
namespace Go.Proofs.YtmbipadiaggolaaGreatDoor
open Go.RowKit
set_option linter.unusedSimpArgs false

def runA (rec : Val → ByteArray) : List Val → Bool → ByteArray → ByteArray
  | [], _, s => s
  | v :: l, first, s => if s.size ≤ 65536 then runA rec l false ((if first then s else s ++ commaS) ++ rec v) else s
def runO (rec : Val → ByteArray) : List (ByteArray × Val) → Bool → ByteArray → ByteArray
  | [], _, s => s
  | x :: l, first, s => if s.size ≤ 65536 then runO rec l false ((if first then s else s ++ commaS) ++ x.1 ++ colonS ++ rec x.2) else s

/-- a value within 3 - f things, as the document says it -/
def HM.inV (H : HM) : Nat → Val → ByteArray
  | f, v =>
    if v.k = 4 then quoteS v.s
    else if v.k ≠ 5 then textOf v
    else match H.things[v.n.toNat]? with
    | none => ⟨#[]⟩
    | some t =>
      if t.kind = 3 then functionS
      else if t.kind = 4 then classS
      else match f with
      | 0 => dotsS
      | f + 1 => if t.kind = 2 then runA (H.inV f) t.vals true ⟨#[91]⟩ ++ ⟨#[93]⟩ else runO (H.inV f) t.slots true ⟨#[123]⟩ ++ ⟨#[125]⟩

theorem in_string {H : HM} {f : Nat} {v : Val} (h : v.k = 4) : H.inV f v = quoteS v.s := by cases f <;> simp [HM.inV, h]
theorem in_text {H : HM} {f : Nat} {v : Val} (h : v.k ≠ 4) (h5 : v.k ≠ 5) : H.inV f v = textOf v := by cases f <;> simp [HM.inV, h, h5]

set_option maxHeartbeats 1600000 in
theorem s_in_string (rb : Nat) (k n d : Int) (s : ByteArray) (hk : (k == 4) = true) (hs : s.size ≤ 1000000) (w : World) :
    Calls Tryz.prog 39 #[.pointer (some ⟨rb, 0, none⟩), .agg #[.int .i64 k, .int .i64 n, .string s], .int .i64 d] w fun e w' => e = .returned (.string (quoteS s)) ∧ Up w w' := by
  have HS := Lib.hid hs
  clear hs
  go_enter Tryz.func39, Tryz.ntmps39
  go_wp2_with (first | (go_at_call 61; refine (s_quote s HS.out _).mono ?_; rintro e w2 ⟨rfl, hu⟩))
  go_ret
  exact ⟨rfl, uq⟩

set_option maxHeartbeats 1600000 in
theorem s_in_text (rb : Nat) (k n d : Int) (s : ByteArray) (hk : (k == 4) = false) (h5 : (k != 5) = true) (w : World) :
    Calls Tryz.prog 39 #[.pointer (some ⟨rb, 0, none⟩), .agg #[.int .i64 k, .int .i64 n, .string s], .int .i64 d] w fun e w' => e = .returned (.string (textOf ⟨k, n, s⟩)) ∧ Up w w' := by
  go_enter Tryz.func39, Tryz.ntmps39
  go_wp2_with (first | (go_at_call 62; refine (r_text _ _ _ _).mono ?_; rintro e w2 ⟨rfl, hu⟩))
  go_ret
  exact ⟨rfl, uq⟩

/-- the box of a thing -/
def thingObj (t : Thing) (r : RT) : Obj := .cells #[.int .i64 t.kind, .int .i64 r.proto, r.sv, r.vv] 85

set_option maxRecDepth 100000 in
set_option maxHeartbeats 1600000 in
theorem s_in_word (rb : Nat) (H : HM) (rs : List RT) (own : Own) (N : Nat) (d : Int) (s : ByteArray) (w : World) (h : RRep w rb H rs own) (hw : H.Wf) (t : Thing) (hti : H.things[N]? = some t) (q : Int) (out : ByteArray) (hq : t.kind = q)
    (ho : (q = 3 ∧ out = functionS) ∨ (q = 4 ∧ out = classS) ∨ (q = 1 ∧ 3 ≤ d ∧ out = dotsS) ∨ (q = 2 ∧ 3 ≤ d ∧ out = dotsS)) :
    Calls Tryz.prog 39 #[.pointer (some ⟨rb, 0, none⟩), .agg #[.int .i64 5, .int .i64 N, .string s], .int .i64 d] w fun e w' => e = .returned (.string out) ∧ Up w w' := by
  have hNl : (N : Int) < H.things.length := by have := (List.getElem?_eq_some_iff.1 hti).1; omega
  have hll := wf_len hw
  obtain ⟨tg, cap, r, h1, _, _, c0, c1, c2, c3, hi⟩ := h.at hti
  obtain ⟨sa, sc, hsv⟩ := ownsRow_form hi.slots.1
  obtain ⟨va, vc, hvv⟩ := ownsRow_form hi.vals.1
  rw [hsv] at c2
  rw [hvv] at c3
  rw [hq] at c0
  have s0 := h1
  have a0 := cell_of s0 0; have a1 := cell_of s0 1; have a2 := cell_of s0 2; have f0 := ice_of s0 0; have f1 := ice_of s0 1; have f2 := ice_of s0 2; have a4 := lt_of_heap s0; (try simp only [World.size_alloc, List.getElem?_toArray, List.getElem?_cons_zero, List.getElem?_cons_succ] at a0 a1 a2 f0 f1 f2 a4); clear s0
  have lt0 := cell_lt3 c0
  clear h hw hti h1 hq hi hsv hvv
  rcases ho with ⟨rfl, rfl⟩ | ⟨rfl, rfl⟩ | ⟨rfl, hd, rfl⟩ | ⟨rfl, hd, rfl⟩
  · go_enter Tryz.func39, Tryz.ntmps39
    go_wp2_with fail
    go_region_held3 (fun W => W.cell? ⟨rb, 2, none⟩ = some (.slice (some ⟨tg, 0, none⟩) H.things.length cap) ∧ W.cell? ⟨w.heap.size, 1, none⟩ = some (.int .i64 N) ∧ W.cell? ⟨tg, N * 4, none⟩ = some (.int .i64 3) ∧ W.cell? ⟨tg, N * 4 + 1, none⟩ = some (.int .i64 r.proto) ∧ W.cell? ⟨tg, N * 4 + 2, none⟩ = some (.slice sa t.slots.length sc) ∧ W.cell? ⟨tg, N * 4 + 3, none⟩ = some (.slice va t.vals.length vc)) (go_keep) (fail)
    go_wp2_with fail
    go_ret
    exact ⟨rfl, uq⟩
  · go_enter Tryz.func39, Tryz.ntmps39
    go_wp2_with fail
    go_region_held3 (fun W => W.cell? ⟨rb, 2, none⟩ = some (.slice (some ⟨tg, 0, none⟩) H.things.length cap) ∧ W.cell? ⟨w.heap.size, 1, none⟩ = some (.int .i64 N) ∧ W.cell? ⟨tg, N * 4, none⟩ = some (.int .i64 4) ∧ W.cell? ⟨tg, N * 4 + 1, none⟩ = some (.int .i64 r.proto) ∧ W.cell? ⟨tg, N * 4 + 2, none⟩ = some (.slice sa t.slots.length sc) ∧ W.cell? ⟨tg, N * 4 + 3, none⟩ = some (.slice va t.vals.length vc)) (go_keep) (fail)
    go_wp2_with fail
    go_ret
    exact ⟨rfl, uq⟩
  · go_enter Tryz.func39, Tryz.ntmps39
    go_wp2_with fail
    go_region_held3 (fun W => W.cell? ⟨rb, 2, none⟩ = some (.slice (some ⟨tg, 0, none⟩) H.things.length cap) ∧ W.cell? ⟨w.heap.size, 1, none⟩ = some (.int .i64 N) ∧ W.cell? ⟨tg, N * 4, none⟩ = some (.int .i64 1) ∧ W.cell? ⟨tg, N * 4 + 1, none⟩ = some (.int .i64 r.proto) ∧ W.cell? ⟨tg, N * 4 + 2, none⟩ = some (.slice sa t.slots.length sc) ∧ W.cell? ⟨tg, N * 4 + 3, none⟩ = some (.slice va t.vals.length vc)) (go_keep) (fail)
    go_wp2_with fail
    go_ret
    exact ⟨rfl, uq⟩
  · go_enter Tryz.func39, Tryz.ntmps39
    go_wp2_with fail
    go_region_held3 (fun W => W.cell? ⟨rb, 2, none⟩ = some (.slice (some ⟨tg, 0, none⟩) H.things.length cap) ∧ W.cell? ⟨w.heap.size, 1, none⟩ = some (.int .i64 N) ∧ W.cell? ⟨tg, N * 4, none⟩ = some (.int .i64 2) ∧ W.cell? ⟨tg, N * 4 + 1, none⟩ = some (.int .i64 r.proto) ∧ W.cell? ⟨tg, N * 4 + 2, none⟩ = some (.slice sa t.slots.length sc) ∧ W.cell? ⟨tg, N * 4 + 3, none⟩ = some (.slice va t.vals.length vc)) (go_keep) (fail)
    go_wp2_with fail
    go_ret
    exact ⟨rfl, uq⟩

end Go.Proofs.YtmbipadiaggolaaGreatDoor

/- Walks: the document's heap: a value within things (2): arrays. -/
namespace Go.Proofs.YtmbipadiaggolaaGreatDoor
open Go.RowKit
set_option linter.unusedSimpArgs false

set_option maxRecDepth 100000 in
set_option maxHeartbeats 3200000 in
theorem s_in_arr (rb : Nat) (H : HM) (rs : List RT) (own : Own) (N : Nat) (d : Int) (s : ByteArray) (w : World) (h : RRep w rb H rs own) (hw : H.Wf) (t : Thing) (hti : H.things[N]? = some t) (hk : t.kind = 2) (hd : d < 3) (hd0 : 0 ≤ d) (rec : Val → ByteArray) (K : Nat) (hKb : K ≤ 1000000000) (hK : ∀ v ∈ t.vals, (rec v).size ≤ K)
    (hrec : ∀ v ∈ t.vals, ∀ W, RRep W rb H rs own → Calls Tryz.prog 39 #[.pointer (some ⟨rb, 0, none⟩), .agg #[.int .i64 (v).k, .int .i64 (v).n, .string (v).s], .int .i64 (d + 1)] W fun e w' => e = .returned (.string (rec v)) ∧ Up W w') :
    Calls Tryz.prog 39 #[.pointer (some ⟨rb, 0, none⟩), .agg #[.int .i64 5, .int .i64 N, .string s], .int .i64 d] w fun e w' => e = .returned (.string (runA rec t.vals true ⟨#[91]⟩ ++ ⟨#[93]⟩)) ∧ Up w w' := by
  have HR := Lib.hid h
  have HRC := Lib.hid hrec
  have HK := Lib.hid hK
  have hNl : (N : Int) < H.things.length := by have := (List.getElem?_eq_some_iff.1 hti).1; omega
  have hll := wf_len hw
  have hvl : t.vals.length ≤ 1048576 := by have := sizes_at _ _ _ hti; have q1 := hw.few; have q2 := hw.roomU; have q3 := hw.roomM; simp only [Thing.size] at this; omega
  obtain ⟨tg, cap, r, h1, _, _, c0, c1, c2, c3, hi⟩ := h.at hti
  obtain ⟨sa, sc, hsv⟩ := ownsRow_form hi.slots.1
  obtain ⟨va, vc, hvv⟩ := ownsRow_form hi.vals.1
  rw [hsv] at c2
  rw [hvv] at c3
  rw [hk] at c0
  have HV := Lib.hid hi.vals
  rw [hvv] at HV
  obtain ⟨tot, htot⟩ : ∃ tot, Hid (runA rec t.vals true ⟨#[91]⟩ = tot) := ⟨_, rfl⟩
  rw [htot.out]
  have s0 := h1
  have a0 := cell_of s0 0; have a1 := cell_of s0 1; have a2 := cell_of s0 2; have f0 := ice_of s0 0; have f1 := ice_of s0 1; have f2 := ice_of s0 2; have a4 := lt_of_heap s0; (try simp only [World.size_alloc, List.getElem?_toArray, List.getElem?_cons_zero, List.getElem?_cons_succ] at a0 a1 a2 f0 f1 f2 a4); clear s0
  have lt0 := cell_lt3 c0
  clear h hw hti h1 hk hi hsv hvv hrec hK
  go_enter Tryz.func39, Tryz.ntmps39
  go_wp2_with fail
  go_region_held3 (fun W => W.cell? ⟨rb, 2, none⟩ = some (.slice (some ⟨tg, 0, none⟩) H.things.length cap) ∧ W.cell? ⟨w.heap.size, 1, none⟩ = some (.int .i64 N) ∧ W.cell? ⟨tg, N * 4, none⟩ = some (.int .i64 2) ∧ W.cell? ⟨tg, N * 4 + 1, none⟩ = some (.int .i64 r.proto) ∧ W.cell? ⟨tg, N * 4 + 2, none⟩ = some (.slice sa t.slots.length sc) ∧ W.cell? ⟨tg, N * 4 + 3, none⟩ = some (.slice va t.vals.length vc)) (go_keep) (fail)
  go_wp2_with fail
  refine range_named fun A W hA hW => ?_
  have hUW : Up w W := by subst hW; exact uq
  have hbx : W.cell? ⟨w.heap.size + 1, 3, none⟩ = some (.slice va t.vals.length vc) := by subst hW; simp [*]
  have hbl := cell_lt3 hbx
  clear hW
  subst hA
  go_loopw [8, 9] (fun out i wr => ∃ (j : Nat) (acc : ByteArray), j ≤ t.vals.length ∧ i = .int .i64 j ∧ out = .string acc ∧ Hid (runA rec (t.vals.drop j) (j == 0) acc = tot) ∧ acc.size ≤ 65538 + K ∧ Up W wr) (fun _ i _ => t.vals.length - (intOf i).toNat)
  case atStart => exact ⟨0, ⟨#[91]⟩, Nat.zero_le _, rfl, rfl, htot, by show 1 ≤ _; omega, Up.refl _⟩
  case round =>
    obtain ⟨j, acc, hj, rfl, rfl, hq, hsz, hup⟩ := hrel
    have c3 := (hup.cells (w.heap.size + 1) 3 hbl).trans hbx
    have hwr : Up w wr := hUW.trans hup
    have hfin : ∀ (acc' : ByteArray), acc' = tot → acc'.size ≤ 65538 + K → Hid (acc' = tot ∧ acc'.size ≤ 65538 + K) := fun _ h1 h2 => ⟨h1, h2⟩
    by_cases hlt : j < t.vals.length
    · have hji : (j : Int) < t.vals.length := by omega
      obtain ⟨v, hv⟩ : ∃ v, t.vals[j]? = some v := ⟨_, List.getElem?_eq_getElem hlt⟩
      have hmem := List.mem_of_getElem? hv
      have hcons : t.vals.drop j = v :: t.vals.drop (j + 1) := by
        rw [List.drop_eq_getElem_cons hlt, (List.getElem?_eq_some_iff.1 hv).2]
      by_cases hbig : acc.size ≤ 65536
      · have hbi : (acc.size : Int) ≤ 65536 := by omega
        have e := fun q hq => flat_get Val.cells 3 (fun _ => rfl) t.vals j _ q hv hq
        have hrow := HV.out.up hwr
        obtain ⟨vg, rfl, d0⟩ := row_at hrow (j * 3 + 0) _ (e 0 (by omega))
        obtain ⟨_, hg, d1⟩ := row_at hrow (j * 3 + 1) _ (e 1 (by omega)); cases hg
        obtain ⟨_, hg, d2⟩ := row_at hrow (j * 3 + 2) _ (e 2 (by omega)); cases hg
        rw [Nat.add_zero] at d0
        have hnext : Hid (runA rec (t.vals.drop (j + 1)) false ((if (j == 0) = true then acc else acc ++ commaS) ++ rec v) = tot) := by
          unfold Hid
          rw [← hq.out, hcons]
          conv => rhs; unfold runA
          rw [if_pos hbig]
        have hrs : (rec v).size ≤ K := HK.out v hmem
        have HM2 := Lib.hid (And.intro hmem hv)
        clear hq hmem hv hcons e hrow hfin hlt hbig
        by_cases hj0 : j = 0
        · subst hj0
          go_wp2_with (first | (go_at_call 39; refine (HRC.out v HM2.out.1 _ (HR.out.up uq)).mono ?_; rintro e w3 ⟨rfl, hu3⟩))
          go_roundw
          case rel => exact ⟨1, acc ++ rec v, by omega, by simp, rfl, hnext, by rw [ByteArray.size_append]; omega, uq⟩
          case measure => simp [intOf]; omega
        · have hjp : 0 < (j : Int) := by omega
          have hjb : (j == 0) = false := by simpa using hj0
          rw [hjb] at hnext
          clear hj0 hjb
          go_wp2_with (first | (go_at_call 39; refine (HRC.out v HM2.out.1 _ (HR.out.up uq)).mono ?_; rintro e w3 ⟨rfl, hu3⟩))
          go_roundw
          case rel => exact ⟨j + 1, acc ++ commaS ++ rec v, by omega, by simp, rfl, hnext, by rw [ByteArray.size_append, ByteArray.size_append]; have : commaS.size = 2 := rfl; omega, uq⟩
          case measure => simp [intOf]; omega
      · have hbi : ¬ (acc.size : Int) ≤ 65536 := by omega
        have hend : Hid (acc = tot) := by
          unfold Hid
          rw [← hq.out, hcons]
          unfold runA
          rw [if_neg hbig]
        clear hq hv hmem hcons hfin hbig hlt
        go_wp2_with fail
        refine bodyPost_eq (by (simp [results, Tryz.results39, go_sem, *]) <;> rfl) rfl rfl ?_
        exact ⟨by rw [hend.out], uq⟩
    · obtain rfl : j = t.vals.length := by omega
      have hend : Hid (acc = tot) := by
        unfold Hid
        rw [← hq.out, List.drop_length]
        rfl
      clear hq hfin
      go_wp2_with fail
      refine bodyPost_eq (by (simp [results, Tryz.results39, go_sem, *]) <;> rfl) rfl rfl ?_
      exact ⟨by rw [hend.out], uq⟩

end Go.Proofs.YtmbipadiaggolaaGreatDoor

/- Walks: the document's heap: find. -/
namespace Go.Proofs.YtmbipadiaggolaaGreatDoor
open Go.RowKit
set_option linter.unusedSimpArgs false

/-- what stands behind a thing is no array -/
def HM.Behind (H : HM) : Prop := ∀ (i : Nat) (t : Thing), H.things[i]? = some t → t.proto < 0 ∨ ∃ u, H.things[t.proto.toNat]? = some u ∧ u.kind ≠ 2
/-- a place to look at -/
def HM.Look (H : HM) (m : Int) : Prop := m < 0 ∨ ∃ u, H.things[m.toNat]? = some u ∧ u.kind ≠ 2

theorem Wf.all {H : HM} (h : H.Wf) : H.Tall := fun i t ht => by
  rcases h.things i t ht with ⟨_, _, h3⟩ | ⟨_, _, h3, h4, _⟩
  · rw [h3]; omega
  · exact ⟨h3, h4⟩
theorem Wf.tall {H : HM} (h : H.Wf) {i : Nat} {t : Thing} (ht : H.things[i]? = some t) (hk : t.kind ≠ 2) : -1 ≤ t.proto ∧ t.proto < i := by
  rcases h.things i t ht with ⟨h2, _, _⟩ | ⟨_, _, h3, h4, _⟩
  · exact absurd h2 hk
  · exact ⟨h3, h4⟩

theorem find_none_at {l : List (ByteArray × Val)} {key : ByteArray} (h : ∀ (j : Nat) (x : ByteArray × Val), l[j]? = some x → x.1 ≠ key) : (l.find? fun x => decide (x.1 = key)) = none := by
  rw [List.find?_eq_none]
  intro x hx
  obtain ⟨j, hj⟩ := List.getElem?_of_mem hx
  simpa using h j x hj
theorem find_some_at : ∀ {l : List (ByteArray × Val)} {key : ByteArray} {i : Nat} {x : ByteArray × Val}, (∀ (j : Nat) (y : ByteArray × Val), j < i → l[j]? = some y → y.1 ≠ key) → l[i]? = some x → x.1 = key → (l.find? fun x => decide (x.1 = key)) = some x
  | [], _, _, _, _, h, _ => by simp at h
  | y :: l, key, 0, x, _, h, hk => by
    simp at h
    subst h
    rw [List.find?_cons_of_pos (by simpa using hk)]
  | y :: l, key, i + 1, x, hb, h, hk => by
    rw [List.find?_cons_of_neg (by simpa using hb 0 y (by omega) (by simp))]
    exact find_some_at (i := i) (fun j z hj hz => hb (j + 1) z (by omega) (by simpa using hz)) (by simpa using h) hk

set_option maxRecDepth 100000 in
set_option maxHeartbeats 1600000 in
theorem s_find (rb : Nat) (H : HM) (rs : List RT) (own : Own) (n : Int) (key : ByteArray) (w : World) (h : RRep w rb H rs own) (hw : H.Wf) (hB : H.Behind) (hn : -1 ≤ n) (hL : H.Look n) :
    Calls Tryz.prog 53 #[.pointer (some ⟨rb, 0, none⟩), .int .i64 n, .string key] w fun e w' => e = .returned (.tuple #[.agg #[.int .i64 (optV (H.find key (n + 1).toNat n)).k, .int .i64 (optV (H.find key (n + 1).toNat n)).n, .string (optV (H.find key (n + 1).toNat n)).s], .bool (H.find key (n + 1).toNat n).isSome]) ∧ Up w w' := by
  have hh := Lib.hid h
  have HW := Lib.hid hw
  have HB := Lib.hid hB
  obtain ⟨o, ho⟩ : ∃ o, Hid (H.find key (n + 1).toNat n = o) := ⟨_, rfl⟩
  rw [ho.out]
  have HN := Lib.hid (And.intro hn hL)
  have hl := wf_len hw
  clear h hw hB hn hL
  go_enter Tryz.func53, Tryz.ntmps53
  go_wp2_with fail
  go_loopw [1, 8, 9] (fun r _ _ wr => ∃ m : Int, r = .int .i64 m ∧ Hid (-1 ≤ m ∧ H.Look m) ∧ Hid (H.find key (m + 1).toNat m = o) ∧ Up w wr ∧ wr.heap[w.heap.size]? = some (.cells #[.int .i64 0, .int .i64 0, .string ⟨#[]⟩] 34 (0, 0))) (fun r _ _ _ => (intOf r + 1).toNat)
  case atStart => exact ⟨n, rfl, HN, ho, uq, alloc_get _ _⟩
  case round =>
    obtain ⟨m, rfl, hm, hf, hup, hbox⟩ := hrel
    have B0 := Lib.hid hbox
    have s0 := hbox
    have a0 := cell_of s0 0; have a1 := cell_of s0 1; have a2 := cell_of s0 2; have f0 := ice_of s0 0; have f1 := ice_of s0 1; have f2 := ice_of s0 2; have a4 := lt_of_heap s0; (try simp only [World.size_alloc, List.getElem?_toArray, List.getElem?_cons_zero, List.getElem?_cons_succ] at a0 a1 a2 f0 f1 f2 a4); clear s0
    clear hbox
    by_cases h0 : 0 ≤ m
    · obtain ⟨M, rfl⟩ := Int.eq_ofNat_of_zero_le h0
      obtain ⟨t, hti, htk⟩ : ∃ t, H.things[M]? = some t ∧ t.kind ≠ 2 := by
        rcases hm.out.2 with h1 | ⟨u, h1, h2⟩
        · omega
        · exact ⟨u, by simpa using h1, h2⟩
      obtain ⟨tg, cap, r, h1, _, _, c0, c1, c2, _, hi⟩ := (hh.out.up hup).at hti
      obtain ⟨sa, sc, hsv⟩ := ownsRow_form hi.slots.1
      rw [hsv] at c2
      rw [hi.proto htk] at c1
      have hsl := Lib.hid hi.slots
      have hML : (M : Int) < H.things.length := by have := (List.getElem?_eq_some_iff.1 hti).1; omega
      have s0 := h1
      have a0 := cell_of s0 0; have a1 := cell_of s0 1; have a2 := cell_of s0 2; have f0 := ice_of s0 0; have f1 := ice_of s0 1; have f2 := ice_of s0 2; have a4 := lt_of_heap s0; (try simp only [World.size_alloc, List.getElem?_toArray, List.getElem?_cons_zero, List.getElem?_cons_succ] at a0 a1 a2 f0 f1 f2 a4); clear s0
      obtain ⟨len, hlen⟩ : ∃ len, Hid (H.things.length = len) := ⟨_, rfl⟩
      rw [hlen.out] at *
      have HT := Lib.hid (And.intro hti htk)
      have HS := Lib.hid hsv
      have hsz : t.slots.length ≤ 1048576 := by have := sizes_at _ _ _ hti; have q1 := HW.out.few; have q2 := HW.out.roomU; have q3 := HW.out.roomM; simp only [Thing.size] at this; omega
      have hpt := Wf.tall HW.out hti htk
      clear h1 hi hti htk hsv
      go_wp2_with fail
      go_loopw [9] (fun i w2 => ∃ k : Nat, k ≤ t.slots.length ∧ i = .int .i64 k ∧ Hid (∀ (j : Nat) (y : ByteArray × Val), j < k → t.slots[j]? = some y → y.1 ≠ key) ∧ w2 = wr) (fun i _ => t.slots.length - (intOf i).toNat)
      case atStart => exact ⟨0, Nat.zero_le _, rfl, fun j y hj => by omega, rfl⟩
      case round =>
        obtain ⟨k, hk, rfl, hne, rfl⟩ := hrel
        by_cases hlt : k < t.slots.length
        · obtain ⟨⟨ks, kv⟩, hx⟩ : ∃ x, t.slots[k]? = some x := ⟨_, List.getElem?_eq_getElem hlt⟩
          have e := fun j hj => flat_get slotCells 4 (fun _ => rfl) t.slots k _ j hx hj
          have hrow := hsl.out
          rw [HS.out] at hrow
          obtain ⟨sg, rfl, d0⟩ := row_at hrow (k * 4 + 0) _ (e 0 (by omega))
          obtain ⟨_, hg, d1⟩ := row_at hrow (k * 4 + 1) _ (e 1 (by omega)); cases hg
          obtain ⟨_, hg, d2⟩ := row_at hrow (k * 4 + 2) _ (e 2 (by omega)); cases hg
          obtain ⟨_, hg, d3⟩ := row_at hrow (k * 4 + 3) _ (e 3 (by omega)); cases hg
          rw [Nat.add_zero] at d0
          dsimp only at d0 d1 d2 d3
          have HX := Lib.hid hx
          clear e hrow hx
          by_cases hkey : ks = key
          · have hkey2 : (ks.toList == key.toList) = true := by simp [hkey]
            have hres : Hid (o = some kv) := by
              unfold Hid
              rw [← hf.out, show ((M : Int) + 1).toNat = M + 1 by omega]
              unfold HM.find
              rw [if_neg (by omega), Int.toNat_natCast, HT.out.1]
              dsimp only
              unfold Thing.own
              rw [if_neg HT.out.2, find_some_at hne.out HX.out hkey]
              rfl
            have HK := Lib.hid hkey
            clear hkey
            go_wp2_with fail
            refine bodyPost_ret (v := .tuple #[.agg #[.int .i64 (kv).k, .int .i64 (kv).n, .string (kv).s], .bool true]) (by simp [results, Tryz.results53, go_sem, *]) rfl ⟨?_, uq⟩
            rw [hres.out]
            rfl
          · have hkey2 : (ks.toList == key.toList) = false := by
              rw [beq_eq_false_iff_ne]
              intro e
              rw [ByteArray.toList_eq, ByteArray.toList_eq] at e
              exact hkey (ByteArray.ext (Array.ext' e))
            have HK := Lib.hid hkey
            clear hkey
            go_wp2_with fail
            go_roundw
            case rel =>
              refine ⟨k + 1, by omega, by simp, fun j y hj hy => ?_, trivial⟩
              rcases Nat.lt_or_ge j k with h' | h'
              · exact hne.out j y h' hy
              · obtain rfl : j = k := by omega
                rw [HX.out] at hy
                cases hy
                exact HK.out
            case measure => simp [intOf]; omega
        · obtain rfl : k = t.slots.length := by omega
          go_wp2_with fail
          go_roundw
          case rel =>
            refine ⟨t.proto, rfl, ⟨hpt.1, ?_⟩, ?_, hup, B0.out⟩
            · rcases HB.out M t HT.out.1 with h1 | h1
              · exact .inl h1
              · exact .inr h1
            · unfold Hid
              rw [← hf.out, show ((M : Int) + 1).toNat = M + 1 by omega]
              conv => rhs; unfold HM.find
              rw [if_neg (by omega), Int.toNat_natCast, HT.out.1]
              dsimp only
              have hno : t.own key = none := by
                unfold Thing.own
                rw [if_neg HT.out.2, find_none_at (fun j x hx => hne.out j x (List.getElem?_eq_some_iff.1 hx).1 hx)]
                rfl
              rw [hno]
              dsimp only
              exact HM.find_fuel (Wf.all HW.out) key _ _ t.proto (by omega) (by omega)
          case measure => simp [intOf]; omega
    · have hres : Hid (o = none) := by
        unfold Hid
        rw [← hf.out, show (m + 1).toNat = 0 by omega]
        rfl
      go_wp2_with fail
      refine bodyPost_ret (v := .tuple #[.agg #[.int .i64 ((⟨0, 0, ⟨#[]⟩⟩ : Val)).k, .int .i64 ((⟨0, 0, ⟨#[]⟩⟩ : Val)).n, .string ((⟨0, 0, ⟨#[]⟩⟩ : Val)).s], .bool false]) (by simp [results, Tryz.results53, go_sem, *]) rfl ⟨?_, uq⟩
      rw [hres.out]
      rfl

end Go.Proofs.YtmbipadiaggolaaGreatDoor

/- Walks: the document's heap: Get, Has, Typeof. -/
namespace Go.Proofs.YtmbipadiaggolaaGreatDoor
open Go.RowKit
set_option linter.unusedSimpArgs false
attribute [local go_sem] conv_sb

theorem isArr_no {H : HM} {k n : Int} (h : k ≠ 5) : H.isArr k n = false := by unfold HM.isArr; rw [decide_eq_false h]; rfl
theorem there_of_plain {H : HM} {x : Val} {pn : Int} {ps : ByteArray} (h : plainS H x = ⟨5, pn, ps⟩) : H.there pn = true ∧ pn = x.n := by
  have h5 : (plainS H x).k = 5 := by rw [h]
  obtain ⟨h1, h2⟩ := plainS_ref h5
  rw [h] at h1
  cases h1
  exact ⟨h2, rfl⟩
theorem find_arr {H : HM} {n : Int} {t : Thing} (key : ByteArray) (h0 : 0 ≤ n) (ht : H.things[n.toNat]? = some t) (hk : t.kind = 2) (hp : t.proto = -1) : H.find key (n + 1).toNat n = if key.toList == lengthS then some ⟨3, t.vals.length, ⟨#[]⟩⟩ else none := by
  obtain ⟨N, rfl⟩ := Int.eq_ofNat_of_zero_le h0
  rw [show ((N : Int) + 1).toNat = N + 1 by omega]
  unfold HM.find
  rw [if_neg (by omega), ht]
  dsimp only
  unfold Thing.own
  rw [if_pos hk]
  cases hk : (key.toList == lengthS)
  · simp only [Bool.false_eq_true, if_false]
    rw [hp]
    cases N with
    | zero => rfl
    | succ N => unfold HM.find; rw [if_pos (by omega)]
  · simp only [if_true]

set_option maxHeartbeats 1600000 in
/-- Get, but of a thing -/
theorem s_get_plain (rb : Nat) (H : HM) (rs : List RT) (own : Own) (k n : Int) (s key : ByteArray) (w : World) (h : RRep w rb H rs own) (hw : H.Wf) (hs : (plainS H ⟨k, n, s⟩).s.size ≤ 1000000) (h5 : (plainS H ⟨k, n, s⟩).k ≠ 5) :
    Calls Tryz.prog 24 #[.pointer (some ⟨rb, 0, none⟩), .agg #[.int .i64 k, .int .i64 n, .string s], .string key] w fun e w' => e = .returned (outR (H.get ⟨k, n, s⟩ key (runesN (plainS H ⟨k, n, s⟩).s))) ∧ Up w w' := by
  have HR := Lib.hid h
  have HW := Lib.hid hw
  clear h hw
  unfold HM.get
  have hk := plainS_kinds H ⟨k, n, s⟩
  rcases e : plainS H ⟨k, n, s⟩ with ⟨pk, pn, ps⟩
  rw [e] at hk hs h5
  dsimp only at hk hs h5
  have HP := Lib.hid e
  have HS := Lib.hid hs
  have HA := Lib.hid (isArr_no (H := H) (n := pn) h5)
  clear e hs
  rcases hk with rfl | rfl | rfl | rfl | rfl | rfl
  iterate 4
    · go_enter Tryz.func24, Tryz.ntmps24
      go_wp2_with (first | (go_at_call 38; refine (s_sane rb H rs own _ _ _ _ (HR.out.up uq) HW.out).mono ?_; rintro e w' ⟨rfl, hu⟩; simp only [HP.out]; have s0 : w'.heap[w.heap.size + 1]? = some (.cells #[.int .i64 0, .int .i64 0, .string ⟨#[]⟩, .string ⟨#[]⟩, .int .i64 0] 56 (0, 0)) := hu.get (alloc_at _ _ _ (by simp)); have B1 := Lib.hid s0; have b0 := cell_of s0 0; have g0 := ice_of s0 0; have b1 := cell_of s0 1; have g1 := ice_of s0 1; have b2 := cell_of s0 2; have g2 := ice_of s0 2; have b3 := cell_of s0 3; have g3 := ice_of s0 3; have b4 := cell_of s0 4; have g4 := ice_of s0 4; have b9 := lt_of_heap s0; (try simp only [World.size_alloc, List.getElem?_toArray, List.getElem?_cons_zero, List.getElem?_cons_succ] at b0 b1 b2 b3 b4 g0 g1 g2 g3 g4 b9); clear s0) | (go_at_call 52; refine (s_array rb H rs own _ _ _ _ (HR.out.up uq) HW.out).mono ?_; rintro e w2 ⟨rfl, hu2⟩; rw [HA.out]; have s0 := hu2.get (Up.get (w := w') uq B1.out); have b0 := cell_of s0 0; have g0 := ice_of s0 0; have b1 := cell_of s0 1; have g1 := ice_of s0 1; have b2 := cell_of s0 2; have g2 := ice_of s0 2; have b3 := cell_of s0 3; have g3 := ice_of s0 3; have b4 := cell_of s0 4; have g4 := ice_of s0 4; have b9 := lt_of_heap s0; (try simp only [World.size_alloc, List.getElem?_toArray, List.getElem?_cons_zero, List.getElem?_cons_succ] at b0 b1 b2 b3 b4 g0 g1 g2 g3 g4 b9); clear s0; have s0 := hu2.get (Up.get uq (alloc_get w' _)); have a0 := cell_of s0 0; have a1 := cell_of s0 1; have a2 := cell_of s0 2; have f0 := ice_of s0 0; have f1 := ice_of s0 1; have f2 := ice_of s0 2; have a4 := lt_of_heap s0; (try simp only [World.size_alloc, List.getElem?_toArray, List.getElem?_cons_zero, List.getElem?_cons_succ] at a0 a1 a2 f0 f1 f2 a4); clear s0) | (go_at_call 49; refine (rThrow_any _ _).mono ?_; rintro e w3 ⟨rfl, hu3⟩; have s0 := hu3.get (Up.get (w := w') uq B1.out); have b0 := cell_of s0 0; have g0 := ice_of s0 0; have b1 := cell_of s0 1; have g1 := ice_of s0 1; have b2 := cell_of s0 2; have g2 := ice_of s0 2; have b3 := cell_of s0 3; have g3 := ice_of s0 3; have b4 := cell_of s0 4; have g4 := ice_of s0 4; have b9 := lt_of_heap s0; (try simp only [World.size_alloc, List.getElem?_toArray, List.getElem?_cons_zero, List.getElem?_cons_succ] at b0 b1 b2 b3 b4 g0 g1 g2 g3 g4 b9); clear s0))
      all_goals (refine bodyPost_eq (by (simp [results, Tryz.results24, go_sem, *]) <;> rfl) rfl rfl ⟨rfl, uq⟩)
  · cases hkey : (key.toList == lengthS)
    · have hkey2 : (key.toList == [108, 101, 110, 103, 116, 104]) = false := hkey
      have HK := Lib.hid hkey
      clear hkey
      go_enter Tryz.func24, Tryz.ntmps24
      go_wp2_with (first | (go_at_call 38; refine (s_sane rb H rs own _ _ _ _ (HR.out.up uq) HW.out).mono ?_; rintro e w' ⟨rfl, hu⟩; simp only [HP.out]; have s0 : w'.heap[w.heap.size + 1]? = some (.cells #[.int .i64 0, .int .i64 0, .string ⟨#[]⟩, .string ⟨#[]⟩, .int .i64 0] 56 (0, 0)) := hu.get (alloc_at _ _ _ (by simp)); have B1 := Lib.hid s0; have b0 := cell_of s0 0; have g0 := ice_of s0 0; have b1 := cell_of s0 1; have g1 := ice_of s0 1; have b2 := cell_of s0 2; have g2 := ice_of s0 2; have b3 := cell_of s0 3; have g3 := ice_of s0 3; have b4 := cell_of s0 4; have g4 := ice_of s0 4; have b9 := lt_of_heap s0; (try simp only [World.size_alloc, List.getElem?_toArray, List.getElem?_cons_zero, List.getElem?_cons_succ] at b0 b1 b2 b3 b4 g0 g1 g2 g3 g4 b9); clear s0) | (go_at_call 52; refine (s_array rb H rs own _ _ _ _ (HR.out.up uq) HW.out).mono ?_; rintro e w2 ⟨rfl, hu2⟩; rw [HA.out]; have s0 := hu2.get (Up.get (w := w') uq B1.out); have b0 := cell_of s0 0; have g0 := ice_of s0 0; have b1 := cell_of s0 1; have g1 := ice_of s0 1; have b2 := cell_of s0 2; have g2 := ice_of s0 2; have b3 := cell_of s0 3; have g3 := ice_of s0 3; have b4 := cell_of s0 4; have g4 := ice_of s0 4; have b9 := lt_of_heap s0; (try simp only [World.size_alloc, List.getElem?_toArray, List.getElem?_cons_zero, List.getElem?_cons_succ] at b0 b1 b2 b3 b4 g0 g1 g2 g3 g4 b9); clear s0; have s0 := hu2.get (Up.get uq (alloc_get w' _)); have a0 := cell_of s0 0; have a1 := cell_of s0 1; have a2 := cell_of s0 2; have f0 := ice_of s0 0; have f1 := ice_of s0 1; have f2 := ice_of s0 2; have a4 := lt_of_heap s0; (try simp only [World.size_alloc, List.getElem?_toArray, List.getElem?_cons_zero, List.getElem?_cons_succ] at a0 a1 a2 f0 f1 f2 a4); clear s0))
      all_goals (refine bodyPost_eq (by (simp [results, Tryz.results24, go_sem, *]) <;> rfl) rfl rfl ⟨rfl, uq⟩)
    · have hkey2 : (key.toList == [108, 101, 110, 103, 116, 104]) = true := hkey
      have HK := Lib.hid hkey
      clear hkey
      go_enter Tryz.func24, Tryz.ntmps24
      go_wp2_with (first | (go_at_call 38; refine (s_sane rb H rs own _ _ _ _ (HR.out.up uq) HW.out).mono ?_; rintro e w' ⟨rfl, hu⟩; simp only [HP.out]; have s0 : w'.heap[w.heap.size + 1]? = some (.cells #[.int .i64 0, .int .i64 0, .string ⟨#[]⟩, .string ⟨#[]⟩, .int .i64 0] 56 (0, 0)) := hu.get (alloc_at _ _ _ (by simp)); have B1 := Lib.hid s0; have b0 := cell_of s0 0; have g0 := ice_of s0 0; have b1 := cell_of s0 1; have g1 := ice_of s0 1; have b2 := cell_of s0 2; have g2 := ice_of s0 2; have b3 := cell_of s0 3; have g3 := ice_of s0 3; have b4 := cell_of s0 4; have g4 := ice_of s0 4; have b9 := lt_of_heap s0; (try simp only [World.size_alloc, List.getElem?_toArray, List.getElem?_cons_zero, List.getElem?_cons_succ] at b0 b1 b2 b3 b4 g0 g1 g2 g3 g4 b9); clear s0) | (go_at_call 51; refine (r_runes_at ps _ _ _ _ rfl (by simp) HS.out).mono ?_; rintro e w2 ⟨v, rfl, ⟨ra, rc, rfl, hra⟩, hu2⟩; have HRA := Lib.hid hra; clear hra; have hu2 : Up w' w2 := Up.trans (Up.trans ((Up.refl w').alloc _) (bytesLaid_up _ _)) hu2; have s0 := hu2.get B1.out; have b0 := cell_of s0 0; have g0 := ice_of s0 0; have b1 := cell_of s0 1; have g1 := ice_of s0 1; have b2 := cell_of s0 2; have g2 := ice_of s0 2; have b3 := cell_of s0 3; have g3 := ice_of s0 3; have b4 := cell_of s0 4; have g4 := ice_of s0 4; have b9 := lt_of_heap s0; (try simp only [World.size_alloc, List.getElem?_toArray, List.getElem?_cons_zero, List.getElem?_cons_succ] at b0 b1 b2 b3 b4 g0 g1 g2 g3 g4 b9); clear s0) | (go_at_call 50; refine (rNumber_any _ _).mono ?_; rintro e w3 ⟨rfl, hu3⟩; have s0 := hu3.get (Up.get (w := w') uq B1.out); have b0 := cell_of s0 0; have g0 := ice_of s0 0; have b1 := cell_of s0 1; have g1 := ice_of s0 1; have b2 := cell_of s0 2; have g2 := ice_of s0 2; have b3 := cell_of s0 3; have g3 := ice_of s0 3; have b4 := cell_of s0 4; have g4 := ice_of s0 4; have b9 := lt_of_heap s0; (try simp only [World.size_alloc, List.getElem?_toArray, List.getElem?_cons_zero, List.getElem?_cons_succ] at b0 b1 b2 b3 b4 g0 g1 g2 g3 g4 b9); clear s0))
      all_goals (refine bodyPost_eq (by (simp [results, Tryz.results24, go_sem, *]) <;> rfl) rfl rfl ⟨rfl, uq⟩)
  · exact absurd rfl h5

set_option maxHeartbeats 1600000 in
/-- Get of a thing that is no array -/
theorem s_get_obj (rb : Nat) (H : HM) (rs : List RT) (own : Own) (k n : Int) (s key : ByteArray) (w : World) (h : RRep w rb H rs own) (hw : H.Wf) (hB : H.Behind) (pn : Int) (ps : ByteArray) (hp : plainS H ⟨k, n, s⟩ = ⟨5, pn, ps⟩) (ha : H.isArr 5 pn = false) :
    Calls Tryz.prog 24 #[.pointer (some ⟨rb, 0, none⟩), .agg #[.int .i64 k, .int .i64 n, .string s], .string key] w fun e w' => e = .returned (outV (optV (H.find key (pn + 1).toNat pn)) ⟨#[]⟩ 0) ∧ Up w w' := by
  have HR := Lib.hid h
  have HW := Lib.hid hw
  have HB := Lib.hid hB
  have HP := Lib.hid hp
  have HA := Lib.hid ha
  have ht := (there_of_plain hp).1
  obtain ⟨h0, t, hti⟩ := there_things ht
  have hlook : Hid (-1 ≤ pn ∧ H.Look pn) := ⟨by omega, .inr ⟨t, hti, fun h2 => by
    have e : H.isArr 5 pn = true := by unfold HM.isArr HM.kindOf; simp [ht, hti, h2]
    rw [ha] at e; cases e⟩⟩
  obtain ⟨o, ho⟩ : ∃ o, Hid (H.find key (pn + 1).toNat pn = o) := ⟨_, rfl⟩
  rw [ho.out]
  clear h hw hB hp ha ht hti
  go_enter Tryz.func24, Tryz.ntmps24
  go_wp2_with (first | (go_at_call 38; refine (s_sane rb H rs own _ _ _ _ (HR.out.up uq) HW.out).mono ?_; rintro e w' ⟨rfl, hu⟩; simp only [HP.out]; have s0 : w'.heap[w.heap.size + 1]? = some (.cells #[.int .i64 0, .int .i64 0, .string ⟨#[]⟩, .string ⟨#[]⟩, .int .i64 0] 56 (0, 0)) := hu.get (alloc_at _ _ _ (by simp)); have B1 := Lib.hid s0; have b0 := cell_of s0 0; have g0 := ice_of s0 0; have b1 := cell_of s0 1; have g1 := ice_of s0 1; have b2 := cell_of s0 2; have g2 := ice_of s0 2; have b3 := cell_of s0 3; have g3 := ice_of s0 3; have b4 := cell_of s0 4; have g4 := ice_of s0 4; have b9 := lt_of_heap s0; (try simp only [World.size_alloc, List.getElem?_toArray, List.getElem?_cons_zero, List.getElem?_cons_succ] at b0 b1 b2 b3 b4 g0 g1 g2 g3 g4 b9); clear s0) | (go_at_call 52; refine (s_array rb H rs own _ _ _ _ (HR.out.up uq) HW.out).mono ?_; rintro e w2 ⟨rfl, hu2⟩; rw [HA.out]; have s0 := hu2.get (Up.get (w := w') uq B1.out); have b0 := cell_of s0 0; have g0 := ice_of s0 0; have b1 := cell_of s0 1; have g1 := ice_of s0 1; have b2 := cell_of s0 2; have g2 := ice_of s0 2; have b3 := cell_of s0 3; have g3 := ice_of s0 3; have b4 := cell_of s0 4; have g4 := ice_of s0 4; have b9 := lt_of_heap s0; (try simp only [World.size_alloc, List.getElem?_toArray, List.getElem?_cons_zero, List.getElem?_cons_succ] at b0 b1 b2 b3 b4 g0 g1 g2 g3 g4 b9); clear s0; have s0 := hu2.get (Up.get uq (alloc_get w' _)); have a0 := cell_of s0 0; have a1 := cell_of s0 1; have a2 := cell_of s0 2; have f0 := ice_of s0 0; have f1 := ice_of s0 1; have f2 := ice_of s0 2; have a4 := lt_of_heap s0; (try simp only [World.size_alloc, List.getElem?_toArray, List.getElem?_cons_zero, List.getElem?_cons_succ] at a0 a1 a2 f0 f1 f2 a4); clear s0) | (go_at_call 53; refine (s_find rb H rs own _ _ _ (HR.out.up uq) HW.out HB.out hlook.out.1 hlook.out.2).mono ?_; rintro e w3 ⟨rfl, hu3⟩; rw [ho.out]; have s0 := hu3.get (Up.get (w := w') uq B1.out); have b0 := cell_of s0 0; have g0 := ice_of s0 0; have b1 := cell_of s0 1; have g1 := ice_of s0 1; have b2 := cell_of s0 2; have g2 := ice_of s0 2; have b3 := cell_of s0 3; have g3 := ice_of s0 3; have b4 := cell_of s0 4; have g4 := ice_of s0 4; have b9 := lt_of_heap s0; (try simp only [World.size_alloc, List.getElem?_toArray, List.getElem?_cons_zero, List.getElem?_cons_succ] at b0 b1 b2 b3 b4 g0 g1 g2 g3 g4 b9); clear s0; have s0 := hu3.get (Up.get uq (alloc_get w' _)); have a0 := cell_of s0 0; have a1 := cell_of s0 1; have a2 := cell_of s0 2; have f0 := ice_of s0 0; have f1 := ice_of s0 1; have f2 := ice_of s0 2; have a4 := lt_of_heap s0; (try simp only [World.size_alloc, List.getElem?_toArray, List.getElem?_cons_zero, List.getElem?_cons_succ] at a0 a1 a2 f0 f1 f2 a4); clear s0))
  all_goals (refine bodyPost_eq (by (simp [results, Tryz.results24, go_sem, *]) <;> rfl) rfl rfl ⟨rfl, uq⟩)

set_option maxHeartbeats 1600000 in
/-- Get of an array, another key -/
theorem s_get_arr_no (rb : Nat) (H : HM) (rs : List RT) (own : Own) (k n : Int) (s key : ByteArray) (w : World) (h : RRep w rb H rs own) (hw : H.Wf) (pn : Int) (ps : ByteArray) (hp : plainS H ⟨k, n, s⟩ = ⟨5, pn, ps⟩) (ha : H.isArr 5 pn = true) (hkey : (key.toList == lengthS) = false) :
    Calls Tryz.prog 24 #[.pointer (some ⟨rb, 0, none⟩), .agg #[.int .i64 k, .int .i64 n, .string s], .string key] w fun e w' => e = .returned (outV ⟨0, 0, ⟨#[]⟩⟩ ⟨#[]⟩ 0) ∧ Up w w' := by
  have HR := Lib.hid h
  have HW := Lib.hid hw
  have HP := Lib.hid hp
  have HA := Lib.hid ha
  have hkey2 : (key.toList == [108, 101, 110, 103, 116, 104]) = false := hkey
  clear h hw hp ha hkey
  go_enter Tryz.func24, Tryz.ntmps24
  go_wp2_with (first | (go_at_call 38; refine (s_sane rb H rs own _ _ _ _ (HR.out.up uq) HW.out).mono ?_; rintro e w' ⟨rfl, hu⟩; simp only [HP.out]; have s0 : w'.heap[w.heap.size + 1]? = some (.cells #[.int .i64 0, .int .i64 0, .string ⟨#[]⟩, .string ⟨#[]⟩, .int .i64 0] 56 (0, 0)) := hu.get (alloc_at _ _ _ (by simp)); have B1 := Lib.hid s0; have b0 := cell_of s0 0; have g0 := ice_of s0 0; have b1 := cell_of s0 1; have g1 := ice_of s0 1; have b2 := cell_of s0 2; have g2 := ice_of s0 2; have b3 := cell_of s0 3; have g3 := ice_of s0 3; have b4 := cell_of s0 4; have g4 := ice_of s0 4; have b9 := lt_of_heap s0; (try simp only [World.size_alloc, List.getElem?_toArray, List.getElem?_cons_zero, List.getElem?_cons_succ] at b0 b1 b2 b3 b4 g0 g1 g2 g3 g4 b9); clear s0) | (go_at_call 52; refine (s_array rb H rs own _ _ _ _ (HR.out.up uq) HW.out).mono ?_; rintro e w2 ⟨rfl, hu2⟩; rw [HA.out]; have s0 := hu2.get (Up.get (w := w') uq B1.out); have b0 := cell_of s0 0; have g0 := ice_of s0 0; have b1 := cell_of s0 1; have g1 := ice_of s0 1; have b2 := cell_of s0 2; have g2 := ice_of s0 2; have b3 := cell_of s0 3; have g3 := ice_of s0 3; have b4 := cell_of s0 4; have g4 := ice_of s0 4; have b9 := lt_of_heap s0; (try simp only [World.size_alloc, List.getElem?_toArray, List.getElem?_cons_zero, List.getElem?_cons_succ] at b0 b1 b2 b3 b4 g0 g1 g2 g3 g4 b9); clear s0; have s0 := hu2.get (Up.get uq (alloc_get w' _)); have a0 := cell_of s0 0; have a1 := cell_of s0 1; have a2 := cell_of s0 2; have f0 := ice_of s0 0; have f1 := ice_of s0 1; have f2 := ice_of s0 2; have a4 := lt_of_heap s0; (try simp only [World.size_alloc, List.getElem?_toArray, List.getElem?_cons_zero, List.getElem?_cons_succ] at a0 a1 a2 f0 f1 f2 a4); clear s0))
  all_goals (refine bodyPost_eq (by (simp [results, Tryz.results24, go_sem, *]) <;> rfl) rfl rfl ⟨rfl, uq⟩)

set_option maxHeartbeats 1600000 in
/-- Get of an array's length -/
theorem s_get_arr_len (rb : Nat) (H : HM) (rs : List RT) (own : Own) (k n : Int) (s key : ByteArray) (w : World) (h : RRep w rb H rs own) (hw : H.Wf) (N : Nat) (ps : ByteArray) (t : Thing) (hp : plainS H ⟨k, n, s⟩ = ⟨5, N, ps⟩) (hti : H.things[N]? = some t) (ha : H.isArr 5 N = true) (hkey : (key.toList == lengthS) = true) :
    Calls Tryz.prog 24 #[.pointer (some ⟨rb, 0, none⟩), .agg #[.int .i64 k, .int .i64 n, .string s], .string key] w fun e w' => e = .returned (outV ⟨3, t.vals.length, ⟨#[]⟩⟩ ⟨#[]⟩ 0) ∧ Up w w' := by
  have HR := Lib.hid h
  have HW := Lib.hid hw
  have HP := Lib.hid hp
  have HA := Lib.hid ha
  have hkey2 : (key.toList == [108, 101, 110, 103, 116, 104]) = true := hkey
  obtain ⟨tg, cap, r, h1, _, _, _, _, _, c3, hi⟩ := h.at hti
  obtain ⟨va, vc, hv⟩ := ownsRow_form hi.vals.1
  rw [hv] at c3
  have hNl : (N : Int) < H.things.length := by have := (List.getElem?_eq_some_iff.1 hti).1; omega
  have hl := wf_len hw
  have HC := Lib.hid (And.intro h1 c3)
  have htg := cell_lt5 c3
  have hrb := lt_of_heap h1
  clear h hw hp ha hkey h1 c3 hi hv hti
  go_enter Tryz.func24, Tryz.ntmps24
  go_wp2_with (first | (go_at_call 38; refine (s_sane rb H rs own _ _ _ _ (HR.out.up uq) HW.out).mono ?_; rintro e w' ⟨rfl, hu⟩; simp only [HP.out]; have s0 : w'.heap[w.heap.size + 1]? = some (.cells #[.int .i64 0, .int .i64 0, .string ⟨#[]⟩, .string ⟨#[]⟩, .int .i64 0] 56 (0, 0)) := hu.get (alloc_at _ _ _ (by simp)); have B1 := Lib.hid s0; have b0 := cell_of s0 0; have g0 := ice_of s0 0; have b1 := cell_of s0 1; have g1 := ice_of s0 1; have b2 := cell_of s0 2; have g2 := ice_of s0 2; have b3 := cell_of s0 3; have g3 := ice_of s0 3; have b4 := cell_of s0 4; have g4 := ice_of s0 4; have b9 := lt_of_heap s0; (try simp only [World.size_alloc, List.getElem?_toArray, List.getElem?_cons_zero, List.getElem?_cons_succ] at b0 b1 b2 b3 b4 g0 g1 g2 g3 g4 b9); clear s0) | (go_at_call 52; refine (s_array rb H rs own _ _ _ _ (HR.out.up uq) HW.out).mono ?_; rintro e w2 ⟨rfl, hu2⟩; rw [HA.out]; have hw2 : Up w w2 := uq; have s0 := hu2.get (Up.get (w := w') uq B1.out); have C1 := Lib.hid s0; have b0 := cell_of s0 0; have g0 := ice_of s0 0; have b1 := cell_of s0 1; have g1 := ice_of s0 1; have b2 := cell_of s0 2; have g2 := ice_of s0 2; have b3 := cell_of s0 3; have g3 := ice_of s0 3; have b4 := cell_of s0 4; have g4 := ice_of s0 4; have b9 := lt_of_heap s0; (try simp only [World.size_alloc, List.getElem?_toArray, List.getElem?_cons_zero, List.getElem?_cons_succ] at b0 b1 b2 b3 b4 g0 g1 g2 g3 g4 b9); clear s0; have s0 := hu2.get (Up.get uq (alloc_get w' _)); have C7 := Lib.hid s0; have a0 := cell_of s0 0; have a1 := cell_of s0 1; have a2 := cell_of s0 2; have f0 := ice_of s0 0; have f1 := ice_of s0 1; have f2 := ice_of s0 2; have a4 := lt_of_heap s0; (try simp only [World.size_alloc, List.getElem?_toArray, List.getElem?_cons_zero, List.getElem?_cons_succ] at a0 a1 a2 f0 f1 f2 a4); clear s0; have s0 := hw2.get HC.out.1; have a0 := cell_of s0 0; have a1 := cell_of s0 1; have a2 := cell_of s0 2; have f0 := ice_of s0 0; have f1 := ice_of s0 1; have f2 := ice_of s0 2; have a4 := lt_of_heap s0; (try simp only [World.size_alloc, List.getElem?_toArray, List.getElem?_cons_zero, List.getElem?_cons_succ] at a0 a1 a2 f0 f1 f2 a4); clear s0; have e3 := (hw2.cells tg _ htg).trans HC.out.2; have e4 := Nat.lt_of_lt_of_le htg hw2.size))
  generalize H.things.length = len at *
  go_region_held3 (fun W => W.cell? ⟨rb, 2, none⟩ = some (.slice (some ⟨tg, 0, none⟩) len cap) ∧ W.cell? ⟨w'.heap.size, 1, none⟩ = some (.int .i64 N) ∧ W.cell? ⟨tg, N * 4 + 3, none⟩ = some (.slice va t.vals.length vc)) (((try dsimp only); (repeat' apply And.intro); all_goals (first | go_keep | ((simp (disch := omega) only [cell_set_ne']); assumption)))) (first | (go_at_call 50; refine (rNumber_any _ _).mono ?_; rintro e w3 ⟨rfl, hu3⟩; have hw3 : Up w w3 := uq; have s0 := hu3.get (Up.get (w := w2) uq C1.out); have b0 := cell_of s0 0; have g0 := ice_of s0 0; have b1 := cell_of s0 1; have g1 := ice_of s0 1; have b2 := cell_of s0 2; have g2 := ice_of s0 2; have b3 := cell_of s0 3; have g3 := ice_of s0 3; have b4 := cell_of s0 4; have g4 := ice_of s0 4; have b9 := lt_of_heap s0; (try simp only [World.size_alloc, List.getElem?_toArray, List.getElem?_cons_zero, List.getElem?_cons_succ] at b0 b1 b2 b3 b4 g0 g1 g2 g3 g4 b9); clear s0; have s0 := hu3.get (Up.get (w := w2) uq C7.out); have a0 := cell_of s0 0; have a1 := cell_of s0 1; have a2 := cell_of s0 2; have f0 := ice_of s0 0; have f1 := ice_of s0 1; have f2 := ice_of s0 2; have a4 := lt_of_heap s0; (try simp only [World.size_alloc, List.getElem?_toArray, List.getElem?_cons_zero, List.getElem?_cons_succ] at a0 a1 a2 f0 f1 f2 a4); clear s0; have s0 := hw3.get HC.out.1; have a0 := cell_of s0 0; have a1 := cell_of s0 1; have a2 := cell_of s0 2; have f0 := ice_of s0 0; have f1 := ice_of s0 1; have f2 := ice_of s0 2; have a4 := lt_of_heap s0; (try simp only [World.size_alloc, List.getElem?_toArray, List.getElem?_cons_zero, List.getElem?_cons_succ] at a0 a1 a2 f0 f1 f2 a4); clear s0; have e3 := (hw3.cells tg _ htg).trans HC.out.2; have e4 := Nat.lt_of_lt_of_le htg hw3.size))
  go_wp2_with fail
  all_goals (refine bodyPost_eq (by (simp [results, Tryz.results24, go_sem, *]) <;> rfl) rfl rfl ⟨rfl, uq⟩)

end Go.Proofs.YtmbipadiaggolaaGreatDoor
