import Derived.Test.YtmbipadiaggolaaGreatDoorTextP
import Derived.Test.YtmbipadiaggolaaGreatDoorShowD
import Derived.Laws.IdiomStrings
/- Walks: the program's Runes: an iterator over the runes of a text. -/
namespace Go.Proofs.YtmbipadiaggolaaGreatDoor
open Go.RowKit
set_option linter.unusedSimpArgs false
attribute [local go_sem] Oper.semAt_some

theorem Up.grownBy {a b : World} (h : Up a b) (row : Option Nat) : a.grownBy b row := ⟨h.os, h.tape, h.output, h.size, fun i hi _ => h.block i hi⟩
/-- what a text converted to bytes leaves -/
def bytesLaid (w : World) (s : ByteArray) : World := w.drew.alloc (.cells (bytesRow s (grownCap w s.size 0 5)) 5 ((bytesRow s (grownCap w s.size 0 5)).size, (bytesRow s (grownCap w s.size 0 5)).size + 1))
theorem bytesLaid_up (w : World) (s : ByteArray) : Up w (bytesLaid w s) := (Up.refl w).drew.alloc _
theorem bytesLaid_size (w : World) (s : ByteArray) : (bytesLaid w s).heap.size = w.heap.size + 1 := by simp [bytesLaid]
theorem conv_sb (s : ByteArray) (w : World) : (convert 9 70 (.string s)).run Tryz.prog w = .ok (.slice (some ⟨w.heap.size, 0, none⟩) s.size (grownCap w s.size 0 5)) (bytesLaid w s) :=
  run_bytes_of_string w _ _ 5 s Tryz.underlying9 Tryz.underlying70 Tryz.underlying5
theorem bytesLaid_at (w : World) (s : ByteArray) (h : s.size ≤ 1000000000) : BytesAt (bytesLaid w s) (some ⟨w.heap.size, 0, none⟩) s.data.toList := by
  refine ⟨by simpa using h, fun k hk => ⟨_, 0, rfl, ?_⟩⟩
  have hk' : k < s.data.size := by simpa using hk
  have := World.cell?_alloc_mark w.drew (bytesRow s (grownCap w s.size 0 5)) 5 ((bytesRow s (grownCap w s.size 0 5)).size, (bytesRow s (grownCap w s.size 0 5)).size + 1) (0 + k)
  rw [Nat.zero_add] at this ⊢
  rw [bytesRow_at s _ k hk'] at this
  refine Eq.trans this ?_
  simp [List.getD, Array.getElem?_eq_getElem hk']

theorem conv_bs (b cap : Nat) (l : List UInt8) (w : World) (h : BytesAt w (some ⟨b, 0, none⟩) l) : (convert 70 9 (.slice (some ⟨b, 0, none⟩) l.length cap)).run Tryz.prog w = .ok (.string ⟨l.toArray⟩) w :=
  run_convert_bytes_back w _ _ 5 ⟨b, 0, none⟩ cap l Tryz.underlying70 Tryz.underlying5 Tryz.underlying9 fun j hj => by
    obtain ⟨b', off, h1, h2⟩ := h.2 j hj
    cases h1
    rw [Addr.add_lit]
    simpa [List.getD, List.getElem?_eq_getElem hj] using h2

/-- Runes: its closure holds the text in a box -/
theorem p_runes (b cap : Nat) (l : List UInt8) (w : World) (h : BytesAt w (some ⟨b, 0, none⟩) l) :
    Calls Tryz.prog 46 #[.slice (some ⟨b, 0, none⟩) l.length cap] w fun e w' => e = .returned (.func (.func 63) #[] #[.pointer (some ⟨w.heap.size, 0, none⟩)]) ∧ w' = w.alloc (.cells #[.string ⟨l.toArray⟩] 9) := by
  have hc := conv_bs b cap l w h
  clear h
  go_enter Tryz.func46, Tryz.ntmps46
  go_wp2_with fail
  go_ret
  exact ⟨rfl, rfl⟩

def encR (x : Nat × Nat) : Array Value := #[.int .i64 x.1, .int .i32 x.2]

theorem extract_list (s : ByteArray) (a m : Nat) : (s.extract a m).data.toList = (s.data.toList.drop a).take (m - a) := by
  simp [ByteArray.data_extract, Array.toList_extract, List.extract_eq_take_drop]

/-- Decode of a text's bytes -/
theorem p_decode_s (q : Nat) (cap : Nat) (s : ByteArray) (w : World) (h : BytesAt w (some ⟨q, 0, none⟩) s.data.toList) (hi : 0 < s.size) (hcap : s.size ≤ cap) :
    Calls Tryz.prog 64 #[.slice (some ⟨q, 0, none⟩) s.size cap, .int .i64 0] w fun e w' => (∃ g, e = .returned (decV (decS s.data.toList).1 (decS s.data.toList).2 g)) ∧ w' = w := by
  have e : s.data.toList.length = s.size := by simp
  have := p_decode (some ⟨q, 0, none⟩) cap s.data.toList w h (by omega) (by omega)
  rw [e] at this
  exact this
attribute [local go_sem] conv_sb


set_option maxRecDepth 100000 in
set_option maxHeartbeats 2000000 in
theorem runes_iter (l tb : Nat) (s : ByteArray) (hs : s.size ≤ 1000000000) (K : World → World → Prop) (hKr : ∀ W, K W W) (hKt : ∀ a b c, K a b → K b c → K a c) (hKu : ∀ a b c, K a b → Up b c → K a c) (J Jx : List (Nat × Nat) → World → Prop) (W : World)
    (hJ : AbidesFrom W.heap.size J)
    (hY : ∀ pre x W1, J pre W1 → pre.length < (runesOf s.data.toList).length → YieldAt Fence.wide 0 Tryz.prog l (encR x) W1 fun e W' =>
      (e = .returned (.bool true) ∧ J (pre ++ [x]) W' ∧ K W1 W') ∨ (e = .returned (.bool false) ∧ Jx (pre ++ [x]) W'))
    (hbox : ∀ W', K W W' → W'.cell? ⟨tb, 0, none⟩ = some (.string s) ∧ W.heap.size ≤ W'.heap.size) (h0 : J [] W) :
    CallsIn Fence.wide 1 Tryz.prog 63 #[.func (.yield l) #[] #[], .pointer (some ⟨tb, 0, none⟩)] W fun e W' => (∃ v, e = .returned v) ∧
      ((∃ xs, xs = runesOf s.data.toList ∧ J xs W') ∨ (∃ pre, pre <+: runesOf s.data.toList ∧ Jx pre W')) := by
  refine callsIn_of_wp Tryz.func63 rfl trivial ?_ rfl
  simp only [Tryz.ntmps63, List.size_toArray, List.length_cons, List.length_nil, Nat.reduceAdd, Nat.reduceSub, Array.replicate_succ, Array.replicate_zero, List.push_toArray, List.append_toArray, List.nil_append, List.cons_append]
  gi_wp2
  gi_loopw [3] (fun i wr => ∃ (a : Nat) (pre : List (Nat × Nat)), a ≤ s.size ∧ i = .int .i64 a ∧ pre ++ restS s.data.toList a = runesOf s.data.toList ∧ J pre wr ∧ K W wr)
    (fun i _ => s.size - (intOf i).toNat)
  case atStart => exact ⟨0, [], Nat.zero_le _, rfl, rfl, h0, hKr _⟩
  case round =>
    obtain ⟨a, pre, ha, rfl, hrest, hJs, hnx⟩ := hrel
    obtain ⟨hb0, hsz⟩ := hbox wr hnx
    by_cases hlt : a < s.size
    · obtain ⟨M, hM, hM2⟩ : ∃ M : Nat, (min (s.size : Int) ((a : Int) + 4)).toNat = M ∧ M = min s.size (a + 4) := ⟨_, rfl, by omega⟩
      obtain ⟨s4, hs4⟩ : ∃ s4, s.extract a M = s4 := ⟨_, rfl⟩
      have hl4 : s4.data.toList = (s.data.toList.drop a).take 4 := by
        rw [← hs4, extract_list, hM2]
        have : s.data.toList.length = s.size := by simp
        rw [List.take_eq_take_iff, List.length_drop]
        omega
      have hd : decS s4.data.toList = decS (s.data.toList.drop a) := by rw [hl4, decS_take]
      have hz4 : 0 < s4.size ∧ s4.size ≤ 4 := by
        have h1 : s4.data.toList.length = s4.size := by simp
        have h2 : s.data.toList.length = s.size := by simp
        rw [← h1, hl4, List.length_take, List.length_drop]
        omega
      obtain ⟨hr1, hr2, hr3⟩ := restS_at s.data.toList a (by simpa using hlt)
      rw [← hd] at hr1 hr2 hr3
      obtain ⟨r, n, hrn⟩ : ∃ r n, decS s4.data.toList = (r, n) := ⟨_, _, rfl⟩
      rw [hrn] at hr1 hr2 hr3
      dsimp only at hr1 hr2 hr3
      have hD := fun W1 (h : BytesAt W1 (some ⟨wr.heap.size, 0, none⟩) s4.data.toList) => p_decode_s wr.heap.size (grownCap wr s4.size 0 5) s4 W1 h hz4.1 (grownCap_ge _ _ _ _)
      rw [hrn] at hD
      dsimp only at hD
      have hn3 : a + n ≤ s.size := by simpa using hr3
      rw [hr1] at hrest
      have hlen : pre.length < (runesOf s.data.toList).length := by rw [← hrest]; simp
      obtain ⟨fn, tmps, assign, body, hy, hR⟩ := hY pre (a, r) (bytesLaid wr s4) (hJ _ _ _ none hJs ((bytesLaid_up wr s4).grownBy none) (fun r e => by cases e)) hlen
      simp only [encR] at hy
      clear hr1 hr3 hM2 hl4 hd
      gi_wp2_with (first | (refine ⟨trivial, ?_⟩; gi_at_call 64; refine (callsIn_wide.2 (hD _ (bytesLaid_at wr s4 (by omega)))).mono ?_; rintro e w2 ⟨⟨g, rfl⟩, rfl⟩))
      refine hR.mono ?_
      rintro e W3 (⟨rfl, hJ3, hk3⟩ | ⟨rfl, hJx3⟩)
      · gi_wp2
        go_roundw
        case rel => exact ⟨a + n, pre ++ [(a, r)], hn3, by congr 1, by rw [← hrest]; simp, hJ3, hKt _ _ _ (hKu _ _ _ hnx (bytesLaid_up wr s4)) hk3⟩
        case measure => simp [intOf]; omega
      · gi_wp2
        refine bodyPost_ret (results_none rfl _ _ _) rfl ?_
        exact ⟨⟨_, rfl⟩, .inr ⟨_, by rw [← hrest]; exact ⟨restS s.data.toList (a + n), by simp⟩, hJx3⟩⟩
    · obtain rfl : a = s.size := by omega
      gi_wp2
      go_end0
      exact ⟨⟨_, rfl⟩, .inl ⟨_, rfl, by rw [restS_end _ _ (by simp), List.append_nil] at hrest; exact hrest ▸ hJs⟩⟩

theorem runes_stops (tb : Nat) (s : ByteArray) (hs : s.size ≤ 1000000000) (K : World → World → Prop) (hKr : ∀ W, K W W) (hKt : ∀ a b c, K a b → K b c → K a c) (hKu : ∀ a b c, K a b → Up b c → K a c) (w : World)
    (hbox : ∀ W W', Up w W → K W W' → W'.cell? ⟨tb, 0, none⟩ = some (.string s) ∧ W.heap.size ≤ W'.heap.size) :
    SeqStopsK Fence.wide 1 Tryz.prog 63 #[.pointer (some ⟨tb, 0, none⟩)] encR K (fun xs => xs = runesOf s.data.toList) (fun xs => xs <+: runesOf s.data.toList) (runesOf s.data.toList).length w := by
  intro l J0 Jx0 W hW hJ0 hJx0 hY0 h00
  refine CallsIn.mono (runes_iter l tb s hs K hKr hKt hKu J0 Jx0 W hJ0 hY0 (fun W' hk => hbox W W' hW hk) h00) ?_
  rintro e W' ⟨hv, ⟨xs, rfl, hj⟩ | ⟨pre, hp, hj⟩⟩
  · exact ⟨hv, Or.inl ⟨_, rfl, hj⟩⟩
  · exact ⟨hv, Or.inr ⟨_, hp, hj⟩⟩

/-- what a round that turns one block of its own keeps -/
structure OneKeep (n : Nat) (a b : World) : Prop where
  size : a.heap.size ≤ b.heap.size
  same : ∀ x o, x ≠ n → a.heap[x]? = some o → (o.isCells = true) → b.heap[x]? = some o
theorem OneKeep.refl (n : Nat) (w : World) : OneKeep n w w := ⟨Nat.le_refl _, fun _ _ _ h _ => h⟩
theorem OneKeep.trans {n : Nat} {a b c : World} (h : OneKeep n a b) (k : OneKeep n b c) : OneKeep n a c := ⟨Nat.le_trans h.size k.size, fun x o hx h1 h2 => k.same x o hx (h.same x o hx h1 h2) h2⟩
theorem OneKeep.up {n : Nat} {a b c : World} (h : OneKeep n a b) (k : Up b c) : OneKeep n a c := ⟨Nat.le_trans h.size k.size, fun x o hx h1 h2 => k.get (h.same x o hx h1 h2)⟩
theorem OneKeep.putObj (n : Nat) (W : World) (l : Nat) (o o' : Obj) (h : W.heap[l]? = some o) (hc : o.isCells = false) : OneKeep n W (W.putObj l o') where
  size := by simp
  same := fun x u _ hx hu => by
    rw [World.putObj_heap_other (fun e => by subst e; rw [h] at hx; cases hx; rw [hc] at hu; cases hu)]
    exact hx
theorem OneKeep.setCell (n i : Nat) (W : World) (v : Value) : OneKeep n W (W.setCell ⟨n, i, none⟩ v) := ⟨by rw [setCell_size]; exact Nat.le_refl _, fun x o hx h _ => by rw [setCell_other hx]; exact h⟩

end Go.Proofs.YtmbipadiaggolaaGreatDoor
