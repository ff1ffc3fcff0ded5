import Derived.Shelf.Strings.BuilderK
import Derived.RangeFuncFrom
import Derived.Test.YtiaepldmgighbaaGreatDoorM23
import Derived.Test.YtiaepldmgighbaaGreatDoorM24
import Derived.Test.YtiaepldmgighbaaGreatDoorM12
namespace Go.Proofs.YtiaepldmgighbaaGreatDoor
open Go.RowKit
set_option linter.unusedSimpArgs false
theorem p_runes_at (s : ByteArray) (w0 W : World) (q cap : Nat) (hW : W = bytesLaid w0 s) (hq : q = w0.heap.size) (hs : s.size ≤ 1000000000) : Calls Tryz.prog 179 #[.slice (some ⟨q, 0, none⟩) s.size cap] W fun e w' => ∃ tb, e = .returned (.func (.func 199) #[] #[.pointer (some ⟨tb, 0, none⟩)]) ∧ w'.heap[tb]? = some (.cells #[.string s] 9 (0, 0)) ∧ W.heap.size ≤ tb ∧ Up W w' := by
 subst hW hq
 have := p_runes w0.heap.size cap s.data.toList (bytesLaid w0 s) (bytesLaid_at w0 s hs)
 rw [show s.data.toList.length = s.size by simp] at this
 refine this.mono ?_
 rintro e w' ⟨rfl, rfl⟩
 exact ⟨_, rfl, alloc_get _ _, Nat.le_refl _, (Up.refl _).alloc _⟩
attribute [local go_sem] Oper.semAt_some conv_sb
structure QK (b : Nat) (a c : World) : Prop where
 size : a.heap.size ≤ c.heap.size
 same : ∀ x cs t fz, x ≠ b → t ≠ ByT → a.heap[x]? = some (.cells cs t fz) → c.heap[x]? = some (.cells cs t fz)
theorem QK.refl (b : Nat) (w : World) : QK b w w := ⟨Nat.le_refl _, fun _ _ _ _ _ _ h => h⟩
theorem QK.trans {b : Nat} {x y z : World} (h : QK b x y) (k : QK b y z) : QK b x z := ⟨Nat.le_trans h.size k.size, fun i cs t fz hi ht hx => k.same i cs t fz hi ht (h.same i cs t fz hi ht hx)⟩
theorem QK.up {b : Nat} {x y z : World} (h : QK b x y) (k : Up y z) : QK b x z := h.trans ⟨k.size, fun _ _ _ _ _ _ hx => k.get hx⟩
theorem QK.putObj (b : Nat) (W : World) (l : Nat) (o o' : Obj) (h : W.heap[l]? = some o) (hc : o.isCells = false) : QK b W (W.putObj l o') where
 size := by simp
 same := fun x cs t fz _ _ hx => by
   rw [World.putObj_heap_other (fun e => by subst e; rw [h] at hx; cases hx; cases hc)]
   exact hx
theorem built_qk {b : Nat} {bs : List UInt8} {w w' : World} (h : Built b bs w w') : QK b w w' :=
 ⟨h.low.size, fun x cs t fz hx ht hc => h.others x _ hc (fun e => hx (by cases e; rfl)) (fun c f e => ht (by cases e; rfl))⟩
theorem IsB.cells {b : Nat} {bs : List UInt8} {w : World} (h : IsB b bs w) : ∃ (cs : Array Value) (t : TypeId) (fz : Nat × Nat), w.heap[b]? = some (.cells cs t fz) := by
 rcases h with h | h
 · obtain ⟨_, v, hv, _⟩ := h; exact ⟨_, _, _, hv⟩
 · obtain ⟨_, v, hv, _⟩ := h; exact ⟨_, _, _, hv⟩
theorem built_keeps {b : Nat} {bs bs0 : List UInt8} {w w' : World} (h0 : IsB b bs0 w) (h : Built b bs w w') : KeepsOthers w w' := by
 obtain ⟨cs, t, fz, hb⟩ := h0.cells
 refine ⟨h.low.size, fun k o hk ho => h.others k o hk (fun e => ?_) (fun c f e => by subst e; cases ho)⟩
 have e : k = b := by cases e; rfl
 rw [e, hb] at hk
 cases hk
 cases ho
def QuoI (w : World) (pre : List (Nat × Nat)) (W : World) : Prop := Up w W ∧ IsB w.heap.size (quoteL ⟨#[34]⟩ pre).data.toList W
theorem QuoI.own (w : World) (B : Nat) (hB : w.heap.size ≤ B) : OwnFrom B (QuoI w) := fun _ _ _ _ hs hg hr =>
 ⟨hs.1.grown hg (fun r e => Nat.le_trans hB (hr r e).1), hs.2.kept fun _ _ _ _ hx => keep_own hx hg hr⟩
theorem QuoI.on {w W W' : World} {pre : List (Nat × Nat)} {x : Nat × Nat} (h : QuoI w pre W) (k : Built w.heap.size ((quoteL ⟨#[34]⟩ pre).data.toList ++ (quoteR x.2).data.toList) W W') : QuoI w (pre ++ [x]) W' := by
 refine ⟨⟨k.low.os.trans h.1.os, k.low.tape.trans h.1.tape, k.low.output.trans h.1.output, Nat.le_trans h.1.size k.low.size, fun i hi => (k.low.block i hi).trans (h.1.block i hi)⟩, ?_⟩
 have e : (quoteL ⟨#[34]⟩ (pre ++ [x])).data.toList = (quoteL ⟨#[34]⟩ pre).data.toList ++ (quoteR x.2).data.toList := by
   unfold quoteL
   rw [List.foldl_append, List.foldl_cons, List.foldl_nil]
   simp [ByteArray.data_append]
 rw [e]
 exact k.is
theorem quoteL_few (pre : List (Nat × Nat)) : (quoteL ⟨#[34]⟩ pre).data.toList.length ≤ 1 + 6 * pre.length := by
 have key : ∀ (l : List (Nat × Nat)) (acc : ByteArray), (quoteL acc l).size ≤ acc.size + 6 * l.length := by
   intro l
   induction l with
   | nil => intro acc; simp [quoteL]
   | cons x l ih =>
     intro acc
     have h := ih (acc ++ quoteR x.2)
     have h2 := quoteR_size x.2
     rw [ByteArray.size_append] at h
     show (quoteL (acc ++ quoteR x.2) l).size ≤ _
     simp only [List.length_cons]
     omega
 have h := key pre ⟨#[34]⟩
 have h1 : (⟨#[34]⟩ : ByteArray).size = 1 := rfl
 have h2 : (quoteL ⟨#[34]⟩ pre).data.toList.length = (quoteL ⟨#[34]⟩ pre).size := by simp
 rw [h1] at h
 omega
theorem Built.after {b : Nat} {bs1 bs2 : List UInt8} {x y z : World} (h : Built b bs1 x y) (k : Built b bs2 y z) : Built b bs2 x z := ⟨k.at_, h.low.trans k.low, h.others.trans k.others⟩
theorem Built.behind {b : Nat} {bs2 : List UInt8} {x y z : World} (hb : b ≤ x.heap.size) (h : Up x y) (k : Built b bs2 y z) : Built b bs2 x z := ⟨k.at_, Below.trans (Below.mono h hb) k.low, fun i o hi h1 h2 => k.others i o (h.get hi) h1 h2⟩
theorem WriteByte_z (b : Nat) (bs : List UInt8) (c : UInt8) (z : Int) (hz : (c.toNat : Int) = z) (w : World) (h : IsB b bs w) (hlen : bs.length + 1 ≤ 140737488355328) :
   Calls Tryz.prog 178 #[.pointer (some ⟨b, 0, none⟩), .int .u8 z] w fun e w' => e = .returned .nilIface ∧ Built b (bs ++ [c]) w w' := by
 subst hz
 exact WriteByte_b b bs c w h hlen
theorem WriteRune_z (b : Nat) (bs : List UInt8) (r : Nat) (z : Int) (hz : (r : Int) = z) (hr : r ≤ 1114111) (w : World) (h : IsB b bs w) (hlen : bs.length + 4 ≤ 140737488355328) :
   Calls Tryz.prog 180 #[.pointer (some ⟨b, 0, none⟩), .int .i32 z] w fun e w' => (∃ n, e = .returned (.tuple #[.int .i64 n, .nilIface])) ∧ Built b (bs ++ (Utf8.encode r).data.toList) w w' := by
 subst hz
 exact WriteRune_b b bs r hr w h hlen
theorem String_b (b : Nat) (bs : List UInt8) (w : World) (h : IsB b bs w) :
   Calls Tryz.prog 183 #[.pointer (some ⟨b, 0, none⟩)] w fun e w' => e = .returned (.string ⟨bs.toArray⟩) ∧ Below b w w' ∧ Lib.OthersKept ByT (some b) w w' :=
 (Any.Builder_String_any_k Tryz.lays169 Tryz.Builder_Extra_169 b b bs w (Lib.IsBuilderF.of h) (Nat.le_of_lt h.lt)).mono fun _ _ ⟨h1, _, h2, h3⟩ => ⟨h1, h2, h3⟩
theorem quo_post {w W W' : World} {pre : List RunT} {x : RunT} {bs : List UInt8} (hI : QuoI w (pre.map (·.1)) W) (hB : Built w.heap.size bs W W') (he : bs = (quoteL ⟨#[34]⟩ (pre.map (·.1))).data.toList ++ (quoteR x.1.2).data.toList) :
   KeepsOthers W W' ∧ QK w.heap.size W W' ∧ QuoI w ((pre ++ [x]).map (·.1)) W' := by
 subst he
 refine ⟨built_keeps hI.2 hB, built_qk hB, ?_⟩
 rw [List.map_append]
 exact hI.on hB
set_option maxRecDepth 100000 in
set_option maxHeartbeats 4000000 in
theorem p_quote (s : ByteArray) (hs : s.size ≤ 1000000000) (w : World) (hb : Bru w) : Calls Tryz.prog 149 #[.string s] w fun e w' => e = .returned (.string (quoteS s)) ∧ Up w w' := by
 have HS := Lib.hid hs
 have HB := Lib.hid hb
 have HS2 := Lib.hid (show s.size ≤ 1000000000 by omega)
 have HLE : Hid ((runesOf s.data.toList).length ≤ 1000000000) := Nat.le_trans (runesS_len _ _ _) (show s.data.toList.length ≤ 1000000000 by have h3 : s.data.toList.length = s.size := rfl; omega)
 clear hs hb
 have HN := Lib.hid (IsB.new w)
 refine callsIn_wide.1 (callsIn_of_wp_marks (n := 2) Tryz.func149 rfl trivial ?_)
 refine wpIn_wide.2 ?_
 simp only [Tryz.ntmps149, List.size_toArray, List.length_cons, List.length_nil, Nat.reduceAdd, Nat.reduceSub, Array.replicate_succ, Array.replicate_zero, List.push_toArray, List.append_toArray, List.nil_append, List.cons_append]
 go_wp2_with (first | (go_at_call 178; refine (WriteByte_z w.heap.size [] 34 _ rfl _ HN.out (by decide)).mono ?_; rintro e w1 ⟨rfl, hB1⟩) | (go_at_call 179; refine (p_runes_at s _ _ _ _ rfl (by simp) HS2.out).mono ?_; rintro e w2 ⟨tb, rfl, htb, htl, hu2⟩))
 have hu12 : Up w1 w2 := Up.trans (bytesLaid_up _ _) hu2
 have hI0 : QuoI w (([] : List RunT).map (·.1)) w2 := by
   refine ⟨Up.trans ?_ hu12, (hB1.is).up hu12⟩
   exact ⟨hB1.low.os, hB1.low.tape, hB1.low.output, Nat.le_trans (by simp) hB1.low.size, fun i hi => (hB1.low.block i hi).trans (Below.heap_alloc _ _ _ hi)⟩
 have hbt : w.heap.size < w1.heap.size := hB1.is.lt
 have htn : tb ≠ w.heap.size := by rw [bytesLaid_size] at htl; omega
 have hw2 := lt_of_heap htb
 clear hB1 hu12 htl hu2
 refine range_named fun A W4 hA hW => ?_
 subst hW
 refine (wpIn_wide (n := 2)).1 ?_
 refine wpIn_rangeFunc_ownF rfl (by omega) (gf := 199) (lb := #[.pointer (some ⟨tb, 0, none⟩)]) (by subst hA; rfl) trivial (enters_of Tryz.func199 (by kernel_rfl) rfl)
   (runes_stopsB tb s HS2.out (QK w.heap.size) (QK.refl _) (fun _ _ _ => QK.trans) (fun _ _ _ => QK.up) W4 (fun X Y hX hY => ⟨by have := cell_of (hY.same tb _ _ _ htn (by decide) (hX.get htb)) 0; simpa using this, hY.size⟩))
   QK.trans (fun W l o o' _ h1 h2 _ => QK.putObj _ W l o o' h1 h2) (Below.refl _ _) (fun _ => rfl)
   (fun (pre : List RunT) W => QuoI w (pre.map (·.1)) W) (fun _ _ _ => False) (fun s => QuoI.own w _ hI0.1.size (s.map (·.1))) (fun _ _ _ _ _ h _ _ => h) hI0
   (fun (x : RunT) => { tmps := ((A.tmps.setIfInBounds 10 (.int .i64 x.1.1)).setIfInBounds 11 (.int .i32 x.1.2)).setIfInBounds 5 (.int .i32 x.1.2), defers := [] }) ?assign ?body ?done ?stop
 case assign => intro l x W K hK; subst hA; gi_wp2; simpa [encR] using hK
 case body =>
   rintro l pre ⟨⟨x1, r⟩, hrb⟩ W hI hlen
   have hrb : r ≤ 1114111 := hrb
   have hq : (quoteL ⟨#[34]⟩ (pre.map (·.1))).data.toList.length ≤ 6000000001 := by have h1 := quoteL_few (pre.map (·.1)); have h2 := HLE.out; rw [List.length_map] at h1; omega
   have HI := Lib.hid hI
   have HQ := Lib.hid hq
   have HP : Hid (∀ (bs : List UInt8) (W' : World), bs = (quoteL ⟨#[34]⟩ (pre.map (·.1))).data.toList ++ (quoteR r).data.toList → Built w.heap.size bs W W' → KeepsOthers W W' ∧ QK w.heap.size W W' ∧ QuoI w ((pre ++ [(⟨⟨x1, r⟩, hrb⟩ : RunT)]).map (·.1)) W') := fun bs W' he hB => quo_post hI hB he
   have hri : (r : Int) ≤ 1114111 := by omega
   clear hI hlen hq htb htn hI0
   subst hA
   simp only [List.setIfInBounds_toArray, List.set_cons_succ, List.set_cons_zero]
   by_cases c1 : r = 92
   · subst c1
     gi_wp2_with (first | (refine ⟨trivial, rfl, ?_⟩; gi_at_call 178; refine (CallsIn.inRound l (callsIn_wide.2 (WriteByte_z w.heap.size _ 92 _ rfl _ HI.out.2 (by have := HQ.out; omega)))).mono ?_; rintro e W2 ⟨rfl, hB2⟩) | (refine ⟨trivial, rfl, ?_⟩; gi_at_call 180; refine (CallsIn.inRound l (callsIn_wide.2 (WriteRune_z w.heap.size _ 92 _ rfl (by omega) _ hB2.is (by have := HQ.out; simp only [List.length_append, List.length_cons, List.length_nil]; omega)))).mono ?_; rintro e W3 ⟨⟨m, rfl⟩, hB3⟩))
     exact HP.out _ _ (by rw [List.append_assoc]; rfl) (hB2.after hB3)
   by_cases c2 : r = 34
   · subst c2
     gi_wp2_with (first | (refine ⟨trivial, rfl, ?_⟩; gi_at_call 178; refine (CallsIn.inRound l (callsIn_wide.2 (WriteByte_z w.heap.size _ 92 _ rfl _ HI.out.2 (by have := HQ.out; omega)))).mono ?_; rintro e W2 ⟨rfl, hB2⟩) | (refine ⟨trivial, rfl, ?_⟩; gi_at_call 180; refine (CallsIn.inRound l (callsIn_wide.2 (WriteRune_z w.heap.size _ 34 _ rfl (by omega) _ hB2.is (by have := HQ.out; simp only [List.length_append, List.length_cons, List.length_nil]; omega)))).mono ?_; rintro e W3 ⟨⟨m, rfl⟩, hB3⟩))
     exact HP.out _ _ (by rw [List.append_assoc]; rfl) (hB2.after hB3)
   by_cases c3 : r = 10
   · subst c3
     gi_wp2_with (first | (refine ⟨trivial, rfl, ?_⟩; gi_at_call 181; refine (CallsIn.inRound l (callsIn_wide.2 (WriteString_b w.heap.size _ _ _ HI.out.2 (by have := HQ.out; show _ + 2 ≤ _; omega)))).mono ?_; rintro e W3 ⟨rfl, hB3⟩))
     exact HP.out _ _ rfl hB3
   by_cases c4 : r = 13
   · subst c4
     gi_wp2_with (first | (refine ⟨trivial, rfl, ?_⟩; gi_at_call 181; refine (CallsIn.inRound l (callsIn_wide.2 (WriteString_b w.heap.size _ _ _ HI.out.2 (by have := HQ.out; show _ + 2 ≤ _; omega)))).mono ?_; rintro e W3 ⟨rfl, hB3⟩))
     exact HP.out _ _ rfl hB3
   by_cases c5 : r = 9
   · subst c5
     gi_wp2_with (first | (refine ⟨trivial, rfl, ?_⟩; gi_at_call 181; refine (CallsIn.inRound l (callsIn_wide.2 (WriteString_b w.heap.size _ _ _ HI.out.2 (by have := HQ.out; show _ + 2 ≤ _; omega)))).mono ?_; rintro e W3 ⟨rfl, hB3⟩))
     exact HP.out _ _ rfl hB3
   have e1 : ((r : Int) == 92) = false := by simp; omega
   have e2 : ((r : Int) == 34) = false := by simp; omega
   have e3 : ((r : Int) == 10) = false := by simp; omega
   have e4 : ((r : Int) == 13) = false := by simp; omega
   have e5 : ((r : Int) == 9) = false := by simp; omega
   by_cases c6 : r < 32 ∨ r = 127
   · have hqr : Hid (quoteR r = ⟨#[92, 117, 123]⟩ ++ hexS r ++ ⟨#[125]⟩) := by unfold Hid quoteR; rw [if_neg (by omega), if_neg c3, if_neg c4, if_neg c5, if_pos c6]
     have hx2 := hexS_size r
     have HC := Lib.hid c6
     rcases c6 with c6 | c6
     · have c7 : (r : Int) < 32 := by omega
       clear c1 c2 c3 c4 c5 c6
       gi_wp2_with (first | (refine ⟨trivial, rfl, ?_⟩; gi_at_call 182; refine (CallsIn.inRound l (callsIn_wide.2 (p_int_any r HC.out _ (HB.out.up HI.out.1)))).mono ?_; rintro e W2 ⟨rfl, hu2⟩) | (refine ⟨trivial, rfl, ?_⟩; gi_at_call 181; refine (CallsIn.inRound l (callsIn_wide.2 (WriteString_b w.heap.size _ _ _ (HI.out.2.up hu2) (by have := HQ.out; simp only [ByteArray.size_append]; have h7 : (⟨#[92, 117, 123]⟩ : ByteArray).size = 3 := rfl; have h8 : (⟨#[125]⟩ : ByteArray).size = 1 := rfl; omega)))).mono ?_; rintro e W3 ⟨rfl, hB3⟩))
       exact HP.out _ _ (by rw [hqr.out]) (hB3.behind (Nat.le_of_lt HI.out.2.lt) hu2)
     · subst c6
       gi_wp2_with (first | (refine ⟨trivial, rfl, ?_⟩; gi_at_call 182; refine (CallsIn.inRound l (callsIn_wide.2 (p_int_any 127 (.inr rfl) _ (HB.out.up HI.out.1)))).mono ?_; rintro e W2 ⟨rfl, hu2⟩) | (refine ⟨trivial, rfl, ?_⟩; gi_at_call 181; refine (CallsIn.inRound l (callsIn_wide.2 (WriteString_b w.heap.size _ _ _ (HI.out.2.up hu2) (by have := HQ.out; simp only [ByteArray.size_append]; have h7 : (⟨#[92, 117, 123]⟩ : ByteArray).size = 3 := rfl; have h8 : (⟨#[125]⟩ : ByteArray).size = 1 := rfl; omega)))).mono ?_; rintro e W3 ⟨rfl, hB3⟩))
       exact HP.out _ _ (by rw [hqr.out]) (hB3.behind (Nat.le_of_lt HI.out.2.lt) hu2)
   · have hqr : Hid (quoteR r = Utf8.encode r) := by unfold Hid quoteR; rw [if_neg (by omega), if_neg c3, if_neg c4, if_neg c5, if_neg c6]
     have c7 : ¬ (r : Int) < 32 := by omega
     have c8 : ((r : Int) == 127) = false := by simp; omega
     clear c1 c2 c3 c4 c5 c6
     gi_wp2_with (first | (refine ⟨trivial, rfl, ?_⟩; gi_at_call 180; refine (CallsIn.inRound l (callsIn_wide.2 (WriteRune_z w.heap.size _ r _ rfl (by omega) _ HI.out.2 (by have := HQ.out; omega)))).mono ?_; rintro e W3 ⟨⟨m, rfl⟩, hB3⟩))
     exact HP.out _ _ (by rw [hqr.out]) hB3
 case done =>
   rintro D xs W hD hxs hI hK
   have HI := Lib.hid hI
   have HK := Lib.hid hK
   have hq : (quoteL ⟨#[34]⟩ (xs.map (·.1))).data.toList.length ≤ 6000000001 := by have h1 := quoteL_few (xs.map (·.1)); have h2 := HLE.out; rw [← hxs] at h2; omega
   have HQ := Lib.hid hq
   have HX : Hid (xs.map (·.1) = runesOf s.data.toList) := hxs
   have hI2 : Hid (w.heap.size < D) := by have := hI0.2.lt; unfold Hid; omega
   clear hI hK hq hxs htb htn hI0
   subst hA
   go_wp2_with (first | (go_at_call 178; refine (WriteByte_z w.heap.size _ 34 _ rfl _ HI.out.2 (by have := HQ.out; omega)).mono ?_; rintro e W2 ⟨rfl, hB2⟩) | (go_at_call 183; refine (String_b w.heap.size _ _ hB2.is).mono ?_; rintro e W3 ⟨rfl, hb3, ho3⟩))
   have hK3 : W3.heap[D]? = some (.deferred (some [])) := ho3 D _ (hB2.others D _ HK.out (fun e => by
       have e : D = w.heap.size := by cases e; rfl
       have := hI2.out
       omega) (fun c f e => by cases e)) (fun e => by
       have e : D = w.heap.size := by cases e; rfl
       have := hI2.out
       omega) (fun c f e => by cases e)
   refine ⟨by simp, .inl ⟨_, _, rfl, run_takeDeferred hK3, ?_⟩⟩
   refine ⟨_, results_tmp rfl _ _ _, ?_, ?_⟩
   · have e : (⟨((quoteL ⟨#[34]⟩ (xs.map (fun y : RunT => y.1))).data.toList ++ [34]).toArray⟩ : ByteArray) = quoteS s := by
       unfold quoteS
       rw [HX.out]
       apply ByteArray.ext
       apply Array.ext'
       simp [ByteArray.data_append]
     exact congrArg (fun x => Ending.returned (Value.string x)) e
   · refine Up.grown (W := W3) ?_ (grownBy_putObj' _ D _) (fun r e => by cases e; have := hI2.out; omega)
     have u1 := HI.out.1
     exact ⟨hb3.os.trans (hB2.low.os.trans u1.os), hb3.tape.trans (hB2.low.tape.trans u1.tape), hb3.output.trans (hB2.low.output.trans u1.output), Nat.le_trans u1.size (Nat.le_trans hB2.low.size hb3.size), fun b hb => (hb3.block b hb).trans ((hB2.low.block b hb).trans (u1.block b hb))⟩
 case stop =>
   rintro D c pre W hD hSp h hK
   exact h.elim
theorem quote_any : QuoteAny := fun s w hs hb => p_quote s hs w hb
end Go.Proofs.YtiaepldmgighbaaGreatDoor
