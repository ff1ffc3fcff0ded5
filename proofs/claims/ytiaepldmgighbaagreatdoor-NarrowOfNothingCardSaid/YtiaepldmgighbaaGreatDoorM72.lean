import Derived.WalkMore
import Derived.Test.YtiaepldmgighbaaGreatDoorM36
import Derived.Test.YtiaepldmgighbaaGreatDoorM37
import Derived.Test.YtiaepldmgighbaaGreatDoorM02
import Derived.Test.YtiaepldmgighbaaGreatDoorM42
import Derived.Test.YtiaepldmgighbaaGreatDoorM51
namespace Go.Proofs.YtiaepldmgighbaaGreatDoor
open Go.RowKit
set_option linter.unusedSimpArgs false
set_option linter.unusedVariables false
abbrev TesT : TypeId := 129
abbrev MfT : TypeId := 175
theorem putB_alloc (w : World) (o o' : Obj) : putB (w.alloc o) w.heap.size o' = w.alloc o' := by
 have h : (w.alloc o).heap.setIfInBounds w.heap.size o' = (w.alloc o').heap := by
   show (w.heap.push o).setIfInBounds w.heap.size o' = w.heap.push o'
   apply Array.ext_getElem?
   intro i
   rw [Array.getElem?_setIfInBounds, Array.getElem?_push, Array.getElem?_push]
   by_cases h : w.heap.size = i
   · subst h; simp
   · have h' : ¬ i = w.heap.size := fun e => h e.symm
     simp [h, h']
 unfold putB
 rw [h]
 rfl
theorem upd_fn {w : World} {es : Array MapEntry} {clk : Nat} {l : List (Int × Value)} (h : Entries es (Value.int .i64) id l) (k : Int) (v : Value) (hm : ∀ x ∈ l, x.1 ≠ k) :
   ∃ es' clk', (Instr.mapUpdate MfT (.map (some w.heap.size)) (.int .i64 k) v).run Tryz.prog (w.alloc (.map es clk)) = .ok () (w.alloc (.map es' clk')) ∧ Entries es' (Value.int .i64) id (l ++ [(k, v)]) := by
 obtain ⟨es', clk', h1, h2⟩ := run_store_miss (P := Tryz.prog) Tryz.underlying175 Tryz.underlying3 (intKeys .i64) (alloc_get w (.map es clk)) h k v hm
 rw [putB_alloc] at h1
 exact ⟨es', clk', h1, h2⟩
abbrev testA (A : Nat) (K : Int) (s : ByteArray) (T er : Int) : Array Value := #[.pointer (some ⟨A, 0, none⟩), .int .i64 K, .string s, .int .i64 T, .int .i64 er]
abbrev fnV (f kb : Nat) : Value := .func (.func f) #[.pointer (some ⟨kb, 0, none⟩)] #[]
def saysL (kb : Nat) : List (Int × Value) := [(1, fnV 103 kb), (2, fnV 104 kb), (3, fnV 105 kb), (4, fnV 106 kb), (5, fnV 107 kb)]
set_option maxRecDepth 100000 in
set_option maxHeartbeats 3200000 in
theorem says_test (f : Nat) (R : Int → Prop) (kb A p : Nat) (K T : Int) (s : ByteArray) (er : Int) (w : World) (j : Nat) (hj : (saysL kb)[j]? = some (K, fnV f kb)) (h : w.heap[kb]? = some (.cells (testA A K s T er) TesT (0, 0)))
   (hf : ∀ W, Up w W → Calls Tryz.prog f #[.pointer (some ⟨kb, 0, none⟩), .int .i64 p] W fun e w' => ∃ r : Int, e = .returned (.int .i64 r) ∧ Up W w' ∧ R r) :
   Calls Tryz.prog 67 #[.pointer (some ⟨kb, 0, none⟩), .int .i64 p] w fun e w' => ∃ r : Int, e = .returned (.int .i64 r) ∧ Up w w' ∧ R r := by
 have hs := h
 have b0 := cell_of hs 0; have g0 := ice_of hs 0; have b1 := cell_of hs 1; have g1 := ice_of hs 1; have b2 := cell_of hs 2; have g2 := ice_of hs 2; have b3 := cell_of hs 3; have g3 := ice_of hs 3; have b4 := cell_of hs 4; have g4 := ice_of hs 4; have b9 := lt_of_heap hs; (try simp only [World.size_alloc, List.getElem?_toArray, List.getElem?_cons_zero, List.getElem?_cons_succ] at b0 b1 b2 b3 b4 g0 g1 g2 g3 g4 b9); clear hs
 have hmm := @run_makeMap Tryz.prog
 obtain ⟨es1, k1, r1, e1⟩ := upd_fn (w := w) (es := #[]) (clk := 0) (l := []) rfl 1 (fnV 103 kb) (by simp)
 obtain ⟨es2, k2, r2, e2⟩ := upd_fn (w := w) (clk := k1) e1 2 (fnV 104 kb) (by simp)
 obtain ⟨es3, k3, r3, e3⟩ := upd_fn (w := w) (clk := k2) e2 3 (fnV 105 kb) (by simp)
 obtain ⟨es4, k4, r4, e4⟩ := upd_fn (w := w) (clk := k3) e3 4 (fnV 106 kb) (by simp)
 obtain ⟨es5, k5, r5, e5⟩ := upd_fn (w := w) (clk := k4) e4 5 (fnV 107 kb) (by simp)
 have hl := (run_lookup_hit (P := Tryz.prog) Tryz.underlying175 Tryz.underlying3 (intKeys .i64) (alloc_get w (.map es5 k5)) e5 K (fnV f kb) j hj (by simp)).2
 simp only [id] at hl
 have HF := Lib.hid hf
 have h5 : (K = 1 ∧ f = 103) ∨ (K = 2 ∧ f = 104) ∨ (K = 3 ∧ f = 105) ∨ (K = 4 ∧ f = 106) ∨ (K = 5 ∧ f = 107) := by
   match j, hj with
   | 0, hj => simp [saysL, fnV] at hj; exact .inl ⟨hj.1.symm, hj.2.symm⟩
   | 1, hj => simp [saysL, fnV] at hj; exact .inr (.inl ⟨hj.1.symm, hj.2.symm⟩)
   | 2, hj => simp [saysL, fnV] at hj; exact .inr (.inr (.inl ⟨hj.1.symm, hj.2.symm⟩))
   | 3, hj => simp [saysL, fnV] at hj; exact .inr (.inr (.inr (.inl ⟨hj.1.symm, hj.2.symm⟩)))
   | 4, hj => simp [saysL, fnV] at hj; exact .inr (.inr (.inr (.inr ⟨hj.1.symm, hj.2.symm⟩)))
   | j + 5, hj => simp [saysL] at hj
 clear e1 e2 e3 e4 e5 hf hj h
 rcases h5 with ⟨rfl, rfl⟩ | ⟨rfl, rfl⟩ | ⟨rfl, rfl⟩ | ⟨rfl, rfl⟩ | ⟨rfl, rfl⟩
 all_goals (
   go_enter Tryz.func67, Tryz.ntmps67
   go_wp2_with (first
     | (go_at_call 103; refine (HF.out _ (show Up w _ from uq)).mono ?_; rintro e w2 ⟨r, rfl, hu2, hr⟩; have HR := Lib.hid hr; clear hr)
     | (go_at_call 104; refine (HF.out _ (show Up w _ from uq)).mono ?_; rintro e w2 ⟨r, rfl, hu2, hr⟩; have HR := Lib.hid hr; clear hr)
     | (go_at_call 105; refine (HF.out _ (show Up w _ from uq)).mono ?_; rintro e w2 ⟨r, rfl, hu2, hr⟩; have HR := Lib.hid hr; clear hr)
     | (go_at_call 106; refine (HF.out _ (show Up w _ from uq)).mono ?_; rintro e w2 ⟨r, rfl, hu2, hr⟩; have HR := Lib.hid hr; clear hr)
     | (go_at_call 107; refine (HF.out _ (show Up w _ from uq)).mono ?_; rintro e w2 ⟨r, rfl, hu2, hr⟩; have HR := Lib.hid hr; clear hr))
   go_ret
   exact ⟨r, rfl, uq, HR.out⟩)
theorem tat_any {w : World} {B A : Nat} {bs : List Nat} {ts : List Ty} {tv mv dv : Value} (h : Are w B A bs ts tv mv dv) {i : Nat} {t : Ty} (ht : ts[i]? = some t) (kb : Nat) (K T : Int) (s : ByteArray) (er : Int) (hk : w.heap[kb]? = some (.cells (testA A K s T er) TesT (0, 0))) :
   Calls Tryz.prog 108 #[.pointer (some ⟨kb, 0, none⟩), .int .i64 i] w fun e w' => ∃ pa pc na nc ma mc, e = .returned (.agg (tyA t (t.parts.map (idOf ts)).length pa pc na nc ma mc)) ∧ TyV w' t (t.parts.map (idOf ts)) pa ma ∧ Up w w' := by
 have HA := Lib.hid (fun W (hW : Up w W) => At_any (h.up hW) ht)
 have b0 := cell_of hk 0; have g0 := ice_of hk 0; have b1 := cell_of hk 1; have g1 := ice_of hk 1; have b2 := cell_of hk 2; have g2 := ice_of hk 2; have b3 := cell_of hk 3; have g3 := ice_of hk 3; have b4 := cell_of hk 4; have g4 := ice_of hk 4; have b9 := lt_of_heap hk; (try simp only [World.size_alloc, List.getElem?_toArray, List.getElem?_cons_zero, List.getElem?_cons_succ] at b0 b1 b2 b3 b4 g0 g1 g2 g3 g4 b9); clear hk
 clear h ht
 go_enter Tryz.func108, Tryz.ntmps108
 go_wp2_with (first | (go_at_call 64; refine (HA.out _ (show Up w _ from uq)).mono ?_; rintro e w2 ⟨pa, pc, na, nc, ma, mc, rfl, hv2, hu2⟩; have s1 := hu2.get (alloc_get _ _); (try simp only [World.size_alloc] at s1); have HB := Lib.hid s1; have q0 := cell_of s1 0; have p0 := ice_of s1 0; have q1 := cell_of s1 1; have p1 := ice_of s1 1; have q2 := cell_of s1 2; have p2 := ice_of s1 2; have q3 := cell_of s1 3; have p3 := ice_of s1 3; have q4 := cell_of s1 4; have p4 := ice_of s1 4; have q5 := cell_of s1 5; have p5 := ice_of s1 5; have q9 := lt_of_heap s1; (try simp only [World.size_alloc, List.getElem?_toArray, List.getElem?_cons_zero, List.getElem?_cons_succ] at q0 q1 q2 q3 q4 q5 p0 p1 p2 p3 p4 p5 q9); clear s1; have HV := Lib.hid hv2; have u2 : Up w w2 := uq; clear hv2))
 all_goals refine bodyPost_ret (v := .agg (tyA t (t.parts.map (idOf ts)).length pa pc na nc ma mc)) (by simp [results, Tryz.results108, go_sem, *]) rfl ?_
 all_goals exact ⟨pa, pc, na, nc, ma, mc, rfl, (HV.out.set6 HB.out _ _ _ _ _ _).up (Up.alloc (Up.refl _) _), uq⟩
def typeS (k : Int) : ByteArray := if k = 7 ∨ k = 11 then ⟨#[110, 117, 109, 98, 101, 114]⟩ else if k = 8 ∨ k = 12 then ⟨#[115, 116, 114, 105, 110, 103]⟩ else if k = 9 ∨ k = 10 then ⟨#[98, 111, 111, 108, 101, 97, 110]⟩ else if k = 5 ∨ k = 4 then ⟨#[117, 110, 100, 101, 102, 105, 110, 101, 100]⟩ else if k = 15 ∨ k = 21 then ⟨#[102, 117, 110, 99, 116, 105, 111, 110]⟩ else if k = 6 ∨ k = 13 ∨ k = 14 ∨ k = 22 ∨ k = 23 ∨ k = 17 then ⟨#[111, 98, 106, 101, 99, 116]⟩ else ⟨#[]⟩
set_option maxRecDepth 100000 in
set_option maxHeartbeats 3200000 in
theorem typeof_any (k : Int) (w : World) : Calls Tryz.prog 156 #[.int .i64 k] w fun e w' => e = .returned (.string (typeS k)) ∧ w' = w := by
 have hk := k
 go_enter Tryz.func156, Tryz.ntmps156
 go_wp2_with fail
 all_goals go_ret
 all_goals refine ⟨?_, rfl⟩
 all_goals (unfold typeS; simp_all)
theorem told_any (b : Bool) (w : World) : Calls Tryz.prog 157 #[.bool b] w fun e w' => e = .returned (.int .i64 (if b = true then 1 else 0)) ∧ w' = w := by
 go_enter Tryz.func157, Tryz.ntmps157
 go_wp2_with fail
 all_goals go_ret
 all_goals exact ⟨by simp_all, rfl⟩
theorem field_kind (c0 c1 c2 c3 c4 c5 : Value) (w : World) : (Instr.field 46 (.agg #[c0, c1, c2, c3, c4, c5]) 0).run Tryz.prog w = .ok c0 w := by kernel_rfl
attribute [local go_sem] field_kind
def kindR (k : Int) (s : ByteArray) : Int := if (typeS k).toList = [] then 2 else if (typeS k).toList = s.toList then 1 else 0
set_option maxRecDepth 100000 in
theorem kind_any {w : World} {B A : Nat} {bs : List Nat} {ts : List Ty} {tv mv dv : Value} (h : Are w B A bs ts tv mv dv) {i : Nat} {t : Ty} (ht : ts[i]? = some t) (kb : Nat) (K T : Int) (s : ByteArray) (er : Int) (hk : w.heap[kb]? = some (.cells (testA A K s T er) TesT (0, 0))) :
   Calls Tryz.prog 103 #[.pointer (some ⟨kb, 0, none⟩), .int .i64 i] w fun e w' => e = .returned (.int .i64 (kindR t.kind s)) ∧ Up w w' := by
 have HA := Lib.hid (fun W (hW : Up w W) => tat_any (h.up hW) ht kb K T s er (hW.get hk))
 have HK := Lib.hid hk
 have hk1 := hk
 have b0 := cell_of hk1 0; have g0 := ice_of hk1 0; have b1 := cell_of hk1 1; have g1 := ice_of hk1 1; have b2 := cell_of hk1 2; have g2 := ice_of hk1 2; have b3 := cell_of hk1 3; have g3 := ice_of hk1 3; have b4 := cell_of hk1 4; have g4 := ice_of hk1 4; have b9 := lt_of_heap hk1; (try simp only [World.size_alloc, List.getElem?_toArray, List.getElem?_cons_zero, List.getElem?_cons_succ] at b0 b1 b2 b3 b4 g0 g1 g2 g3 g4 b9); clear hk1
 clear h ht hk
 go_enter Tryz.func103, Tryz.ntmps103
 go_wp2_with (first
   | (go_at_call 108; refine (HA.out _ (show Up w _ from uq)).mono ?_; rintro e w2 ⟨pa, pc, na, nc, ma, mc, rfl, hv2, hu2⟩; have hk2 := (show Up w w2 from uq).get HK.out; have b0 := cell_of hk2 0; have g0 := ice_of hk2 0; have b1 := cell_of hk2 1; have g1 := ice_of hk2 1; have b2 := cell_of hk2 2; have g2 := ice_of hk2 2; have b3 := cell_of hk2 3; have g3 := ice_of hk2 3; have b4 := cell_of hk2 4; have g4 := ice_of hk2 4; have b9 := lt_of_heap hk2; (try simp only [World.size_alloc, List.getElem?_toArray, List.getElem?_cons_zero, List.getElem?_cons_succ] at b0 b1 b2 b3 b4 g0 g1 g2 g3 g4 b9); clear hk2; clear hv2)
   | (go_at_call 156; refine (typeof_any _ _).mono ?_; rintro e w3 ⟨rfl, rfl⟩)
   | (go_at_call 157; refine (told_any _ _).mono ?_; rintro e w3 ⟨rfl, rfl⟩))
 all_goals trace_state
 all_goals go_ret
 all_goals refine ⟨?_, uq⟩
 all_goals (unfold kindR; simp_all)
set_option maxRecDepth 100000 in
theorem truth_any {w : World} {B A : Nat} {bs : List Nat} {ts : List Ty} {tv mv dv : Value} (h : Are w B A bs ts tv mv dv) {i : Nat} {t : Ty} (ht : ts[i]? = some t) (kb : Nat) (K T : Int) (s : ByteArray) (er : Int) (hk : w.heap[kb]? = some (.cells (testA A K s T er) TesT (0, 0))) :
   Calls Tryz.prog 105 #[.pointer (some ⟨kb, 0, none⟩), .int .i64 i] w fun e w' => ∃ r : Int, e = .returned (.int .i64 r) ∧ Up w w' ∧ (0 ≤ r ∧ r ≤ 2) := by
 have HA := Lib.hid (fun W (hW : Up w W) => tat_any (h.up hW) ht kb K T s er (hW.get hk))
 clear h ht hk
 go_enter Tryz.func105, Tryz.ntmps105
 go_wp2_with (first
   | (go_at_call 108; refine (HA.out _ (show Up w _ from uq)).mono ?_; rintro e w2 ⟨pa, pc, na, nc, ma, mc, rfl, hv2, hu2⟩; clear hv2)
   | (go_at_call 157; refine (told_any _ _).mono ?_; rintro e w3 ⟨rfl, rfl⟩))
 all_goals go_ret
 all_goals refine ⟨_, rfl, uq, ?_⟩
 all_goals first
   | (constructor <;> decide)
   | (split <;> constructor <;> decide)
end Go.Proofs.YtiaepldmgighbaaGreatDoor
namespace Go.Proofs.YtiaepldmgighbaaGreatDoor
open Go.RowKit
set_option linter.unusedSimpArgs false
set_option linter.unusedVariables false
attribute [local go_sem] Oper.semAt_some
abbrev ISlT : TypeId := 43
abbrev ivaluesF : Nat := 155
def ISeqAt (w : World) (t g : Nat) (xs : List Nat) : Prop := ∃ (off cap : Nat) (cs : Array Value) (T : TypeId) (fz : Nat × Nat), w.heap[t]? = some (.cells #[.slice (some ⟨g, off, none⟩) xs.length cap] ISlT (0, 0)) ∧ w.heap[g]? = some (.cells cs T fz) ∧ ∀ j x, xs[j]? = some x → cs[off + j]? = some (numV x)
theorem ISeqAt.up {w w' : World} {t g : Nat} {xs : List Nat} (h : ISeqAt w t g xs) (u : Up w w') : ISeqAt w' t g xs := let ⟨off, cap, cs, T, fz, h1, h2, h3⟩ := h; ⟨off, cap, cs, T, fz, u.get h1, u.get h2, h3⟩
theorem IValues_any (a : Option Addr) (n cap : Nat) (w : World) :
   Calls Tryz.prog 102 #[.slice a n cap] w fun e w' => e = .returned (.func (.func ivaluesF) #[] #[.pointer (some ⟨w.heap.size, 0, none⟩)]) ∧ w' = w.alloc (.cells #[.slice a n cap] ISlT) := by
 go_enter Tryz.func102, Tryz.ntmps102
 go_wp2
 go_ret
 exact ⟨rfl, rfl⟩
set_option maxRecDepth 100000 in
set_option maxHeartbeats 2000000 in
theorem ivalues_iter (l tb : Nat) (xs : List Nat) (K : World → World → Prop) (hKr : ∀ W, K W W) (hKt : ∀ a b c, K a b → K b c → K a c) (J Jx : List Nat → World → Prop) (W : World)
   (hY : ∀ pre x W1, x ∈ xs → J pre W1 → pre.length < xs.length → YieldAt Fence.wide 0 Tryz.prog l #[numV x] W1 fun e W' =>
     (e = .returned (.bool true) ∧ J (pre ++ [x]) W' ∧ K W1 W') ∨ (e = .returned (.bool false) ∧ Jx (pre ++ [x]) W'))
   (hlen : xs.length ≤ 1000000) (hbox : ∃ g off cap, ∀ W', K W W' → W'.cell? ⟨tb, 0, none⟩ = some (.slice (some ⟨g, off, none⟩) xs.length cap) ∧ ∀ j x, xs[j]? = some x → W'.cell? ⟨g, off + j, none⟩ = some (numV x)) (h0 : J [] W) :
   CallsIn Fence.wide 1 Tryz.prog ivaluesF #[.func (.yield l) #[] #[], .pointer (some ⟨tb, 0, none⟩)] W fun e W' => (∃ v, e = .returned v) ∧
     (J xs W' ∨ (∃ pre, pre <+: xs ∧ Jx pre W')) := by
 obtain ⟨g, off, cap, hbox⟩ := hbox
 have hb0 := (hbox W (hKr W)).1
 have HB := Lib.hid hbox
 clear hbox
 refine callsIn_of_wp Tryz.func155 rfl trivial ?_ rfl
 simp only [Tryz.ntmps155, List.size_toArray, List.length_cons, List.length_nil, Nat.reduceAdd, Nat.reduceSub, Array.replicate_succ, Array.replicate_zero, List.push_toArray, List.append_toArray, List.nil_append, List.cons_append]
 gi_wp2
 gi_loopw [7] (fun i wr => ∃ (j : Nat), j ≤ xs.length ∧ i = .int .i64 j ∧ J (xs.take j) wr ∧ K W wr) (fun i _ => xs.length - (intOf i).toNat)
 case atStart => exact ⟨0, Nat.zero_le _, rfl, h0, hKr _⟩
 case round =>
   obtain ⟨j, hj, rfl, hJs, hnx⟩ := hrel
   by_cases hlt : j < xs.length
   · have hji : (j : Int) < xs.length := by omega
     obtain ⟨x, hx⟩ : ∃ x, xs[j]? = some x := ⟨_, List.getElem?_eq_getElem hlt⟩
     have y0 : wr.cell? ⟨g, off + j, none⟩ = some (.int .i64 x) := (HB.out wr hnx).2 j x hx
     obtain ⟨fn, tmps, assign, body, hy, hR⟩ := hY _ x wr (List.mem_of_getElem? hx) hJs (by simp; omega)
     have hnext : xs.take (j + 1) = xs.take j ++ [x] := by rw [List.take_add_one, hx]; rfl
     have HX := Lib.hid hx
     simp only [numV] at hy
     clear hx hlt
     gi_wp2
     refine hR.mono ?_
     rintro e W3 (⟨rfl, hJ3, hk3⟩ | ⟨rfl, hJx3⟩)
     · gi_wp2
       go_roundw
       case rel => exact ⟨j + 1, by omega, by simp, by rw [hnext]; exact hJ3, hKt _ _ _ hnx hk3⟩
       case measure => simp [intOf]; omega
     · gi_wp2
       refine bodyPost_ret (results_none rfl _ _ _) rfl ?_
       exact ⟨⟨_, rfl⟩, .inr ⟨_, by rw [← hnext]; exact List.take_prefix _ _, hJx3⟩⟩
   · obtain rfl : j = xs.length := by omega
     gi_wp2
     go_end0
     rw [List.take_length] at hJs
     exact ⟨⟨_, rfl⟩, .inl hJs⟩
abbrev OneI (xs : List Nat) := { x : Nat // x ∈ xs }
theorem ivalues_stops (tb : Nat) (xs : List Nat) (hlen : xs.length ≤ 1000000) (w : World) (g : Nat) (h : ISeqAt w tb g xs) :
   SeqStopsK Fence.wide 1 Tryz.prog ivaluesF #[.pointer (some ⟨tb, 0, none⟩)] (fun x : OneI xs => #[numV x.1]) (TwoKeep fun x => x = tb ∨ x = g) (fun ys => ys.map (·.1) = xs) (fun _ => True) xs.length w := by
 obtain ⟨off, cap, cs, T, fz, h1, h2, h3⟩ := h
 intro l J0 Jx0 W hW hJ0 hJx0 hY0 h00
 refine CallsIn.mono (ivalues_iter l tb xs (TwoKeep fun x => x = tb ∨ x = g) (TwoKeep.refl _) (fun _ _ _ => TwoKeep.trans) (fun pre W => ∃ ys : List (OneI xs), ys.map (·.1) = pre ∧ J0 ys W) (fun pre W => ∃ ys : List (OneI xs), ys.map (·.1) = pre ∧ Jx0 ys W) W ?_ hlen ⟨g, off, cap, fun W' hk => ?_⟩ ⟨[], rfl, h00⟩) ?_
 · rintro pre x W1 hx ⟨ys, rfl, hj⟩ hl
   obtain ⟨fn, tmps, assign, body, hy, hR⟩ := hY0 ys ⟨x, hx⟩ W1 hj (by simpa using hl)
   refine ⟨fn, tmps, assign, body, hy, hR.mono ?_⟩
   rintro e W' (⟨rfl, h1, h2⟩ | ⟨rfl, h1⟩)
   · exact .inl ⟨rfl, ⟨ys ++ [⟨x, hx⟩], by simp, h1⟩, h2⟩
   · exact .inr ⟨rfl, ys ++ [⟨x, hx⟩], by simp, h1⟩
 · refine ⟨?_, fun j x hx => ?_⟩
   · exact cell_of (hk.same tb _ (.inl rfl) (Up.get hW h1) rfl) 0
   · exact (cell_of (hk.same g _ (.inr rfl) (Up.get hW h2) rfl) _).trans (h3 j x hx)
 · rintro e W' ⟨hv, ⟨ys, hy, hj⟩ | ⟨pre, hp, ys, hy, hj⟩⟩
   · exact ⟨hv, Or.inl ⟨ys, hy, hj⟩⟩
   · exact ⟨hv, Or.inr ⟨ys, trivial, hj⟩⟩
end Go.Proofs.YtiaepldmgighbaaGreatDoor
namespace Go.Proofs.YtiaepldmgighbaaGreatDoor
open Go.RowKit
set_option linter.unusedSimpArgs false
set_option linter.unusedVariables false
def partsN (ts : List Ty) (i : Nat) (t : Ty) : List Nat := if t.kind = 16 then t.parts.map (idOf ts) else [i]
set_option maxRecDepth 100000 in
set_option maxHeartbeats 3200000 in
theorem parts_any {w : World} {B A : Nat} {bs : List Nat} {ts : List Ty} {tv mv dv : Value} (h : Are w B A bs ts tv mv dv) {i : Nat} {t : Ty} (ht : ts[i]? = some t) :
   Calls Tryz.prog 66 #[.pointer (some ⟨A, 0, none⟩), .int .i64 i] w fun e w' => ∃ tb g, e = .returned (.func (.func ivaluesF) #[] #[.pointer (some ⟨tb, 0, none⟩)]) ∧ ISeqAt w' tb g (partsN ts i t) ∧ w.heap.size ≤ tb ∧ tb ≠ g ∧ Up w w' := by
 have HA := Lib.hid (fun W (hW : Up w W) => At_any (h.up hW) ht)
 have hne : t.kind = 16 → t.parts ≠ [] := fun hk => by
   obtain ⟨ps, e, hl, _⟩ := (CV.of (h.good t (List.mem_of_getElem? ht)).1).union (by rw [Ty.canon_kind]; exact hk)
   intro e2
   have := Ty.canon_parts t
   rw [e, e2] at this
   simp [Ty.parts] at this
   subst this
   simp at hl
 have HN := Lib.hid hne
 clear h ht hne
 by_cases hk : t.kind = 16
 · have hp : partsN ts i t = t.parts.map (idOf ts) := by unfold partsN; rw [if_pos hk]
   rw [hp]
   go_enter Tryz.func66, Tryz.ntmps66
   go_wp2_with (first
     | (go_at_call 64; refine (HA.out _ (show Up w _ from uq)).mono ?_; rintro e w2 ⟨pa, pc, na, nc, ma, mc, rfl, hv2, hu2⟩; have HV := Lib.hid hv2; clear hv2)
     | (go_at_call 102; refine (IValues_any _ _ _ _).mono ?_; rintro e w2 ⟨rfl, rfl⟩))
   go_ret
   obtain ⟨z0, hz0⟩ : ∃ z, (t.parts.map (idOf ts))[0]? = some z := ⟨_, List.getElem?_eq_getElem (by rw [List.length_map]; exact List.length_pos_iff.2 (HN.out hk))⟩
   obtain ⟨g, off, cs, T, f, rfl, hc, _, _⟩ := HV.out.parts 0 (.int .i64 (Int.ofNat z0)) (by rw [List.getElem?_map, hz0]; rfl)
   refine ⟨_, g, rfl, ⟨off, pc, cs, T, f, ?_, (show Up w2 _ from uq).get hc, fun j x hx => ?_⟩, by have := hu2.size; omega, by have := lt_of_heap hc; omega, uq⟩
   · rw [List.length_map]
     exact alloc_at _ _ _ (by simp only [World.size_alloc])
   · obtain ⟨g2, off2, cs2, T2, f2, e2, hc2, _, h4⟩ := HV.out.parts j (.int .i64 (Int.ofNat x)) (by rw [List.getElem?_map, hx]; rfl)
     injection e2 with e2
     injection e2 with e2 e3 _
     subst e2 e3
     rw [hc] at hc2
     injection hc2 with hc2
     injection hc2 with hc2 _ _
     subst hc2
     exact h4
 · have hp : partsN ts i t = [i] := by unfold partsN; rw [if_neg hk]
   rw [hp]
   go_enter Tryz.func66, Tryz.ntmps66
   go_wp2_with (first
     | (go_at_call 64; refine (HA.out _ (show Up w _ from uq)).mono ?_; rintro e w2 ⟨pa, pc, na, nc, ma, mc, rfl, hv2, hu2⟩; have HV := Lib.hid hv2; clear hv2)
     | (go_at_call 102; refine (IValues_any _ _ _ _).mono ?_; rintro e w2 ⟨rfl, rfl⟩))
   go_ret
   refine ⟨_, w2.heap.size + 1, rfl, ⟨0, 1, #[numV i], 3, (0, 0), alloc_at _ _ _ (by simp only [World.size_alloc]), alloc_keep (alloc_at _ _ _ (by simp only [World.size_alloc])), fun j x hx => ?_⟩, by have := hu2.size; omega, by omega, uq⟩
   cases j with
   | zero => simp at hx; subst hx; rfl
   | succ j => simp at hx
theorem instead_same {w : World} {B A : Nat} {bs : List Nat} {ts : List Ty} {tv mv dv : Value} (h : Are w B A bs ts tv mv dv) {i : Nat} {t : Ty} (ht : ts[i]? = some t) (kb : Nat) (K T : Int) (s : ByteArray) (er : Int) (hk : w.heap[kb]? = some (.cells (testA A K s T er) TesT (0, 0))) (hK : K = 3) :
   Calls Tryz.prog 68 #[.pointer (some ⟨kb, 0, none⟩), .int .i64 i] w fun e w' => e = .returned (.int .i64 i) ∧ Up w w' := by
 have HA := Lib.hid (fun W (hW : Up w W) => tat_any (h.up hW) ht kb K T s er (hW.get hk))
 have HK := Lib.hid hk
 subst hK
 clear h ht hk
 go_enter Tryz.func68, Tryz.ntmps68
 go_wp2_with (first
   | (go_at_call 108; refine (HA.out _ (show Up w _ from uq)).mono ?_; rintro e w2 ⟨pa, pc, na, nc, ma, mc, rfl, hv2, hu2⟩; have hk2 := (show Up w w2 from uq).get HK.out; have b0 := cell_of hk2 0; have g0 := ice_of hk2 0; have b1 := cell_of hk2 1; have g1 := ice_of hk2 1; have b2 := cell_of hk2 2; have g2 := ice_of hk2 2; have b3 := cell_of hk2 3; have g3 := ice_of hk2 3; have b4 := cell_of hk2 4; have g4 := ice_of hk2 4; have b9 := lt_of_heap hk2; (try simp only [World.size_alloc, List.getElem?_toArray, List.getElem?_cons_zero, List.getElem?_cons_succ] at b0 b1 b2 b3 b4 g0 g1 g2 g3 g4 b9); clear hk2; clear hv2))
 all_goals go_ret
 all_goals exact ⟨rfl, uq⟩
def keepB (r : Int) (asked : Bool) : Bool := r == 2 || ((r == 1) == asked)
def keptL (asked : Bool) (ps : List Nat) (rs : List Int) : List Nat := ((ps.zip rs).filter fun x => keepB x.2 asked).map (·.1)
theorem keptL_snoc (asked : Bool) {ps : List Nat} {rs : List Int} (h : rs.length = ps.length) (p : Nat) (r : Int) : keptL asked (ps ++ [p]) (rs ++ [r]) = keptL asked ps rs ++ if keepB r asked = true then [p] else [] := by
 unfold keptL
 rw [List.zip_append h.symm, List.filter_append, List.map_append]
 congr 1
 simp only [List.zip_cons_cons, List.zip_nil_right, List.filter_cons, List.filter_nil]
 split <;> rfl
theorem keptL_few (asked : Bool) (ps : List Nat) (rs : List Int) : (keptL asked ps rs).length ≤ ps.length := by
 unfold keptL
 rw [List.length_map]
 refine Nat.le_trans (List.length_filter_le _ _) ?_
 rw [List.length_zip]
 exact Nat.min_le_left _ _
structure ToldN (R : Nat → Int → Prop) (ps : List Nat) (rs : List Int) : Prop where
 len : rs.length = ps.length
 at_ : ∀ (j p : Nat) (r : Int), ps[j]? = some p → rs[j]? = some r → R p r
theorem ToldN.nil (R : Nat → Int → Prop) : ToldN R [] [] := ⟨rfl, fun j p r h _ => by simp at h⟩
theorem ToldN.snoc {R : Nat → Int → Prop} {ps : List Nat} {rs : List Int} (h : ToldN R ps rs) {p : Nat} {r : Int} (hr : R p r) : ToldN R (ps ++ [p]) (rs ++ [r]) := by
 refine ⟨by simp [h.len], fun j q s h1 h2 => ?_⟩
 rcases Nat.lt_or_ge j ps.length with hj | hj
 · rw [List.getElem?_append_left hj] at h1
   rw [List.getElem?_append_left (by rw [h.len]; exact hj)] at h2
   exact h.at_ j q s h1 h2
 · have hl := (List.getElem?_eq_some_iff.1 h1).1
   simp only [List.length_append, List.length_singleton] at hl
   obtain rfl : j = ps.length := by omega
   rw [List.getElem?_append_right (Nat.le_refl _), Nat.sub_self] at h1
   rw [List.getElem?_append_right (by rw [h.len]; exact Nat.le_refl _), h.len, Nat.sub_self] at h2
   simp only [List.getElem?_cons_zero, Option.some.injEq] at h1 h2
   subst h1 h2
   exact hr
abbrev TesP : TypeId := 127
structure KI (w : World) (kb qa lb M : Nat) (cs : Array Value) (asked : Bool) (l : List Nat) (W : World) : Prop where
 up : Up w W
 b1 : W.heap[kb]? = some (.cells cs TesT (0, 0))
 b2 : W.heap[kb + 1]? = some (.cells #[.pointer (some ⟨kb, 0, none⟩)] TesP (0, 0))
 b3 : W.heap[qa]? = some (.cells #[.bool asked] BooT (0, 0))
 row : ∃ v, W.heap[lb]? = some (.cells #[v] ISlT (0, 0)) ∧ W.ownsRow 0 IntL 1 v l.length (l.map numV) ∧ ∀ g, v.ownBlock = some g → M ≤ g
 more : M ≤ W.heap.size
section
variable {w : World} {kb qa lb M : Nat} {cs : Array Value} {asked : Bool} {l : List Nat}
theorem KI.on {W W' : World} (h : KI w kb qa lb M cs asked l W) (k : Up W W') : KI w kb qa lb M cs asked l W' :=
 ⟨h.up.trans k, k.get h.b1, k.get h.b2, k.get h.b3, h.row.imp fun _ ⟨q1, q2, q3⟩ => ⟨k.get q1, ownsRow_up q2 k, q3⟩, Nat.le_trans h.more k.size⟩
theorem KI.own {W W' : World} (hM : w.heap.size ≤ M) {row : Option Nat} (h : KI w kb qa lb M cs asked l W) (hg : W.grownBy W' row) (hr : ∀ r, row = some r → M ≤ r ∧ ∃ o : Obj, W.heap[r]? = some o ∧ o.isCells = false) : KI w kb qa lb M cs asked l W' := by
 refine ⟨h.up.grown hg (fun r e => Nat.le_trans hM (hr r e).1), keep_own h.b1 hg hr, keep_own h.b2 hg hr, keep_own h.b3 hg hr, ?_, Nat.le_trans h.more hg.size⟩
 obtain ⟨v, q1, q2, q3⟩ := h.row
 refine ⟨v, keep_own q1 hg hr, ownsRow_keep q2 fun g hg' => ?_, q3⟩
 refine hg.block g (q2.lt g hg').2 fun e => ?_
 obtain ⟨_, o, ho, hoc⟩ := hr g e.symm
 obtain ⟨cur, hc⟩ := row_blockI q2 hg'
 rw [hc] at ho
 cases ho
 cases hoc
theorem KI.push {W W' w7 : World} (hw : w.heap.size ≤ lb) (hM : w.heap.size ≤ M) (hne : lb ≠ kb ∧ lb ≠ kb + 1 ∧ lb ≠ qa ∧ lb < M) (h : KI w kb qa lb M cs asked l W) (hu : Up W W') {p : Nat} {v lv : Value} (hv : W.heap[lb]? = some (.cells #[v] ISlT (0, 0))) (hrow : W.ownsRow 0 IntL 1 v l.length (l.map numV)) (hvM : ∀ g, v.ownBlock = some g → M ≤ g)
   (hown : w7.ownsRow 0 IntL 1 lv (l.length + 1) (l.map numV ++ [.int .i64 p])) (hg : (W'.alloc (.cells #[.int .i64 p] IntL)).grownBy w7 v.ownBlock) (hb : lv.ownBlock = v.ownBlock ∨ ∃ g', lv.ownBlock = some g' ∧ W'.heap.size + 1 ≤ g') :
   KI w kb qa lb M cs asked (l ++ [p]) (w7.setCell ⟨lb, 0, none⟩ lv) ∧ W.heap.size ≤ (w7.setCell ⟨lb, 0, none⟩ lv).heap.size ∧ (∀ (x : Nat) (o : Obj), x ≠ lb → v.ownBlock ≠ some x → W.heap[x]? = some o → (w7.setCell ⟨lb, 0, none⟩ lv).heap[x]? = some o) := by
 have hgs := hg.size
 have hus := hu.size
 simp only [World.size_alloc] at hgs
 have hat : ∀ (x : Nat) (o : Obj), x ≠ lb → v.ownBlock ≠ some x → W.heap[x]? = some o → (w7.setCell ⟨lb, 0, none⟩ lv).heap[x]? = some o := fun x o h1 h2 h3 => by
   rw [setCell_other h1]
   exact grown_get hg (alloc_keep (hu.get h3)) h2
 have hno : ∀ {x : Nat} {cs : Array Value} {T : TypeId} {f : Nat × Nat}, W.heap[x]? = some (.cells cs T f) → T ≠ IntL → v.ownBlock ≠ some x := fun hx hT e => by
   obtain ⟨cur, hc⟩ := row_blockI hrow e
   rw [hx] at hc
   injection hc with hc
   injection hc with _ hc _
   exact hT hc
 have hup : Up w w7 := ((h.up.trans hu).trans (Up.alloc (Up.refl _) _)).grown hg (fun r e => Nat.le_trans hM (hvM r e))
 refine ⟨⟨hup.setCell hw _, hat _ _ (fun e => hne.1 e.symm) (hno h.b1 (by decide)) h.b1, hat _ _ (fun e => hne.2.1 e.symm) (hno h.b2 (by decide)) h.b2, hat _ _ (fun e => hne.2.2.1 e.symm) (hno h.b3 (by decide)) h.b3, ⟨lv, ?_, ?_, fun g e => ?_⟩, ?_⟩, by rw [setCell_size]; omega, hat⟩
 · have := setCell_block (i := 0) (grown_get hg (alloc_keep (hu.get hv)) (hno hv (by decide))) lv
   exact this
 · rw [List.length_append, List.map_append]
   refine ownsRow_keep hown fun g e => ?_
   refine setCell_other (fun e2 => ?_) _
   have hgm : M ≤ g := by
     rcases hb with q | ⟨g', q, q2⟩
     · exact hvM g (by rw [← q]; exact e)
     · rw [q] at e
       cases e
       have := h.more
       omega
   omega
 · rcases hb with q | ⟨g', q, q2⟩
   · exact hvM g (by rw [← q]; exact e)
   · rw [q] at e
     cases e
     have := h.more
     omega
 · rw [setCell_size]
   have := h.more
   omega
end
def Recs (w w' : World) : Prop := ∀ (x : Nat) (o : Obj), w.heap[x]? = some o → (∀ d, o ≠ .deferred d) → w'.heap[x]? = some o
theorem Recs.cells {w w' : World} (k : Recs w w') {x : Nat} {cs : Array Value} {T : TypeId} {f : Nat × Nat} (h : w.heap[x]? = some (.cells cs T f)) : w'.heap[x]? = some (.cells cs T f) := k _ _ h fun d e => by cases e
theorem TyAt.recs {N : Nat → Prop} {B : Nat} {w w' : World} {b : Nat} {t : Ty} (h : TyAt N B w b t) (k : Recs w w') : TyAt N B w' b t := by
 induction h with
 | mk said pv nv mv qs hB hh hs hp hn hm hl hq ih =>
   exact TyAt.mk said pv nv mv qs hB (k.cells hh) hs (hp.keep fun g cs fz q1 q2 => ⟨q1, k.cells q2⟩) (hn.keep fun g cs fz q1 q2 => ⟨q1, k.cells q2⟩) (hm.keep fun g cs fz q1 q2 => ⟨q1, k.cells q2⟩) hl ih
theorem TyAt.recs_cell {N : Nat → Prop} {B : Nat} {w w' : World} {b : Nat} {t : Ty} (h : TyAt N B w b t) (k : Recs w w') (i : Nat) : w'.cell? ⟨b, i, none⟩ = w.cell? ⟨b, i, none⟩ := by
 obtain ⟨cs, hb⟩ := h.blk
 rw [cell_of hb, cell_of (k.cells hb)]
theorem Asked.recs {N : Nat → Prop} {B : Nat} {w w' : World} {b : Nat} {t : Ty} (h : Asked N B w b t) (ht : TyAt N B w b t) (k : Recs w w') : Asked N B w' b t := by
 obtain ⟨pv, qs, h1, h2, h3, h4⟩ := h.parts
 refine ⟨(ht.recs_cell k 7).trans h.self, h.ne, pv, qs, (ht.recs_cell k 3).trans h1, h2.keep fun g cs fz q1 q2 => ⟨q1, k.cells q2⟩, h3, fun j q p hj hp => ?_⟩
 obtain ⟨q1, q2, q3⟩ := h4 j q p hj hp
 exact ⟨q1.recs k, (q1.recs_cell k 7).trans q2, q3⟩
theorem Are.recs {w w' : World} {B A : Nat} {bs : List Nat} {ts : List Ty} {tv mv dv : Value} (h : Are w B A bs ts tv mv dv) (k : Recs w w') : Are w' B A bs ts tv mv dv where
 base := h.base
 head := k.cells h.head
 row := ownsRow_keep h.row fun g' hg' => by
   obtain ⟨cur, hc⟩ := row_blockI h.row hg'
   rw [hc]
   exact k.cells hc
 rowB := h.rowB
 ids := h.ids.imp id fun ⟨g, es, clk, h1, h2, h3, h4⟩ => ⟨g, es, clk, h1, h2, k _ _ h3 (fun _ e => by cases e), h4⟩
 len := h.len
 nodup := h.nodup
 ty i b t h1 h2 := (h.ty i b t h1 h2).recs k
 asked i b t h1 h2 := (h.asked i b t h1 h2).recs (h.ty i b t h1 h2) k
 good := h.good
 closed := h.closed
theorem Sta.drop {w0 W : World} {A : Nat} {bs : List Nat} {ts : List Ty} {tv mv : Value} (h : Sta w0 W A bs ts tv mv) {D : Nat} {x y : Option (List Deferred)} (hD : w0.heap.size ≤ D) (hd : W.heap[D]? = some (.deferred x)) : Sta w0 (W.putObj D (.deferred y)) A bs ts tv mv := by
 have k : Recs W (W.putObj D (.deferred y)) := fun z o hz ho => by
   rw [World.putObj_heap_other (fun e => by
     subst e
     rw [hd] at hz
     cases hz
     exact ho _ rfl)]
   exact hz
 refine ⟨h.are.recs k, fun w2 h2 => h.glob w2 fun b o h3 h4 => h2 b o h3 ?_, Up.grown (W := W) h.up (grownBy_putObj' _ D _) (fun r e => by cases e; exact hD)⟩
 rw [World.putObj_heap_other (by omega)]
 exact h4
theorem Are.not_rec {w : World} {B A : Nat} {bs : List Nat} {ts : List Ty} {tv mv dv : Value} (h : Are w B A bs ts tv mv dv) {D : Nat} {x : Option (List Deferred)} (hd : w.heap[D]? = some (.deferred x)) : ¬ arS A tv mv D := by
 rintro (e | e | e)
 · subst e
   rw [h.head] at hd
   cases hd
 · obtain ⟨cur, hc⟩ := row_blockI h.row e
   rw [hc] at hd
   cases hd
 · rcases h.ids with ⟨h9, _⟩ | ⟨g, es, clk, h9, _, hm, _⟩
   · rw [h9] at e; cases e
   · rw [h9] at e
     cases e
     rw [hm] at hd
     cases hd
theorem union_own_sta {w0 W : World} {A : Nat} {bs : List Nat} {ts : List Ty} {tv mv : Value} (h : Sta w0 W A bs ts tv mv) {a : Option Addr} {n cap : Nat} {zs : List Nat} {us : List Ty} (hr : W.ownsRow 0 IntL 1 (.slice a n cap) n (zs.map numV)) (hl : zs.length = n) (hz : zs.map (fun z => ts[z]?) = us.map some) {N : Nat} (hn : 1 + sumN us ≤ N) (h500 : N ≤ 500) (hb : bs.length ≤ 100000) :
   Calls Tryz.prog 24 #[.pointer (some ⟨A, 0, none⟩), .slice a n cap] W fun e w' => UnionQ w0 A bs ts (unionC (us.map Ty.canon)) N e w' ∧ ∀ (D : Nat) (x : Option (List Deferred)), W.heap[D]? = some (.deferred x) → w'.heap[D]? = some (.deferred x) := by
 subst hl
 refine (Union_in w0.heap.size A bs ts tv mv (.map none) zs us _ cap _ h.are (ids_row hr rfl) hz (fit_of h.are hz (by omega)) h.glob (by omega)).mono ?_
 rintro e w' ⟨u, w2, hv, hc, hm, hK⟩
 have hun : u.nodes ≤ N := by
   rw [← Ty.nodes_canon, hc]
   have h1 := unionC_nodes (us.map Ty.canon)
   rw [List.map_map, show (Ty.nodes ∘ Ty.canon) = Ty.nodes from funext Ty.nodes_canon] at h1
   unfold sumN at hn
   omega
 obtain ⟨i, bs', ts', tv', mv', x, rfl, k1, k2, k3, k4, k5, k6, k7⟩ := hK.done hv (by omega)
 have hL := (LayM.of_memo hm).trans k2
 exact ⟨⟨i, bs', ts', tv', mv', x, rfl, h.step k1 hL, by omega, k4, k5, k6.trans hc, by omega⟩, fun D x hd => hL.memo.obj D _ hd (fun _ _ e => by cases e) (h.are.not_rec hd)⟩
attribute [local go_sem] Oper.semAt_some
def valsI {ps : List Nat} (pre : List (OneI ps)) : List Nat := pre.map (·.1)
theorem valsI_length {ps : List Nat} (pre : List (OneI ps)) : (valsI pre).length = pre.length := by unfold valsI; rw [List.length_map]
theorem valsI_snoc {ps : List Nat} (pre : List (OneI ps)) (y : OneI ps) : valsI (pre ++ [y]) = valsI pre ++ [y.1] := by unfold valsI; rw [List.map_append]; rfl
theorem say_three (r : Int) : r = 2 ∨ r = 1 ∨ ((r == 2) = false ∧ (r == 1) = false) := by
 by_cases h : r = 2
 · exact .inl h
 · by_cases h' : r = 1
   · exact .inr (.inl h')
   · exact .inr (.inr ⟨by simp [h], by simp [h']⟩)
section
variable {w : World} {kb qa lb M tb g : Nat} {cs : Array Value} {asked : Bool} {ps : List Nat} {R : Nat → Int → Prop} {pre : List (OneI ps)} {y : OneI ps} {rs : List Int} {W W' : World} {r : Int} {a : Act}
theorem cont_post (hu : Up W W') (hT : ToldN R (valsI pre) rs) (hI : KI w kb qa lb M cs asked (keptL asked (valsI pre) rs) W) (hr : R y.1 r) (hk : keepB r asked = false) :
   ownPostG M (TwoKeep fun x => x = tb ∨ x = g) (fun (pre : List (OneI ps)) W => ∃ rs, ToldN R (valsI pre) rs ∧ KI w kb qa lb M cs asked (keptL asked (valsI pre) rs) W) (fun _ _ _ => False) (pre ++ [y]) W Exit.normal a W' := by
 refine ⟨⟨hu.size, fun k o _ hk _ => hu.get hk⟩, (TwoKeep.refl _ _).up hu, rs ++ [r], ?_, ?_⟩
 · rw [valsI_snoc]
   exact hT.snoc hr
 · rw [valsI_snoc, keptL_snoc _ hT.len, hk, if_neg Bool.false_ne_true, List.append_nil]
   exact hI.on hu
theorem push_post {w7 : World} {v lv : Value} (hu : Up W W') (hM : w.heap.size ≤ M) (hz : w.heap.size ≤ kb ∧ qa = w.heap.size + 1 ∧ kb = w.heap.size + 2 ∧ kb + 1 < lb ∧ lb < M ∧ lb < tb) (hg2 : g < M ∧ tb < M ∧ (ps ≠ [] → g ≠ lb)) (hy : y.1 ∈ ps) (hT : ToldN R (valsI pre) rs) (hI : KI w kb qa lb M cs asked (keptL asked (valsI pre) rs) W)
   (hv : W.heap[lb]? = some (.cells #[v] ISlT (0, 0))) (hrow : W.ownsRow 0 IntL 1 v (keptL asked (valsI pre) rs).length ((keptL asked (valsI pre) rs).map numV)) (hvM : ∀ g, v.ownBlock = some g → M ≤ g) (hr : R y.1 r) (hk : keepB r asked = true)
   (hown : w7.ownsRow 0 IntL 1 lv ((keptL asked (valsI pre) rs).length + 1) ((keptL asked (valsI pre) rs).map numV ++ [.int .i64 y.1])) (hg : (W'.alloc (.cells #[.int .i64 y.1] IntL)).grownBy w7 v.ownBlock) (hb : lv.ownBlock = v.ownBlock ∨ ∃ g', lv.ownBlock = some g' ∧ W'.heap.size + 1 ≤ g') :
   ownPostG M (TwoKeep fun x => x = tb ∨ x = g) (fun (pre : List (OneI ps)) W => ∃ rs, ToldN R (valsI pre) rs ∧ KI w kb qa lb M cs asked (keptL asked (valsI pre) rs) W) (fun _ _ _ => False) (pre ++ [y]) W Exit.normal a (w7.setCell ⟨lb, 0, none⟩ lv) := by
 obtain ⟨q1, q2, q3⟩ := hI.push (by omega) hM ⟨by omega, by omega, by omega, by omega⟩ hu hv hrow hvM hown hg hb
 have hne : ps ≠ [] := List.ne_nil_of_mem hy
 refine ⟨⟨q2, fun k o hk ho hoc => q3 k o (by omega) (fun e => ?_) ho⟩, ⟨q2, fun x o hx ho hoc => q3 x o ?_ (fun e => ?_) ho⟩, rs ++ [r], ?_, ?_⟩
 · obtain ⟨cur, hc⟩ := row_blockI hrow e
   rw [hc] at ho
   cases ho
   cases hoc
 · rcases hx with rfl | rfl
   · omega
   · exact hg2.2.2 hne
 · have := hvM x e
   rcases hx with rfl | rfl <;> omega
 · rw [valsI_snoc]
   exact hT.snoc hr
 · rw [valsI_snoc, keptL_snoc _ hT.len, hk, if_pos rfl]
   exact q1
end
theorem parts_types {w : World} {B A : Nat} {bs : List Nat} {ts : List Ty} {tv mv dv : Value} (h : Are w B A bs ts tv mv dv) {i : Nat} {t : Ty} (ht : ts[i]? = some t) : ∃ vs : List Ty, (partsN ts i t).map (fun z => ts[z]?) = vs.map some ∧ vs.map Ty.canon = t.flat.map Ty.canon := by
 unfold partsN Ty.flat
 by_cases hk : t.kind = 16
 · rw [if_pos hk, if_pos hk]
   have hid : ∀ p ∈ t.parts, ∃ u, ts[idOf ts p]? = some u ∧ u.canon = p.canon := fun p hp => h.rows.id (List.mem_of_getElem? ht) hp
   have key : ∀ l : List Ty, (∀ p ∈ l, ∃ u, ts[idOf ts p]? = some u ∧ u.canon = p.canon) → ∃ vs : List Ty, (l.map (idOf ts)).map (fun z => ts[z]?) = vs.map some ∧ vs.map Ty.canon = l.map Ty.canon := by
     intro l
     induction l with
     | nil => exact fun _ => ⟨[], rfl, rfl⟩
     | cons p r ih =>
       intro hl
       obtain ⟨vs, e1, e2⟩ := ih fun q hq => hl q (List.mem_cons_of_mem _ hq)
       obtain ⟨u, hu, hc⟩ := hl p List.mem_cons_self
       exact ⟨u :: vs, by simp only [List.map_cons, hu]; rw [e1], by simp only [List.map_cons, hc, e2]⟩
   exact key t.parts hid
 · rw [if_neg hk, if_neg hk]
   exact ⟨[t], by simp [ht], rfl⟩
theorem sumN_canon {l m : List Ty} (h : l.map Ty.canon = m.map Ty.canon) : sumN l = sumN m := by
 have := congrArg (fun l => (l.map Ty.nodes).sum) h
 simp only [List.map_map] at this
 rw [show (Ty.nodes ∘ Ty.canon) = Ty.nodes from funext Ty.nodes_canon] at this
 exact this
theorem flat_nodes (t : Ty) : sumN t.flat ≤ t.nodes := by
 unfold Ty.flat
 split
 · cases t with
   | mk k n nm ps ns ms =>
     rw [Ty.nodes_mk]
     simp only [Ty.parts, sumN]
     omega
 · simp [sumN]
theorem kept_types (asked : Bool) {ts : List Ty} : ∀ (ps : List Nat) (rs : List Int) (vs : List Ty), ps.map (fun z => ts[z]?) = vs.map some → ∃ us : List Ty, (keptL asked ps rs).map (fun z => ts[z]?) = us.map some ∧ sumN us ≤ sumN vs
 | [], _, _, _ => ⟨[], by simp [keptL], by simp [sumN]⟩
 | _ :: _, [], _, _ => ⟨[], by simp [keptL], by simp [sumN]⟩
 | p :: ps, r :: rs, [], h => by simp at h
 | p :: ps, r :: rs, v :: vs, h => by
   simp only [List.map_cons, List.cons.injEq] at h
   obtain ⟨us, e1, e2⟩ := kept_types asked ps rs vs h.2
   unfold keptL at e1 ⊢
   simp only [List.zip_cons_cons, List.filter_cons]
   split
   · refine ⟨v :: us, ?_, ?_⟩
     · simp only [List.map_cons, h.1]
       rw [e1]
     · unfold sumN at e2 ⊢
       simp only [List.map_cons, List.sum_cons]
       omega
   · refine ⟨us, e1, ?_⟩
     unfold sumN at e2 ⊢
     simp only [List.map_cons, List.sum_cons]
     omega
set_option maxRecDepth 100000 in
set_option maxHeartbeats 6400000 in
theorem Keep_in (asked : Bool) (K T : Int) (s : ByteArray) (A : Nat) (bs : List Nat) (ts : List Ty) (tv mv : Value) (w0 w : World) (h : Sta w0 w A bs ts tv mv) {i : Nat} {t : Ty} (ht : ts[i]? = some t) (hb : bs.length ≤ 100000) (hn : t.nodes ≤ 400) (hK : K = 1 ∨ K = 3) (R : Nat → Int → Prop)
   (hsay : ∀ p ∈ partsN ts i t, ∀ (W : World) (kb : Nat), Up w W → W.heap[kb]? = some (.cells (testA A K s T 0) TesT (0, 0)) → Calls Tryz.prog 67 #[.pointer (some ⟨kb, 0, none⟩), .int .i64 p] W fun e w' => ∃ r : Int, e = .returned (.int .i64 r) ∧ Up W w' ∧ R p r)
   (hins : ∀ p ∈ partsN ts i t, ∀ (W : World) (kb : Nat), Up w W → W.heap[kb]? = some (.cells (testA A K s T 0) TesT (0, 0)) → asked = true → R p 2 → Calls Tryz.prog 68 #[.pointer (some ⟨kb, 0, none⟩), .int .i64 p] W fun e w' => e = .returned (.int .i64 p) ∧ Up W w') :
   Calls Tryz.prog 32 #[.pointer (some ⟨A, 0, none⟩), .int .i64 i, .agg #[.int .i64 K, .string s, .int .i64 T], .bool asked] w fun e w' => ∃ (rs : List Int) (us : List Ty), ToldN R (partsN ts i t) rs ∧ (keptL asked (partsN ts i t) rs).map (fun z => ts[z]?) = us.map some ∧ UnionQ w0 A bs ts (unionC (us.map Ty.canon)) (t.nodes + 1) e w' := by
 have HL := Lib.hid (fun W (hW : Up w W) => Len_in _ _ _ _ _ _ _ W (h.are.up hW))
 have HP := Lib.hid (fun W (hW : Up w W) => parts_any (h.are.up hW) ht)
 have hil : i < bs.length := by rw [← h.are.len]; exact (List.getElem?_eq_some_iff.1 ht).1
 have hpn : Hid ((partsN ts i t).length ≤ 100000) := by
   have hf := h.are.few (List.mem_of_getElem? ht)
   unfold Hid partsN
   split
   · rw [List.length_map]; omega
   · simp
 have HSA := Lib.hid (And.intro hsay hins)
 have HS := Lib.hid (And.intro h (And.intro ht (And.intro hb hn)))
 obtain ⟨ps, hps⟩ : ∃ ps, Hid (partsN ts i t = ps) := ⟨_, rfl⟩
 rw [hps.out] at HP HSA hpn
 clear h ht hsay hins
 refine callsIn_wide.1 (callsIn_of_wp_marks (n := 2) Tryz.func32 rfl trivial ?_)
 refine wpIn_wide.2 ?_
 simp only [Tryz.ntmps32, List.size_toArray, List.length_cons, List.length_nil, Nat.reduceAdd, Nat.reduceSub, Array.replicate_succ, Array.replicate_zero, List.push_toArray, List.append_toArray, List.nil_append, List.cons_append]
 go_upto_region 1 with (fail)
 refine wp_scope_straight ?_
 refine range_named fun A0 W0 hA0 hW0 => ?_
 have hu0 : Hid (Up w W0) := by subst hW0; exact uq
 obtain ⟨qt, hqt⟩ : ∃ q, Hid (w.heap.size = q) := ⟨_, rfl⟩
 obtain ⟨qa, hqa⟩ : ∃ q, Hid (w.heap.size + 1 = q) := ⟨_, rfl⟩
 have HT : Hid (W0.heap[qt]? = some (.cells #[.int .i64 K, .string s, .int .i64 T] 57 (0, 0))) := by subst hW0; rw [← hqt.out, alloc_old _ _ _ (by simp only [World.size_alloc]; omega)]; exact alloc_get _ _
 have HA : Hid (W0.heap[qa]? = some (.cells #[.bool asked] BooT (0, 0))) := by subst hW0; rw [← hqa.out]; exact alloc_at _ _ _ (by simp only [World.size_alloc])
 have hz0 : Hid (W0.heap.size = w.heap.size + 2) := by subst hW0; simp only [Hid, World.size_alloc]
 rw [hqa.out, hqt.out] at hA0
 clear hW0
 subst hA0
 have hs := HT.out
 have c0 := cell_of hs 0; have cf0 := ice_of hs 0; have c1 := cell_of hs 1; have cf1 := ice_of hs 1; have c2 := cell_of hs 2; have cf2 := ice_of hs 2; have cl := lt_of_heap hs; (try simp only [World.size_alloc, List.getElem?_toArray, List.getElem?_cons_zero, List.getElem?_cons_succ] at c0 cf0 c1 cf1 c2 cf2 cl); clear hs
 have k1 : ¬ K < 1 := by omega
 have k2 : ¬ 5 < K := by omega
 have k3 : (K == 2) = false := by simp; omega
 have k4 : (K == 5) = false := by simp; omega
 go_wp2_with (first | (go_at_call 45; refine (HL.out _ (hu0.out.trans (show Up W0 _ from uq))).mono ?_; rintro e w1 ⟨rfl, hu1⟩))
 apply wp_label
 clear k1 k2 k3 k4
 go_wp2_with (first | (go_at_call 66; refine (HP.out _ (hu0.out.trans (show Up W0 _ from uq))).mono ?_; rintro e w2 ⟨tb, g, rfl, hsq, htb, htg, hu2⟩))
 simp only [World.size_alloc] at htb
 have B1 : Hid (w2.heap[W0.heap.size]? = some (.cells (testA A K s T 0) TesT (0, 0))) := (show Up w1 w2 from uq).get (hu1.get (alloc_keep (alloc_get _ _)))
 have B2 : Hid (w2.heap[W0.heap.size + 1]? = some (.cells #[.pointer (some ⟨W0.heap.size, 0, none⟩)] TesP (0, 0))) := (show Up w1 w2 from uq).get (hu1.get (alloc_at _ _ _ (by simp only [World.size_alloc])))
 have B3 : Hid (w2.heap[qa]? = some (.cells #[.bool asked] BooT (0, 0))) := (show Up W0 w2 from uq).get HA.out
 have B4 : Hid (w2.heap[w1.heap.size]? = some (.cells #[.slice none 0 0] ISlT (0, 0))) := hu2.get (alloc_get _ _)
 have hs1 := hu1.size
 simp only [World.size_alloc] at hs1
 have hu02 : Hid (Up w w2) := hu0.out.trans (show Up W0 w2 from uq)
 obtain ⟨kb, hkb⟩ : ∃ q, Hid (W0.heap.size = q) := ⟨_, rfl⟩
 obtain ⟨lb, hlb⟩ : ∃ q, Hid (w1.heap.size = q) := ⟨_, rfl⟩
 have hZZ : Hid (w.heap.size ≤ kb ∧ qa = w.heap.size + 1 ∧ kb = w.heap.size + 2 ∧ kb + 1 < lb ∧ lb < w2.heap.size ∧ lb < tb) := by
   have e1 := hz0.out
   have e2 := hqa.out
   have e3 := lt_of_heap B4.out
   have e4 := hkb.out
   have e5 := hlb.out
   unfold Hid
   omega
 rw [hkb.out] at B1 B2
 rw [hlb.out] at B4
 have hseq : Hid (ISeqAt w2 tb g ps) := hsq
 have hgl : Hid (g < w2.heap.size ∧ tb < w2.heap.size ∧ (ps ≠ [] → g ≠ lb)) := by
   obtain ⟨off, cap, cs, T', fz, q1, q2, q3⟩ := hsq
   refine ⟨lt_of_heap q2, lt_of_heap q1, fun hne e => ?_⟩
   rw [e, B4.out] at q2
   cases q2
   cases ps with
   | nil => exact hne rfl
   | cons x r =>
     have := q3 0 x rfl
     cases off with
     | zero => simp [numV] at this
     | succ n => simp at this
 rw [hkb.out, hlb.out]
 have H0 : Hid (KI w kb qa lb w2.heap.size (testA A K s T 0) asked [] w2) := ⟨hu02.out, B1.out, B2.out, B3.out, ⟨_, B4.out, ⟨rfl, .inl ⟨rfl, rfl⟩⟩, fun g hg => by simp [Value.ownBlock] at hg⟩, Nat.le_refl _⟩
 clear hsq htb htg hu2 hu1 hs1 B1 B2 B3 B4 HT HA hz0
 refine range_named fun A2 W2 hA2 hW2 => ?_
 subst hW2
 refine (wpIn_wide (n := 2)).1 ?_
 refine wpIn_rangeFunc_ownG rfl (by omega) (gf := ivaluesF) (lb := #[.pointer (some ⟨tb, 0, none⟩)]) (by subst hA2; rfl) trivial (enters_of Tryz.func155 (by kernel_rfl) rfl)
   (ivalues_stops tb ps (by have := hpn.out; omega) W2 g hseq.out) TwoKeep.trans (fun W l o o' _ h1 h2 _ => TwoKeep.putObj _ W l o o' h1 h2) (Below.refl _ _) (fun _ => rfl)
   (fun (pre : List (OneI ps)) W => ∃ rs, ToldN R (valsI pre) rs ∧ KI w kb qa lb W2.heap.size (testA A K s T 0) asked (keptL asked (valsI pre) rs) W) (fun _ _ _ => False)
   (fun pre0 X Y row hs hg hr => hs.imp fun rs h => ⟨h.1, h.2.own hu02.out.size hg hr⟩) (fun _ _ _ _ _ h _ _ => h) ⟨[], ToldN.nil R, H0.out⟩
   (fun (y : OneI ps) => { tmps := (A2.tmps.setIfInBounds 66 (.int .i64 y.1)).setIfInBounds 14 (.int .i64 y.1), defers := [] }) ?assign ?body ?done ?stop
 case assign => intro l y W K hK; subst hA2; gi_wp2; simpa [numV] using hK
 case body =>
   rintro l pre ⟨y, hy⟩ W ⟨rs, hT, hI⟩ hpl
   obtain ⟨v, hv, hrow, hvM⟩ := hI.row
   obtain ⟨va, vcap, rfl⟩ := ownsRow_form hrow
   have hnn := keptL_few asked (valsI pre) rs
   rw [valsI_length] at hnn
   have HI := Lib.hid (And.intro hT (And.intro hI (And.intro hv (And.intro hrow hvM))))
   have hpl2 : Hid (pre.length < ps.length) := hpl
   obtain ⟨nn, hn⟩ : ∃ nn, Hid ((keptL asked (valsI pre) rs).length = nn) := ⟨_, rfl⟩
   rw [hn.out] at hv hrow hnn
   have hnb : nn ≤ 100000 := by have := hpl2.out; have := hpn.out; omega
   obtain ⟨vs, hvs⟩ : ∃ vs, Hid ((keptL asked (valsI pre) rs).map numV = vs) := ⟨_, rfl⟩
   rw [hvs.out] at hrow
   have HR := Lib.hid hrow
   have b2 := cell_of hI.b2 0
   have b3 := cell_of hI.b3 0
   have b4 := cell_of hv 0
   have l2 := lt_of_heap hI.b2
   have l3 := lt_of_heap hI.b3
   have l4 := lt_of_heap hv
   simp only [List.getElem?_toArray, List.getElem?_cons_zero, List.getElem?_cons_succ] at b2 b3 b4
   have HV := Lib.hid hv
   have HY := Lib.hid hy
   clear hT hI hv hrow hvM hpl hnn
   subst hA2
   simp only [List.setIfInBounds_toArray, List.set_cons_succ, List.set_cons_zero]
   have HZ : Hid ((Value.slice va nn vcap).ownBlock ≠ some lb) := fun e => by
     obtain ⟨cur, hc⟩ := row_blockI HR.out e
     rw [HV.out] at hc
     injection hc with hc
     injection hc with _ hc _
     exact absurd hc (by decide)
   obtain ⟨i0, hi, hz0, hz1, hz2⟩ := info_parts int_info
   cases asked
   all_goals (
     gi_wp2_with (first
       | (refine ⟨trivial, rfl, ?_⟩; gi_at_call 67; refine (CallsIn.inRound l (callsIn_wide.2 (HSA.out.1 y HY.out _ kb (HI.out.2.1.up.trans (show Up W _ from uq)) ((show Up W _ from uq).get HI.out.2.1.b1)))).mono ?_; rintro e W3 ⟨r, rfl, hu3, hr⟩; have HRR := Lib.hid hr; clear hr; have U := (show Up W W3 from uq); have hIW3 := Lib.hid (HI.out.2.1.on U); have b2 := cell_of hIW3.out.b2 0; have b3 := cell_of hIW3.out.b3 0; have hvW3 := Lib.hid (U.get HV.out); have b4 := cell_of hvW3.out 0; have f4 := ice_of hvW3.out 0; have l2 := lt_of_heap hIW3.out.b2; have l3 := lt_of_heap hIW3.out.b3; have l4 := lt_of_heap hvW3.out; simp only [List.getElem?_toArray, List.getElem?_cons_zero, List.getElem?_cons_succ] at b2 b3 b4; clear U; rcases say_three r with rfl | rfl | ⟨q1, q2⟩)
       | (refine ⟨trivial, rfl, ?_⟩; gi_at_call 68; refine (CallsIn.inRound l (callsIn_wide.2 (HSA.out.2 y HY.out _ kb (HI.out.2.1.up.trans (show Up W _ from uq)) ((show Up W _ from uq).get HI.out.2.1.b1) (by first | rfl | trivial) HRR.out))).mono ?_; rintro e W4 ⟨rfl, hu4⟩; have U := (show Up W W4 from uq); have hIW4 := Lib.hid (HI.out.2.1.on U); have b2 := cell_of hIW4.out.b2 0; have b3 := cell_of hIW4.out.b3 0; have hvW4 := Lib.hid (U.get HV.out); have b4 := cell_of hvW4.out 0; have f4 := ice_of hvW4.out 0; have l2 := lt_of_heap hIW4.out.b2; have l3 := lt_of_heap hIW4.out.b3; have l4 := lt_of_heap hvW4.out; simp only [List.getElem?_toArray, List.getElem?_cons_zero, List.getElem?_cons_succ] at b2 b3 b4; clear U)
       | (gi_at_builtin; go_must (refine wpListIn_append_new rfl _ _ 43 rfl IntL i0 (.int .i64 0) 1 8 Tryz.underlying43 hi hz0 hz1 hz2 rfl (by decide) (.slice va nn vcap) nn vs rfl (ownsRow_up HR.out uq) _ 1 1 rfl (by first | rfl | (simp; done) | omega) rfl (by intro u hu; have hu2 : u = .int .i64 y := (by simpa using hu); rw [hu2]; rfl) (by unfold maxLen; omega) (by omega) ?_; intro sa' cap' w7 hown' hgrow hblk; have hd := Lib.hid (grown_get hgrow (Up.get (w := W) uq HV.out) HZ.out); have b4 := cell_of hd.out 0; have f4 := ice_of hd.out 0; have l4 := lt_of_heap hd.out; simp only [List.getElem?_toArray, List.getElem?_cons_zero, List.getElem?_cons_succ] at b4; have HY7 := Lib.hid (And.intro hown' (And.intro hgrow hblk)); clear hown' hgrow hblk))))
   all_goals (have hn9 := hn.out; have hv9 := hvs.out; subst hn9 hv9)
   all_goals first
     | exact push_post (show Up W _ from uq) hu02.out.size hZZ.out hgl.out hy HI.out.1 HI.out.2.1 HI.out.2.2.1 HI.out.2.2.2.1 HI.out.2.2.2.2 HRR.out (by first | decide | (unfold keepB; rw [q1, q2]; rfl)) HY7.out.1 HY7.out.2.1 HY7.out.2.2
     | (exfalso; simp_all; done)
     | exact cont_post (show Up W _ from uq) HI.out.1 HI.out.2.1 HRR.out (by first | decide | (unfold keepB; rw [q1, q2]; rfl))
 case done =>
   rintro D zs W hD hzs ⟨rs, hT, hI⟩ hK
   have hzs : valsI zs = ps := hzs
   rw [hzs] at hT hI
   obtain ⟨v, hv, hrow, hvM⟩ := hI.row
   obtain ⟨va, vcap, rfl⟩ := ownsRow_form hrow
   have HI := Lib.hid (And.intro hT (And.intro hI (And.intro hv (And.intro hrow hvM))))
   have b1 := cell_of hI.b1 4
   have b2 := cell_of hI.b2 0
   have b4 := cell_of hv 0
   have l1 := lt_of_heap hI.b1
   have l2 := lt_of_heap hI.b2
   have l4 := lt_of_heap hv
   simp only [List.getElem?_toArray, List.getElem?_cons_zero, List.getElem?_cons_succ] at b1 b2 b4
   clear hT hI hv hrow hvM
   obtain ⟨vs, hvs, hvc⟩ := parts_types HS.out.1.are HS.out.2.1
   rw [hps.out] at hvs
   obtain ⟨us, hus, hun⟩ := kept_types asked ps rs vs hvs
   have hsn : Hid (1 + sumN us ≤ t.nodes + 1) := by
     have h1 := sumN_canon hvc
     have h2 := flat_nodes t
     unfold Hid
     omega
   have HU := Lib.hid (union_own_sta (HS.out.1.later HI.out.2.1.up) HI.out.2.2.2.1 rfl hus hsn.out (by have := HS.out.2.2.2; omega) HS.out.2.2.1)
   have HUS := Lib.hid hus
   clear hvs hvc hun hus
   subst hA2
   go_wp2_with fail
   refine HU.out.mono ?_
   rintro e w9 ⟨⟨i9, bs9, ts9, tv9, mv9, X9, rfl, q9⟩, hD9⟩
   have HQ := Lib.hid (And.intro q9 (hD9 D _ hK))
   clear q9 hD9
   go_wp2_with fail
   refine ⟨by simp, .inl ⟨_, _, rfl, run_takeDeferred HQ.out.2, ?_⟩⟩
   refine ⟨.tuple #[.int .i64 i9, .int .i64 0], by simp [results, Tryz.results32, go_sem], ?_⟩
   exact ⟨rs, us, by rw [hps.out]; exact HI.out.1, by rw [hps.out]; exact HUS.out, i9, bs9, ts9, tv9, mv9, X9, rfl, HQ.out.1.1.drop (Nat.le_trans HS.out.1.up.size (Nat.le_trans hu02.out.size hD)) HQ.out.2, HQ.out.1.2⟩
 case stop => rintro D c pre W hD hSp h hK; exact h.elim
end Go.Proofs.YtiaepldmgighbaaGreatDoor
namespace Go.Proofs.YtiaepldmgighbaaGreatDoor
open Go.RowKit
set_option linter.unusedSimpArgs false
set_option linter.unusedVariables false
theorem post_named {P : Program} {fn : Func} {R : Ending → World → Prop} {e : Exit} {a : Act} {w : World} (h : ∀ W, w = W → bodyPost P fn R e a W) : bodyPost P fn R e a w := h w rfl
set_option maxRecDepth 100000 in
set_option maxHeartbeats 3200000 in
theorem Keep_nil (i K T : Int) (s : ByteArray) (b : Bool) (w : World) : Calls Tryz.prog 32 #[.pointer none, .int .i64 i, .agg #[.int .i64 K, .string s, .int .i64 T], .bool b] w fun e w' => e = .returned (.tuple #[.int .i64 0, .int .i64 1]) ∧ Up w w' := by
 go_enter Tryz.func32, Tryz.ntmps32
 go_upto_region 1 with (fail)
 refine wp_scope_straight ?_
 go_wp2_with fail
 rw [Exit.noGoto_ret]
 refine bodyPost_ret (v := .tuple #[.int .i64 0, .int .i64 1]) (by simp [results, Tryz.results32, go_sem]) rfl ?_
 exact ⟨rfl, uq⟩
set_option maxRecDepth 100000 in
set_option maxHeartbeats 3200000 in
theorem Assigned_nil (i j : Int) (w : World) : Calls Tryz.prog 43 #[.pointer none, .int .i64 i, .int .i64 j] w fun e w' => e = .returned (.tuple #[.int .i64 0, .int .i64 1]) ∧ Up w w' := by
 go_enter Tryz.func43, Tryz.ntmps43
 go_wp2_with fail
 refine bodyPost_ret (v := .tuple #[.int .i64 0, .int .i64 1]) (by simp [results, Tryz.results43, go_sem]) rfl ?_
 exact ⟨rfl, uq⟩
theorem has_out (dv : Value) (A n tcap : Nat) (ta : Option Addr) (mv : Value) (z : Int) (hz : z < 0 ∨ (n : Int) ≤ z) (w : World) (hA : w.heap[A]? = some (.cells #[.slice ta n tcap, mv, dv] ArT (0, 0))) :
   Calls Tryz.prog 60 #[.pointer (some ⟨A, 0, none⟩), .int .i64 z] w fun e w' => e = .returned (.bool false) ∧ Up w w' := by
 have a0 := cell_of hA 0
 have a4 := lt_of_heap hA
 simp only [List.getElem?_toArray, List.getElem?_cons_zero, List.getElem?_cons_succ] at a0
 clear hA
 by_cases h0 : z < 0
 · have h1 : ¬ 0 ≤ z := by omega
   go_enter Tryz.func60, Tryz.ntmps60
   go_wp2_with fail
   go_ret
   exact ⟨rfl, uq⟩
 · have h1 : 0 ≤ z := by omega
   have h2 : ¬ z < n := by omega
   clear hz
   go_enter Tryz.func60, Tryz.ntmps60
   go_wp2_with fail
   (try go_quiet (fail))
   (try go_wp2_with fail)
   go_ret
   exact ⟨rfl, uq⟩
theorem single_any (k : Int) (w : World) : Calls Tryz.prog 65 #[.int .i64 k] w fun e w' => e = .returned (.bool (k == 11 || k == 12 || k == 9 || k == 10 || k == 5 || k == 6 || k == 20)) ∧ w' = w := by
 go_enter Tryz.func65, Tryz.ntmps65
 go_wp2_with fail
 all_goals go_ret
 all_goals exact ⟨by simp_all, rfl⟩
set_option maxRecDepth 100000 in
set_option maxHeartbeats 3200000 in
theorem At_out {w : World} {B A : Nat} {bs : List Nat} {ts : List Ty} {tv mv dv : Value} (h : Are w B A bs ts tv mv dv) {i : Int} (hi : ¬ (0 ≤ i ∧ i < bs.length)) :
   Calls Tryz.prog 64 #[.pointer (some ⟨A, 0, none⟩), .int .i64 i] w fun e w' => e = .returned (.tuple #[.agg #[.int .i64 0, .int .i64 0, .string ⟨#[]⟩, .slice none 0 0, .slice none 0 0, .slice none 0 0], .int .i64 11]) ∧ Up w w' := by
 obtain ⟨ta, tcap, hta⟩ := ownsRow_form h.row
 subst hta
 have hH := Lib.hid h.head
 have hi2 : i < 0 ∨ (bs.length : Int) ≤ i := by omega
 clear h
 go_enter Tryz.func64, Tryz.ntmps64
 go_wp2_with fail
 refine wp_scope_straight ?_
 go_wp2_with (first | (go_at_call 60; refine (has_out dv A _ tcap _ _ i hi2 _ (Up.get (show Up w _ from uq) hH.out)).mono ?_; rintro e w2 ⟨rfl, hu2⟩; have s1 := hu2.get (alloc_get _ _); (try simp only [World.size_alloc] at s1); have HB := Lib.hid s1; have q0 := cell_of s1 0; have p0 := ice_of s1 0; have q1 := cell_of s1 1; have p1 := ice_of s1 1; have q2 := cell_of s1 2; have p2 := ice_of s1 2; have q3 := cell_of s1 3; have p3 := ice_of s1 3; have q4 := cell_of s1 4; have p4 := ice_of s1 4; have q5 := cell_of s1 5; have p5 := ice_of s1 5; have q9 := lt_of_heap s1; (try simp only [World.size_alloc, List.getElem?_toArray, List.getElem?_cons_zero, List.getElem?_cons_succ] at q0 q1 q2 q3 q4 q5 p0 p1 p2 p3 p4 p5 q9); clear s1; have u2 : Up w w2 := uq))
 rw [Exit.noGoto_ret]
 refine bodyPost_ret (v := .tuple #[.agg #[.int .i64 0, .int .i64 0, .string ⟨#[]⟩, .slice none 0 0, .slice none 0 0, .slice none 0 0], .int .i64 11]) (by simp [results, Tryz.results64, go_sem, *]) rfl ?_
 exact ⟨rfl, uq⟩
set_option maxRecDepth 100000 in
set_option maxHeartbeats 3200000 in
theorem Keep_is_none {w : World} {B A : Nat} {bs : List Nat} {ts : List Ty} {tv mv dv : Value} (h : Are w B A bs ts tv mv dv) {j : Nat} {t : Ty} (ht : ts[j]? = some t) (hk : t.kind = 7) (i : Int) (s : ByteArray) (b : Bool) :
   Calls Tryz.prog 32 #[.pointer (some ⟨A, 0, none⟩), .int .i64 i, .agg #[.int .i64 2, .string s, .int .i64 j], .bool b] w fun e w' => e = .returned (.tuple #[.int .i64 0, .int .i64 1]) ∧ Up w w' := by
 have HA := Lib.hid (fun W (hW : Up w W) => At_any (h.up hW) ht)
 clear h ht
 go_enter Tryz.func32, Tryz.ntmps32
 go_upto_region 1 with (fail)
 refine wp_scope_straight ?_
 refine range_named fun A0 W0 hA0 hW0 => ?_
 have hu0 : Hid (Up w W0) := by subst hW0; exact uq
 obtain ⟨qt, hqt⟩ : ∃ q, Hid (w.heap.size = q) := ⟨_, rfl⟩
 have HT : Hid (W0.heap[qt]? = some (.cells #[.int .i64 2, .string s, .int .i64 j] 57 (0, 0))) := by subst hW0; rw [← hqt.out, alloc_old _ _ _ (by simp only [World.size_alloc]; omega)]; exact alloc_get _ _
 rw [hqt.out] at hA0
 clear hW0
 subst hA0
 have hs := HT.out
 have c0 := cell_of hs 0; have cf0 := ice_of hs 0; have c1 := cell_of hs 1; have cf1 := ice_of hs 1; have c2 := cell_of hs 2; have cf2 := ice_of hs 2; have cl := lt_of_heap hs; (try simp only [World.size_alloc, List.getElem?_toArray, List.getElem?_cons_zero, List.getElem?_cons_succ] at c0 cf0 c1 cf1 c2 cf2 cl); clear hs
 go_wp2_with (first
   | (go_at_call 64; refine (HA.out _ (hu0.out.trans (show Up W0 _ from uq))).mono ?_; rintro e w2 ⟨pa, pc, na, nc, ma, mc, rfl, hv2, hu2⟩; (try simp only [hk]); clear hv2)
   | (go_at_call 65; refine (single_any _ _).mono ?_; rintro e w3 ⟨rfl, rfl⟩))
 rw [Exit.noGoto_ret]
 refine bodyPost_ret (v := .tuple #[.int .i64 0, .int .i64 1]) (by simp [results, Tryz.results32, go_sem]) rfl ?_
 exact ⟨rfl, hu0.out.trans (show Up W0 _ from uq)⟩
set_option maxRecDepth 100000 in
set_option maxHeartbeats 3200000 in
theorem Keep_out {w : World} {B A : Nat} {bs : List Nat} {ts : List Ty} {tv mv dv : Value} (h : Are w B A bs ts tv mv dv) {i : Int} (hi : ¬ (0 ≤ i ∧ i < bs.length)) (s : ByteArray) (T : Int) (b : Bool) :
   Calls Tryz.prog 32 #[.pointer (some ⟨A, 0, none⟩), .int .i64 i, .agg #[.int .i64 3, .string s, .int .i64 T], .bool b] w fun e w' => e = .returned (.tuple #[.int .i64 0, .int .i64 11]) ∧ Up w w' := by
 have HL := Lib.hid (fun W (hW : Up w W) => Len_in _ _ _ _ _ _ _ W (h.up hW))
 clear h
 go_enter Tryz.func32, Tryz.ntmps32
 go_upto_region 1 with (fail)
 refine wp_scope_straight ?_
 refine range_named fun A0 W0 hA0 hW0 => ?_
 have hu0 : Hid (Up w W0) := by subst hW0; exact uq
 obtain ⟨qt, hqt⟩ : ∃ q, Hid (w.heap.size = q) := ⟨_, rfl⟩
 have HT : Hid (W0.heap[qt]? = some (.cells #[.int .i64 3, .string s, .int .i64 T] 57 (0, 0))) := by subst hW0; rw [← hqt.out, alloc_old _ _ _ (by simp only [World.size_alloc]; omega)]; exact alloc_get _ _
 rw [hqt.out] at hA0
 clear hW0
 subst hA0
 have hs := HT.out
 have c0 := cell_of hs 0; have cf0 := ice_of hs 0; have c1 := cell_of hs 1; have cf1 := ice_of hs 1; have c2 := cell_of hs 2; have cf2 := ice_of hs 2; have cl := lt_of_heap hs; (try simp only [World.size_alloc, List.getElem?_toArray, List.getElem?_cons_zero, List.getElem?_cons_succ] at c0 cf0 c1 cf1 c2 cf2 cl); clear hs
 have hi2 : i < 0 ∨ (¬ i < 0 ∧ (bs.length : Int) ≤ i) := by omega
 rcases hi2 with h0 | ⟨h0, h1⟩
 · go_wp2_with (first | (go_at_call 45; refine (HL.out _ (hu0.out.trans (show Up W0 _ from uq))).mono ?_; rintro e w1 ⟨rfl, hu1⟩))
   all_goals rw [Exit.noGoto_ret]
   all_goals refine bodyPost_ret (v := .tuple #[.int .i64 0, .int .i64 11]) (by simp [results, Tryz.results32, go_sem]) rfl ?_
   all_goals exact ⟨rfl, hu0.out.trans (show Up W0 _ from uq)⟩
 · go_wp2_with (first | (go_at_call 45; refine (HL.out _ (hu0.out.trans (show Up W0 _ from uq))).mono ?_; rintro e w1 ⟨rfl, hu1⟩))
   all_goals rw [Exit.noGoto_ret]
   all_goals refine bodyPost_ret (v := .tuple #[.int .i64 0, .int .i64 11]) (by simp [results, Tryz.results32, go_sem]) rfl ?_
   all_goals exact ⟨rfl, hu0.out.trans (show Up W0 _ from uq)⟩
set_option maxRecDepth 100000 in
set_option maxHeartbeats 3200000 in
theorem Assigned_plain {w : World} {B A : Nat} {bs : List Nat} {ts : List Ty} {tv mv dv : Value} (h : Are w B A bs ts tv mv dv) {i j : Nat} {t u : Ty} (ht : ts[i]? = some t) (hu : ts[j]? = some u) (hk : t.kind ≠ 16) :
   Calls Tryz.prog 43 #[.pointer (some ⟨A, 0, none⟩), .int .i64 i, .int .i64 j] w fun e w' => e = .returned (.tuple #[.int .i64 i, .int .i64 0]) ∧ Up w w' := by
 have HA := Lib.hid (fun W (hW : Up w W) => At_any (h.up hW) ht)
 have HB := Lib.hid (fun W (hW : Up w W) => At_any (h.up hW) hu)
 have hk' : (t.kind == 16) = false := by simp [hk]
 clear h ht hu
 go_enter Tryz.func43, Tryz.ntmps43
 go_upto_region 1 with (fail)
 refine range_named fun A0 W0 hA0 hW0 => ?_
 have hu0 : Hid (Up w W0) := by subst hW0; exact uq
 have HQ : Hid (W0.heap[w.heap.size]? = some (.cells #[.pointer (some ⟨A, 0, none⟩)] 25 (0, 0)) ∧ W0.heap[w.heap.size + 1]? = some (.cells #[.int .i64 0] 3 (0, 0)) ∧ W0.heap[w.heap.size + 1 + 1]? = some (.cells #[.int .i64 0] 22 (0, 0))) := by
   subst hW0
   exact ⟨alloc_keep (alloc_keep (alloc_get _ _)), alloc_keep (alloc_at _ _ _ (by simp only [World.size_alloc])), alloc_at _ _ _ (by simp only [World.size_alloc])⟩
 obtain ⟨q, hq⟩ : ∃ q, Hid (w.heap.size = q) := ⟨_, rfl⟩
 rw [hq.out] at HQ hA0
 have hqw : w.heap.size ≤ q := by rw [hq.out]; exact Nat.le_refl _
 clear hW0
 subst hA0
 have s0 := cell_of HQ.out.1 0
 have l0 := lt_of_heap HQ.out.1
 simp only [List.getElem?_toArray, List.getElem?_cons_zero] at s0
 go_wp2_with fail
 refine (HA.out _ (hu0.out.trans (show Up W0 _ from uq))).mono ?_
 rintro e w2 ⟨pa, pc, na, nc, ma, mc, rfl, hv2, hu2⟩
 clear hv2
 have U := (show Up W0 w2 from uq); have s0 := cell_of (U.get HQ.out.1) 0; have l0 := lt_of_heap (U.get HQ.out.1); simp only [List.getElem?_toArray, List.getElem?_cons_zero] at s0; clear U
 go_wp2_with fail
 refine (HB.out _ (hu0.out.trans (show Up W0 _ from uq))).mono ?_
 rintro e w3 ⟨pa', pc', na', nc', ma', mc', rfl, hv3, hu3⟩
 clear hv3 s0 l0
 have U := (show Up W0 w3 from uq)
 have sx := hu3.get (alloc_get _ _)
 have x0 := cell_of sx 0
 have xl := lt_of_heap sx
 have s1 := cell_of (U.get HQ.out.2.1) 0
 have f1 := ice_of (U.get HQ.out.2.1) 0
 have l1 := lt_of_heap (U.get HQ.out.2.1)
 have s2 := cell_of (U.get HQ.out.2.2) 0
 have f2 := ice_of (U.get HQ.out.2.2) 0
 have l2 := lt_of_heap (U.get HQ.out.2.2)
 simp only [List.getElem?_toArray, List.getElem?_cons_zero] at x0 s1 s2
 obtain ⟨k, hkk⟩ : ∃ k, Hid (t.kind = k) := ⟨_, rfl⟩
 rw [hkk.out] at hk' x0
 have R1 := Lib.hid (And.intro (U.get HQ.out.2.1) (U.get HQ.out.2.2))
 clear sx U
 go_wp2_with fail
 refine post_named fun W9 hW9 => ?_
 have r1 : W9.cell? ⟨q + 1, 0, none⟩ = some (.int .i64 i) := by
   subst hW9
   have h1 := setCell_block (i := 0) R1.out.1 (.int .i64 i)
   exact cell_of (alloc_keep ((setCell_other (by omega) _).trans h1)) 0
 have r2 : W9.cell? ⟨q + 1 + 1, 0, none⟩ = some (.int .i64 0) := by
   subst hW9
   have h1 := (setCell_other (b := q + 1) (c := q + 1 + 1) (i := 0) (by omega) (.int .i64 i)).trans R1.out.2
   exact cell_of (alloc_keep (setCell_block (i := 0) h1 (.int .i64 0))) 0
 have hu9 : Hid (Up w W9) := by
   subst hW9
   have h1 : Up w w3 := hu0.out.trans (show Up W0 w3 from uq)
   exact ((h1.setCell (show w.heap.size ≤ q + 1 by omega) _).setCell (show w.heap.size ≤ q + 1 + 1 by omega) _).alloc _
 clear hW9
 refine bodyPost_ret (v := .tuple #[.int .i64 i, .int .i64 0]) (by simp [results, Tryz.results43, go_sem, *]) rfl ?_
 exact ⟨rfl, hu9.out⟩
set_option maxRecDepth 100000 in
set_option maxHeartbeats 3200000 in
theorem Assigned_out {w : World} {B A : Nat} {bs : List Nat} {ts : List Ty} {tv mv dv : Value} (h : Are w B A bs ts tv mv dv) {i : Int} {j : Nat} {u : Ty} (hi : ¬ (0 ≤ i ∧ i < bs.length)) (hu : ts[j]? = some u) :
   Calls Tryz.prog 43 #[.pointer (some ⟨A, 0, none⟩), .int .i64 i, .int .i64 j] w fun e w' => e = .returned (.tuple #[.int .i64 0, .int .i64 11]) ∧ Up w w' := by
 have HA := Lib.hid (fun W (hW : Up w W) => At_out (h.up hW) hi)
 have HB := Lib.hid (fun W (hW : Up w W) => At_any (h.up hW) hu)
 clear h hu
 go_enter Tryz.func43, Tryz.ntmps43
 go_upto_region 1 with (fail)
 refine range_named fun A0 W0 hA0 hW0 => ?_
 have hu0 : Hid (Up w W0) := by subst hW0; exact uq
 have HQ : Hid (W0.heap[w.heap.size]? = some (.cells #[.pointer (some ⟨A, 0, none⟩)] 25 (0, 0)) ∧ W0.heap[w.heap.size + 1]? = some (.cells #[.int .i64 0] 3 (0, 0)) ∧ W0.heap[w.heap.size + 1 + 1]? = some (.cells #[.int .i64 0] 22 (0, 0))) := by
   subst hW0
   exact ⟨alloc_keep (alloc_keep (alloc_get _ _)), alloc_keep (alloc_at _ _ _ (by simp only [World.size_alloc])), alloc_at _ _ _ (by simp only [World.size_alloc])⟩
 obtain ⟨q, hq⟩ : ∃ q, Hid (w.heap.size = q) := ⟨_, rfl⟩
 rw [hq.out] at HQ hA0
 have hqw : w.heap.size ≤ q := by rw [hq.out]; exact Nat.le_refl _
 clear hW0
 subst hA0
 have s0 := cell_of HQ.out.1 0
 have l0 := lt_of_heap HQ.out.1
 simp only [List.getElem?_toArray, List.getElem?_cons_zero] at s0
 go_wp2_with fail
 refine (HA.out _ (hu0.out.trans (show Up W0 _ from uq))).mono ?_
 rintro e w2 ⟨rfl, hu2⟩
 have U := (show Up W0 w2 from uq); have s0 := cell_of (U.get HQ.out.1) 0; have l0 := lt_of_heap (U.get HQ.out.1); simp only [List.getElem?_toArray, List.getElem?_cons_zero] at s0; clear U
 go_wp2_with fail
 refine (HB.out _ (hu0.out.trans (show Up W0 _ from uq))).mono ?_
 rintro e w3 ⟨pa', pc', na', nc', ma', mc', rfl, hv3, hu3⟩
 clear hv3 s0 l0
 have U := (show Up W0 w3 from uq)
 have s1 := cell_of (U.get HQ.out.2.1) 0
 have f1 := ice_of (U.get HQ.out.2.1) 0
 have l1 := lt_of_heap (U.get HQ.out.2.1)
 have s2 := cell_of (U.get HQ.out.2.2) 0
 have f2 := ice_of (U.get HQ.out.2.2) 0
 have l2 := lt_of_heap (U.get HQ.out.2.2)
 simp only [List.getElem?_toArray, List.getElem?_cons_zero] at s1 s2
 have R1 := Lib.hid (And.intro (U.get HQ.out.2.1) (U.get HQ.out.2.2))
 clear U
 go_wp2_with fail
 refine post_named fun W9 hW9 => ?_
 have r1 : W9.cell? ⟨q + 1, 0, none⟩ = some (.int .i64 0) := by
   subst hW9
   have h1 := setCell_block (i := 0) R1.out.1 (.int .i64 0)
   exact cell_of (alloc_keep ((setCell_other (by omega) _).trans h1)) 0
 have r2 : W9.cell? ⟨q + 1 + 1, 0, none⟩ = some (.int .i64 11) := by
   subst hW9
   have h1 := (setCell_other (b := q + 1) (c := q + 1 + 1) (i := 0) (by omega) (.int .i64 0)).trans R1.out.2
   exact cell_of (alloc_keep (setCell_block (i := 0) h1 (.int .i64 11))) 0
 have hu9 : Hid (Up w W9) := by
   subst hW9
   have h1 : Up w w3 := hu0.out.trans (show Up W0 w3 from uq)
   exact ((h1.setCell (show w.heap.size ≤ q + 1 by omega) _).setCell (show w.heap.size ≤ q + 1 + 1 by omega) _).alloc _
 clear hW9
 refine bodyPost_ret (v := .tuple #[.int .i64 0, .int .i64 11]) (by simp [results, Tryz.results43, go_sem, *]) rfl ?_
 exact ⟨rfl, hu9.out⟩
abbrev nuT : Ty := basicT 7
abbrev stT : Ty := basicT 8
theorem basic_fc {k : Int} (h1 : 1 ≤ k) (h2 : k ≤ 10) (h : k ≠ 1 ∧ k ≠ 4 ∧ k ≠ 17 ∧ k ≠ 19 ∧ k ≠ 20) : FC (basicT k) :=
 ⟨⟨.basic h1 h2, by unfold basicT; rw [Ty.canon_mk, if_neg (by omega)]; rfl⟩, free_basic h⟩
theorem nu_fc : FC nuT := basic_fc (by decide) (by decide) (by decide)
theorem st_fc : FC stT := basic_fc (by decide) (by decide) (by decide)
theorem union_two_parts : ∃ L, unionC [nuT, stT] = .mk 16 0 ⟨#[]⟩ L [] [] ∧ ∀ z, z ∈ L ↔ z = nuT ∨ z = stT := by
 have hfc : ∀ t ∈ [nuT, stT], FC t := fun t ht => by
   simp only [List.mem_cons, List.not_mem_nil, or_false] at ht
   rcases ht with rfl | rfl
   · exact nu_fc
   · exact st_fc
 have hfl : ∀ z, z ∈ [nuT, stT].flatMap Ty.flat ↔ z = nuT ∨ z = stT := fun z => by
   simp only [List.flatMap_cons, List.flatMap_nil, List.append_nil, List.mem_append]
   have e1 : nuT.flat = [nuT] := by unfold Ty.flat; rw [if_neg (by decide)]
   have e2 : stT.flat = [stT] := by unfold Ty.flat; rw [if_neg (by decide)]
   rw [e1, e2]
   simp
 have hne : nuT ≠ stT := fun e => by
   have := congrArg Ty.kind e
   exact absurd this (by decide)
 rcases union_stands hfc with ⟨⟨x, hx, hk⟩, _⟩ | ⟨_, L, e, hL⟩
 · rcases (hfl x).1 hx with rfl | rfl <;> exact absurd hk (by decide)
 · have hm : ∀ z, z ∈ L ↔ z = nuT ∨ z = stT := fun z => by
     rw [hL, hfl]
     refine ⟨fun h => h.1, fun h => ⟨h, ?_⟩⟩
     have hk : z.kind = 7 ∨ z.kind = 8 := by rcases h with rfl | rfl <;> decide
     unfold Goes
     omega
   rw [e]
   rcases wrapU_cases L with ⟨rfl, _⟩ | ⟨x, rfl, _⟩ | ⟨_, e2⟩
   · have := (hm nuT).2 (.inl rfl)
     cases this
   · have h1 := (hm nuT).2 (.inl rfl)
     have h2 := (hm stT).2 (.inr rfl)
     exact absurd ((List.mem_singleton.1 h1).trans (List.mem_singleton.1 h2).symm) hne
   · exact ⟨L, e2, hm⟩
theorem one_number {F : List Ty} (h : ∀ x ∈ F, x = nuT) (hne : F ≠ []) : unionF F = nuT := by
 have hm : ∀ z ∈ sortU (restU F), z = nuT := fun z hz => h z (restU_mem.1 (sortU_sub _ z hz)).1
 have hF : nuT ∈ F := by
   cases F with
   | nil => exact absurd rfl hne
   | cons x r => rw [← h x (by simp)]; simp
 have hn : ¬ Goes F nuT := by
   unfold Goes
   have : nuT.kind = 7 := rfl
   omega
 have hin : nuT ∈ sortU (restU F) := (sortU_mem _ (fun a ha b hb _ => by rw [h a (restU_mem.1 ha).1, h b (restU_mem.1 hb).1]) _).2 (restU_mem.2 ⟨hF, hn⟩)
 rcases unionF_cases F with ⟨⟨x, hx, hk⟩, _⟩ | ⟨_, ⟨x, hx, hk⟩, _⟩ | ⟨_, _, e⟩
 · rw [h x hx] at hk
   exact absurd hk (by decide)
 · rw [h x hx] at hk
   exact absurd hk (by decide)
 · rw [e]
   have hs := sortU_sorted (restU F)
   generalize sortU (restU F) = L at hm hin hs
   match L, hm, hin, hs with
   | [], _, hin, _ => cases hin
   | [x], hm, _, _ => exact hm x (by simp)
   | x :: y :: r, hm, _, hs =>
     have h1 : ltS x.partT y.partT = true := (List.pairwise_cons.1 hs).1 y (by simp)
     rw [hm x (by simp), hm y (by simp)] at h1
     have h2 := ltS_tot.asymm _ _ h1
     rw [h1] at h2
     cases h2
abbrev strS : ByteArray := ⟨#[115, 116, 114, 105, 110, 103]⟩
theorem kind_nu : kindR 7 strS = 0 := by decide +kernel
theorem kind_st : kindR 8 strS = 1 := by decide +kernel
theorem kept_number {ts : List Ty} {ps : List Nat} {rs : List Int} {vs us : List Ty} {L : List Ty} (hL : ∀ z, z ∈ L ↔ z = nuT ∨ z = stT) (hv : ps.map (fun z => ts[z]?) = vs.map some) (hc : vs.map Ty.canon = L)
   (hT : ToldN (fun p r => ∃ t, ts[p]? = some t ∧ r = kindR t.kind strS) ps rs) (hu : (keptL false ps rs).map (fun z => ts[z]?) = us.map some) : unionC (us.map Ty.canon) = nuT := by
 have hat : ∀ (j p : Nat), ps[j]? = some p → ∃ v, ts[p]? = some v ∧ vs[j]? = some v ∧ (v.canon = nuT ∨ v.canon = stT) := fun j p hj => by
   have h1 := congrArg (·[j]?) hv
   simp only [List.getElem?_map, hj, Option.map_some] at h1
   cases hvj : vs[j]? with
   | none => rw [hvj] at h1; cases h1
   | some v =>
     rw [hvj] at h1
     have h1 : ts[p]? = some v := by simpa using h1
     exact ⟨v, h1, rfl, (hL _).1 (by rw [← hc]; exact List.mem_map_of_mem (List.mem_of_getElem? hvj))⟩
 have hzip : ∀ z ∈ keptL false ps rs, ∃ v, ts[z]? = some v ∧ v.canon = nuT := fun z hz => by
   unfold keptL at hz
   obtain ⟨x, hx, rfl⟩ := List.mem_map.1 hz
   obtain ⟨hx1, hx2⟩ := List.mem_filter.1 hx
   obtain ⟨j, hj⟩ := List.getElem?_of_mem hx1
   obtain ⟨hp, hr⟩ := List.getElem?_zip_eq_some.1 hj
   obtain ⟨v, h1, h2, h3⟩ := hat j _ hp
   obtain ⟨t, ht, hrr⟩ := hT.at_ j _ _ hp hr
   rw [h1] at ht
   cases ht
   rcases h3 with h3 | h3
   · exact ⟨v, h1, h3⟩
   · have hk : v.kind = 8 := by rw [← Ty.canon_kind, h3]; rfl
     rw [hrr, hk, kind_st] at hx2
     exact absurd hx2 (by decide)
 have hus : ∀ u ∈ us, u.canon = nuT := fun u hu' => by
   obtain ⟨j, hj⟩ := List.getElem?_of_mem hu'
   have h1 := congrArg (·[j]?) hu
   simp only [List.getElem?_map, hj, Option.map_some] at h1
   cases hk : (keptL false ps rs)[j]? with
   | none => rw [hk] at h1; cases h1
   | some z =>
     rw [hk] at h1
     obtain ⟨v, h2, h3⟩ := hzip z (List.mem_of_getElem? hk)
     have h1 : ts[z]? = some u := by simpa using h1
     rw [h1] at h2
     cases h2
     exact h3
 have hne : us ≠ [] := by
   have hn : nuT ∈ vs.map Ty.canon := by rw [hc]; exact (hL _).2 (.inl rfl)
   obtain ⟨v, hv1, hv2⟩ := List.mem_map.1 hn
   obtain ⟨j, hj⟩ := List.getElem?_of_mem hv1
   have h1 := congrArg (·[j]?) hv
   simp only [List.getElem?_map, hj, Option.map_some] at h1
   cases hp : ps[j]? with
   | none => rw [hp] at h1; cases h1
   | some p =>
     rw [hp] at h1
     have h1 : ts[p]? = some v := by simpa using h1
     obtain ⟨r, hr⟩ : ∃ r, rs[j]? = some r := ⟨_, List.getElem?_eq_getElem (by rw [hT.len]; exact (List.getElem?_eq_some_iff.1 hp).1)⟩
     obtain ⟨t, ht, hrr⟩ := hT.at_ j p r hp hr
     rw [h1] at ht
     cases ht
     have hk : v.kind = 7 := by rw [← Ty.canon_kind, hv2]; rfl
     rw [hk, kind_nu] at hrr
     intro e
     rw [e] at hu
     have hm : p ∈ keptL false ps rs := by
       unfold keptL
       refine List.mem_map.2 ⟨(p, r), List.mem_filter.2 ⟨List.mem_of_getElem? (List.getElem?_zip_eq_some.2 ⟨hp, hr⟩), ?_⟩, rfl⟩
       rw [hrr]
       rfl
     have := List.map_eq_nil_iff.1 hu
     rw [this] at hm
     cases hm
 have hall : ∀ t ∈ us.map Ty.canon, t = nuT := fun t ht => by
   obtain ⟨u, hu1, rfl⟩ := List.mem_map.1 ht
   exact hus u hu1
 have e1 : nuT.flat = [nuT] := by unfold Ty.flat; rw [if_neg (by decide)]
 refine one_number (fun x hx => ?_) (fun e => ?_)
 · obtain ⟨t, ht, hx⟩ := List.mem_flatMap.1 hx
   rw [hall t ht, e1] at hx
   exact List.mem_singleton.1 hx
 · cases us with
   | nil => exact absurd rfl hne
   | cons u r =>
     rw [List.map_cons, List.flatMap_cons, hus u (by simp), e1] at e
     cases e
theorem ten_at {i : Nat} (h : i < 10) : tenT[i]? = some (basicT ((i : Int) + 1)) := by
 unfold tenT
 rw [List.getElem?_map, List.getElem?_range h]
 rfl
theorem kind_says {w0 w : World} {A : Nat} {bs : List Nat} {ts : List Ty} {tv mv : Value} (h : Sta w0 w A bs ts tv mv) {p : Nat} {t : Ty} (ht : ts[p]? = some t) (kb : Nat) (T : Int) (s : ByteArray) (W : World) (hW : Up w W) (hk : W.heap[kb]? = some (.cells (testA A 1 s T 0) TesT (0, 0))) :
   Calls Tryz.prog 67 #[.pointer (some ⟨kb, 0, none⟩), .int .i64 p] W fun e w' => ∃ r : Int, e = .returned (.int .i64 r) ∧ Up W w' ∧ ∃ t, ts[p]? = some t ∧ r = kindR t.kind s :=
 says_test 103 (fun r => ∃ t, ts[p]? = some t ∧ r = kindR t.kind s) kb A p 1 T s 0 W 0 rfl hk fun W' hW' => (kind_any ((h.are.up hW).up hW') ht kb 1 T s 0 (hW'.get hk)).mono fun e w' ⟨h1, h2⟩ => ⟨_, h1, h2, t, ht, rfl⟩
theorem truth_says {w0 w : World} {A : Nat} {bs : List Nat} {ts : List Ty} {tv mv : Value} (h : Sta w0 w A bs ts tv mv) {p : Nat} {t : Ty} (ht : ts[p]? = some t) (kb : Nat) (T : Int) (s : ByteArray) (W : World) (hW : Up w W) (hk : W.heap[kb]? = some (.cells (testA A 3 s T 0) TesT (0, 0))) :
   Calls Tryz.prog 67 #[.pointer (some ⟨kb, 0, none⟩), .int .i64 p] W fun e w' => ∃ r : Int, e = .returned (.int .i64 r) ∧ Up W w' ∧ (0 ≤ r ∧ r ≤ 2) :=
 says_test 105 (fun r => 0 ≤ r ∧ r ≤ 2) kb A p 3 T s 0 W 2 rfl hk fun W' hW' => truth_any ((h.are.up hW).up hW') ht kb 3 T s 0 (hW'.get hk)
theorem part_at {w : World} {B A : Nat} {bs : List Nat} {ts : List Ty} {tv mv dv : Value} (h : Are w B A bs ts tv mv dv) {i : Nat} {t : Ty} (ht : ts[i]? = some t) : ∀ p ∈ partsN ts i t, ∃ u, ts[p]? = some u := fun p hp => by
 obtain ⟨vs, hv, _⟩ := parts_types h ht
 obtain ⟨j, hj⟩ := List.getElem?_of_mem hp
 have h1 := congrArg (·[j]?) hv
 simp only [List.getElem?_map, hj, Option.map_some] at h1
 cases hvj : vs[j]? with
 | none => rw [hvj] at h1; cases h1
 | some v => rw [hvj] at h1; exact ⟨v, by simpa using h1⟩
set_option maxRecDepth 100000 in
set_option maxHeartbeats 3200000 in
theorem known10_any (w : World) (hg : GlobB w.heap.size w) : Calls Tryz.prog 30 #[] w fun e w' => e = .returned (.bool true) ∧ Up w w' := by
 have HG := Lib.hid hg
 clear hg
 go_enter Tryz.func30, Tryz.ntmps30
 go_wp2_with fail
 refine (New_any w).mono ?_
 rintro e w2 ⟨A, bs, g, tv, rfl, hf, hu2⟩
 have HS := Lib.hid (Sta.new hf hu2 HG.out)
 have hl : Hid (bs.length = 10) := hf.len
 clear hf
 go_wp2_with fail
 refine (union_sta HS.out [6, 7] [nuT, stT] 3 _ _ (by simp only [List.map_cons, List.map_nil, ten_at (show 6 < 10 by decide), ten_at (show 7 < 10 by decide)]; rfl) (by decide) (by decide) (by have := hl.out; omega) rfl _).mono ?_
 rintro e w8 ⟨i8, bs8, ts8, tv8, mv8, X, rfl, hS8, hl8, hx8, hv8, hc8, hn8⟩
 obtain ⟨L, hL1, hL2⟩ := union_two_parts
 have hXL : X.canon = .mk 16 0 ⟨#[]⟩ L [] [] := by
   rw [hc8]
   simp only [List.map_cons, List.map_nil, nu_fc.cv.same, st_fc.cv.same]
   exact hL1
 have hXk : X.kind = 16 := by rw [← Ty.canon_kind, hXL]; rfl
 have hXp : X.flat.map Ty.canon = L := by
   unfold Ty.flat
   rw [if_pos hXk, ← Ty.canon_parts, hXL]
   rfl
 have H8 := Lib.hid (And.intro hS8 (And.intro hx8 (And.intro hn8 (And.intro hXp (And.intro hL2 hl8)))))
 clear hS8 hl8 hx8 hv8 hc8 hn8 hXL hXk hXp hL1 hL2
 go_wp2_with fail
 refine (Keep_in false 1 0 strS A _ _ _ _ _ _ (H8.out.1.later (show Up w8 _ from uq)) H8.out.2.1 (by have := hl.out; have := H8.out.2.2.2.2.2; rw [List.length_append]; omega) (by have := H8.out.2.2.1; omega) (.inl rfl) (fun p r => ∃ t, (tenT ++ ts8)[p]? = some t ∧ r = kindR t.kind strS)
   (fun p hp W kb hW hk => by
     obtain ⟨u, hu⟩ := part_at H8.out.1.are H8.out.2.1 p hp
     exact kind_says (H8.out.1.later (show Up w8 _ from uq)) hu kb 0 strS W hW hk)
   (fun p hp W kb hW hk e => by cases e)).mono ?_
 rintro e w9 ⟨rs, us, hT, hk, i9, bs9, ts9, tv9, mv9, X9, rfl, hS9, hl9, hx9, hv9, hc9, hn9⟩
 have h6 : i9 = 6 := by
   obtain ⟨vs, hv, hvc⟩ := parts_types H8.out.1.are H8.out.2.1
   have hu := kept_number H8.out.2.2.2.2.1 hv (hvc.trans H8.out.2.2.2.1) hT hk
   exact hS9.same hx9 (more (more (ten_at (show 6 < 10 by decide)))) (by rw [hc9, hu]; exact nu_fc.cv.same.symm)
 subst h6
 have hu9 : Hid (Up w w9) := hS9.up
 clear hT hk hS9 hl9 hx9 hv9 hc9 hn9 hu2
 go_wp2_with fail
 go_ret
 exact ⟨rfl, hu9.out.trans (show Up w9 _ from uq)⟩
set_option maxRecDepth 100000 in
set_option maxHeartbeats 6400000 in
theorem narrow_nothing (id K T : Int) (s : ByteArray) (yes : Bool) (w : World) (hg : GlobB w.heap.size w) : Calls Tryz.prog 14 #[.int .i64 id, .agg #[.int .i64 K, .string s, .int .i64 T], .bool yes] w fun e w' => e = .returned (.bool true) ∧ Up w w' := by
 have HG := Lib.hid hg
 clear hg
 go_enter Tryz.func14, Tryz.ntmps14
 go_wp2_with fail
 refine (Keep_nil id K T s yes _).mono ?_
 rintro e w1 ⟨rfl, hu1⟩
 have sx := hu1.get (alloc_get _ _)
 have c0 := cell_of sx 0; have cf0 := ice_of sx 0; have c1 := cell_of sx 1; have cf1 := ice_of sx 1; have c2 := cell_of sx 2; have cf2 := ice_of sx 2; have cl := lt_of_heap sx; (try simp only [World.size_alloc, List.getElem?_toArray, List.getElem?_cons_zero, List.getElem?_cons_succ] at c0 cf0 c1 cf1 c2 cf2 cl); clear sx
 go_wp2_with fail
 refine (Assigned_nil id T _).mono ?_
 rintro e w2 ⟨rfl, hu2⟩
 have HU2 : Hid (Up w w2) := uq
 clear hu1 hu2 c0 c1 c2 cf0 cf1 cf2 cl
 go_wp2_with fail
 refine (New_any w2).mono ?_
 rintro e w3 ⟨A, bs, g, tv, rfl, hf, hu3⟩
 have HS := Lib.hid (show Sta w2 w3 A bs tenT tv (.map (some g)) from Sta.new hf hu3 ((HG.out.memo (Memo.of_up none1 _ HU2.out)).mono HU2.out.size))
 have hl : Hid (bs.length = 10) := hf.len
 clear hf hu3
 by_cases hin : 0 ≤ id ∧ id < 10
 · obtain ⟨id0, id1⟩ := hin
   obtain ⟨i, rfl⟩ := Int.eq_ofNat_of_zero_le id0
   have hi : i < 10 := by omega
   have hti := ten_at hi
   have hk16 : Hid ((basicT ((i : Int) + 1)).kind ≠ 16) := by show (i : Int) + 1 ≠ 16; omega
   have hnod : Hid ((basicT ((i : Int) + 1)).nodes = 1) := by unfold Hid basicT; rw [Ty.nodes_mk]; rfl
   go_wp2_with fail
   refine (Keep_in yes 3 0 ⟨#[]⟩ A _ _ _ _ _ _ (HS.out.later (show Up w3 _ from uq)) hti (by have := hl.out; omega) (by have := hnod.out; omega) (.inr rfl) (fun p r => 0 ≤ r ∧ r ≤ 2)
     (fun p hp W kb hW hk => by
       obtain ⟨u, hu⟩ := part_at HS.out.are hti p hp
       exact truth_says (HS.out.later (show Up w3 _ from uq)) hu kb 0 ⟨#[]⟩ W hW hk)
     (fun p hp W kb hW hk _ _ => by
       obtain ⟨u, hu⟩ := part_at HS.out.are hti p hp
       exact instead_same ((HS.out.later (show Up w3 _ from uq)).are.up hW) hu kb 3 0 ⟨#[]⟩ 0 hk rfl)).mono ?_
   rintro e w4 ⟨rs, us, _, _, i4, bs4, ts4, tv4, mv4, X4, rfl, hS4, hl4, _⟩
   have H4 := Lib.hid hS4
   clear hS4 hl4
   go_wp2_with fail
   refine (Assigned_plain (H4.out.later (show Up w4 _ from uq)).are (more hti) (more (ten_at (show 0 < 10 by decide))) hk16.out).mono ?_
   rintro e w5 ⟨rfl, hu5⟩
   go_wp2_with fail
   refine (Keep_is_none (H4.out.later (show Up w4 _ from uq)).are (more (ten_at (show 6 < 10 by decide))) rfl 0 ⟨#[]⟩ yes).mono ?_
   rintro e wF ⟨rfl, hu6⟩
   have HUF : Hid (Up w wF) := HU2.out.trans (H4.out.up.trans (show Up w4 wF from uq))
   go_wp2_with (first | (go_at_call 30; have hUk := (HUF.out.trans (show Up wF _ from uq)); refine (known10_any _ ((HG.out.memo (Memo.of_up none1 _ hUk)).mono hUk.size)).mono ?_; rintro e wk ⟨rfl, huk⟩))
   all_goals go_ret
   all_goals exact ⟨rfl, HUF.out.trans (show Up wF _ from uq)⟩
 · have hout : ¬ (0 ≤ id ∧ id < (bs.length : Int)) := by rw [hl.out]; exact hin
   go_wp2_with fail
   refine (Keep_out (HS.out.later (show Up w3 _ from uq)).are hout ⟨#[]⟩ 0 yes).mono ?_
   rintro e w4 ⟨rfl, hu4⟩
   go_wp2_with fail
   refine (Assigned_out (HS.out.later (show Up w3 _ from uq)).are hout (ten_at (show 0 < 10 by decide))).mono ?_
   rintro e w5 ⟨rfl, hu5⟩
   go_wp2_with fail
   refine (Keep_is_none (HS.out.later (show Up w3 _ from uq)).are (ten_at (show 6 < 10 by decide)) rfl 0 ⟨#[]⟩ yes).mono ?_
   rintro e wF ⟨rfl, hu6⟩
   have HUF : Hid (Up w wF) := HU2.out.trans (HS.out.up.trans (show Up w3 wF from uq))
   clear hout
   go_wp2_with (first | (go_at_call 30; have hUk := (HUF.out.trans (show Up wF _ from uq)); refine (known10_any _ ((HG.out.memo (Memo.of_up none1 _ hUk)).mono hUk.size)).mono ?_; rintro e wk ⟨rfl, huk⟩))
   all_goals first
     | (exfalso; simp_all; omega)
     | (go_ret; exact ⟨rfl, HUF.out.trans (show Up wF _ from uq)⟩)
end Go.Proofs.YtiaepldmgighbaaGreatDoor
