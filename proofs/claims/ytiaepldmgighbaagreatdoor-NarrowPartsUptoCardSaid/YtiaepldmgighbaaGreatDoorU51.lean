import Derived.Test.YtiaepldmgighbaaGreatDoorU46
import Derived.Test.YtiaepldmgighbaaGreatDoorU50
import Derived.Test.YtiaepldmgighbaaGreatDoorU49
import Derived.Test.YtiaepldmgighbaaGreatDoorU32
namespace Go.Proofs.YtiaepldmgighbaaGreatDoor
open Go.RowKit
set_option linter.unusedSimpArgs false
set_option linter.unusedVariables false
set_option maxRecDepth 100000
set_option maxHeartbeats 1600000
theorem jjX {w0 w : World} {A : Nat} {bs : List Nat} {ts : List Ty} {tv mv dv : Value} (h : Sta w0 w A bs ts tv mv dv) {i T : Nat} {t v : Ty} (ht : ts[i]? = some t) (hv : ts[T]? = some v) (hcv : CV v.canon) (kb : Nat) (s : ByteArray) (er : Int) (hk : w.heap[kb]? = some (.cells (jbC A 2 s T er) TesT (0,0))) (unk : Prop) :
  Calls Tryz.prog 68 #[.pointer (some ⟨kb,0,none⟩), .int .i64 i] w (InsQ dv w0 w A bs ts tv mv (if jdh v.canon t.canon = true then v.canon else t.canon) unk):=by
 have HC : Hid (∀ (z : Nat) W,z = i ∨ z = T → Up w W → Calls Tryz.prog 108 #[.pointer (some ⟨kb,0,none⟩), .int .i64 z] W fun e w' => ∃ (k n : Int) (nm : ByteArray) (pa na ma : Option Addr) (pn pc nn nc mn mc : Nat),e = .returned (.agg #[.int .i64 k, .int .i64 n, .string nm, .slice pa pn pc, .slice na nn nc, .slice ma mn mc]) ∧ (z = i → k = t.kind) ∧ (z = T → k = v.kind ∧ pn = v.parts.length ∧ IntsV w' pa (v.parts.map (idOf ts))) ∧ Up W w'):=fun z W hz hW => by
  have hb : ∀ (x : Ty),ts[z]? = some x → Calls Tryz.prog 108 #[.pointer (some ⟨kb,0,none⟩), .int .i64 z] W fun e w' => ∃ (k n : Int) (nm : ByteArray) (pa na ma : Option Addr) (pn pc nn nc mn mc : Nat),e = .returned (.agg #[.int .i64 k, .int .i64 n, .string nm, .slice pa pn pc, .slice na nn nc, .slice ma mn mc]) ∧ (z = i → k = t.kind) ∧ (z = T → k = v.kind ∧ pn = v.parts.length ∧ IntsV w' pa (v.parts.map (idOf ts))) ∧ Up W w':=fun x hx => by
   refine (jc6 (h.are.up hW) hx kb 2 T s er (hW.get hk)).mono ?_
   rintro e w' ⟨pa,pc,na,nc,ma,mc,rfl,hv2,hu⟩
   refine ⟨_,_,_,_,_,_,_,_,_,_,_,_,rfl,fun e => ?_,fun e => ?_,hu⟩
   ·rw [e,ht] at hx;cases hx;rfl
   ·rw [e,hv] at hx;cases hx;exact ⟨rfl,List.length_map ..,hv2.ints⟩
  rcases hz with rfl | rfl
  ·exact hb _ ht
  ·exact hb _ hv
 have HK:=Lib.hid hk
 have HT:=Lib.hid (And.intro h ht)
 have HV:=Lib.hid (And.intro h hv)
 have hf1 : Hid (∀ w',Up w w' → InsQ dv w0 w A bs ts tv mv v.canon unk (.returned (.int .i64 T)) w'):=fun w' u => ⟨T,rfl,AddQ.there HV.out.1 u HV.out.2 rfl _, .inl u⟩
 have hf2 : Hid (∀ w',Up w w' → InsQ dv w0 w A bs ts tv mv t.canon unk (.returned (.int .i64 i)) w'):=fun w' u => ⟨i,rfl,AddQ.there HT.out.1 u HT.out.2 rfl _, .inl u⟩
 obtain ⟨R,hR⟩ : ∃ R,Hid ((if jdh v.canon t.canon = true then v.canon else t.canon) = R):=⟨_,rfl⟩
 rw [hR.out]
 have hR1 : jdh v.canon t.canon = true → R = v.canon:=fun e => by rw [← hR.out,if_pos e]
 have hR2 : jdh v.canon t.canon = false → R = t.canon:=fun e => by rw [← hR.out,if_neg (by rw [e];decide)]
 have hgo : ∀ b : Bool,jdh v.canon t.canon = b → Hid (∀ w' z,Up w w' → z = (if b = true then (T : Int) else i) → InsQ dv w0 w A bs ts tv mv R unk (.returned (.int .i64 z)) w'):=fun b e w' z u hz => by
  cases b
  ·rw [hR2 e,hz];exact hf2.out w' u
  ·rw [hR1 e,hz];exact hf1.out w' u
 by_cases hv20 : v.kind = 20
 ·obtain ⟨p,hp, -⟩:=jg4 hcv hv20
  have hpid : Hid (t.kind = 19 → ((idOf ts p : Int) == (i : Int)) = decide ((v.canon.parts.headD (ja3 3)).text = t.canon.text)):=fun _ => by
   have hmem : v ∈ ts:=List.mem_of_getElem? hv
   obtain ⟨q,hq1,hq2⟩ : ∃ q,ts[idOf ts p]? = some q ∧ q.text = p.text:=by
    have:=jij (h.are.rows.closed v hmem p (by rw [hp];exact List.mem_singleton.2 rfl))
    rw [List.getElem?_map] at this
    cases e : ts[idOf ts p]? with
    | none => rw [e] at this;simp at this
    | some q => rw [e] at this;simp only [Option.map_some,Option.some.injEq] at this;exact ⟨q,rfl,this⟩
   have hs:=h.are.same hq1 ht
   have e1 : (v.canon.parts.headD (ja3 3)).text = p.text:=by rw [Ty.canon_parts,hp];exact Ty.text_canon p
   rw [e1,Ty.text_canon, ← hq2]
   by_cases e : idOf ts p = i
   ·rw [decide_eq_true (hs.1 e),e];simp
   ·rw [decide_eq_false (fun q => e (hs.2 q))]
    have : ¬ ((idOf ts p : Nat) : Int) = (i : Int):=by omega
    simp [this]
  obtain ⟨x,hx⟩ : ∃ x,Hid (t.kind = x):=⟨_,rfl⟩
  obtain ⟨r,hr⟩ : ∃ x,Hid (idOf ts p = x):=⟨_,rfl⟩
  rw [hx.out,hr.out] at hpid
  obtain ⟨sw,hsw⟩ : ∃ b,jdh v.canon t.canon = b:=⟨_,rfl⟩
  have hgo:=hgo sw hsw
  have hsw2 : Hid (sw = (x == 2 || (x == 19 && ((r : Int) == (i : Int))))):=by
   unfold Hid
   rw [← hsw]
   unfold jdh
   rw [Ty.canon_kind,Ty.canon_kind,hv20,hx.out]
   by_cases h19 : x = 19
   ·rw [← hpid.out h19,h19];rfl
   ·have : (x == 19) = false:=by simpa using h19
    rw [this];simp
  have hvk:=Lib.hid hv20
  have hpp:=Lib.hid hp
  clear h ht hv hk hR1 hR2 hsw hv20 hp hf1 hf2 hpid
  go_enter Tryz.func68,Tryz.ntmps68
  go_upto_region 2 with (first
   | (go_at_call 108;refine (HC.out _ _ (.inl rfl) (show Up w _ from uq)).mono ?_;rintro e w2 ⟨k,n,nm,pa,na,ma,pn,pc,nn,nc,mn,mc,rfl,e1,e2,hu2⟩;have e3:=((e1 rfl).trans hx.out).symm;subst e3;clear e1 e2))
  refine ja4 fun A1 W1 hA1 hW1 => ?_
  have HU1 : Hid (Up w W1):=by subst hW1;exact uq
  obtain ⟨xb,hxb⟩ : ∃ z,Hid (w2.heap.size = z):=⟨_,rfl⟩
  have HX1 : Hid (W1.heap[xb]? = some (.cells #[.int .i64 x, .int .i64 n, .string nm, .slice pa pn pc, .slice na nn nc, .slice ma mn mc] 46 (0,0))):=by subst hW1;rw [← hxb.out];exact ja9 _ _
  rw [hxb.out] at hA1
  clear hW1
  subst hA1
  have s0:=HX1.out
  obtain ⟨q0,p0,q1,p1,q2,p2,q3,p3,q4,p4,q5,p5,q9⟩:=uc6 s0;clear s0
  have hk2:=HU1.out.get HK.out
  obtain ⟨b0,g0,b1,g1,b2,g2,b3,g3,b4,g4,b9⟩:=uc5 hk2;clear hk2
  go_wp2_with (first
   | (go_at_call 108;refine (HC.out _ _ (.inr rfl) (HU1.out.trans (show Up W1 _ from uq))).mono ?_;rintro e w3 ⟨k2,n2,nm2,pa2,na2,ma2,pn2,pc2,nn2,nc2,mn2,mc2,rfl,e1,e2,hu3⟩;have U3:=(show Up W1 w3 from uq);have hk3:=U3.get (HU1.out.get HK.out);have s3:=U3.get HX1.out;clear U3;obtain ⟨b0,g0,b1,g1,b2,g2,b3,g3,b4,g4,b9⟩:=uc5 hk3;clear hk3;obtain ⟨q0,p0,q1,p1,q2,p2,q3,p3,q4,p4,q5,p5,q9⟩:=uc6 s3;clear s3;obtain ⟨e3,e4,e5⟩:=e2 rfl;obtain ⟨g,off,rfl,hgl,hgc⟩:=e5 0 r (by rw [hpp.out, ← hr.out];rfl);simp only [Nat.add_zero] at hgc;rw [hvk.out] at e3;subst e3;rw [hpp.out] at e4;subst e4;simp only [List.length_cons,List.length_nil];clear e1 e2 e5))
  all_goals (first | go_ret | (trace_state;fail))
  all_goals (refine hgo.out _ _ (HU1.out.trans (show Up W1 _ from uq)) ?_;have h2:=hsw2.out;clear hgo hsw2 HU1 HX1 hxb hr hvk hpp HC HK HT HV hR;simp_all)
 ·obtain ⟨x,hx⟩ : ∃ x,Hid (t.kind = x):=⟨_,rfl⟩
  obtain ⟨y,hy⟩ : ∃ x,Hid (v.kind = x):=⟨_,rfl⟩
  obtain ⟨sw,hsw⟩ : ∃ b,jdh v.canon t.canon = b:=⟨_,rfl⟩
  have hgo:=hgo sw hsw
  have hy20 : Hid ((y == 20) = false):=by unfold Hid;rw [← hy.out];simpa using hv20
  have hsw2 : Hid (sw = (x == 2 || (x == 7 && y == 11) || (x == 8 && y == 12))):=by
   unfold Hid
   rw [← hsw]
   unfold jdh
   rw [Ty.canon_kind,Ty.canon_kind,hy.out,hx.out,hy20.out]
   simp
  have hyy:=hy20.out
  clear h ht hv hk hR1 hR2 hsw hv20 hf1 hf2
  go_enter Tryz.func68,Tryz.ntmps68
  go_upto_region 2 with (first
   | (go_at_call 108;refine (HC.out _ _ (.inl rfl) (show Up w _ from uq)).mono ?_;rintro e w2 ⟨k,n,nm,pa,na,ma,pn,pc,nn,nc,mn,mc,rfl,e1,e2,hu2⟩;have e3:=((e1 rfl).trans hx.out).symm;subst e3;clear e1 e2))
  refine ja4 fun A1 W1 hA1 hW1 => ?_
  have HU1 : Hid (Up w W1):=by subst hW1;exact uq
  obtain ⟨xb,hxb⟩ : ∃ z,Hid (w2.heap.size = z):=⟨_,rfl⟩
  have HX1 : Hid (W1.heap[xb]? = some (.cells #[.int .i64 x, .int .i64 n, .string nm, .slice pa pn pc, .slice na nn nc, .slice ma mn mc] 46 (0,0))):=by subst hW1;rw [← hxb.out];exact ja9 _ _
  rw [hxb.out] at hA1
  clear hW1
  subst hA1
  have s0:=HX1.out
  obtain ⟨q0,p0,q1,p1,q2,p2,q3,p3,q4,p4,q5,p5,q9⟩:=uc6 s0;clear s0
  have hk2:=HU1.out.get HK.out
  obtain ⟨b0,g0,b1,g1,b2,g2,b3,g3,b4,g4,b9⟩:=uc5 hk2;clear hk2
  go_wp2_with (first
   | (go_at_call 108;refine (HC.out _ _ (.inr rfl) (HU1.out.trans (show Up W1 _ from uq))).mono ?_;rintro e w3 ⟨k2,n2,nm2,pa2,na2,ma2,pn2,pc2,nn2,nc2,mn2,mc2,rfl,e1,e2,hu3⟩;have U3:=(show Up W1 w3 from uq);have hk3:=U3.get (HU1.out.get HK.out);have s3:=U3.get HX1.out;clear U3;obtain ⟨b0,g0,b1,g1,b2,g2,b3,g3,b4,g4,b9⟩:=uc5 hk3;clear hk3;obtain ⟨q0,p0,q1,p1,q2,p2,q3,p3,q4,p4,q5,p5,q9⟩:=uc6 s3;clear s3;have e3:=((e2 rfl).1.trans hy.out).symm;subst e3;clear e1 e2))
  all_goals (first | go_ret | (trace_state;fail))
  all_goals (refine hgo.out _ _ (HU1.out.trans (show Up W1 _ from uq)) ?_;have h2:=hsw2.out;clear hgo hsw2 HU1 HX1 hxb hx hy hy20 HC HK HT HV hR;simp_all)
theorem jgR {K : Int} {v : Ty} (h : TestOk K v.canon) (hK : K = 2 ∨ K = 5) : oneB v.kind = true:=by
 have:=(h.one hK).2
 rw [Ty.canon_kind] at this
 exact this
set_option maxHeartbeats 3200000
theorem jm7 {w0 w : World} {A : Nat} {bs : List Nat} {ts : List Ty} {tv mv : Value} (h : Sta w0 w A bs ts tv mv) {p T : Nat} {u v : Ty} (hu : ts[p]? = some u) (hv : ts[T]? = some v) (kb : Nat) (K : Int) (s : ByteArray) (hK : 1 ≤ K ∧ K ≤ 5) (hk : w.heap[kb]? = some (.cells (jbC A K s T 0) TesT (0,0))) :
  Calls Tryz.prog 67 #[.pointer (some ⟨kb,0,none⟩), .int .i64 p] w fun e w' => e = .returned (.int .i64 (jaQ none K s v.canon u.canon)) ∧ Up w w':=by
 have hK5 : K = 1 ∨ K = 2 ∨ K = 3 ∨ K = 4 ∨ K = 5:=by omega
 have key : ∀ (f : Nat) (j : Nat) (r : Int),(jgY kb)[j]? = some (K,fnV f kb) → (∀ W,Up w W → Calls Tryz.prog f #[.pointer (some ⟨kb,0,none⟩), .int .i64 p] W fun e w' => e = .returned (.int .i64 r) ∧ Up W w') → Calls Tryz.prog 67 #[.pointer (some ⟨kb,0,none⟩), .int .i64 p] w fun e w' => e = .returned (.int .i64 r) ∧ Up w w':=fun f j r hj hf => by
  refine (jkK f (fun z => z = r) kb A p K T s 0 w j hj hk fun W hW => (hf W hW).mono fun e w' ⟨h1,h2⟩ => ⟨r,h1,h2,rfl⟩).mono ?_
  rintro e w' ⟨z,rfl,hu,rfl⟩
  exact ⟨rfl,hu⟩
 rcases hK5 with rfl | rfl | rfl | rfl | rfl
 ·refine key 103 0 _ rfl fun W hW => ?_
  have:=jmA (h.are.up hW) hu kb 1 T s 0 (hW.get hk)
  unfold jaQ
  rw [if_pos rfl,Ty.canon_kind]
  exact this
 ·refine key 104 1 _ rfl fun W hW => ?_
  have:=jli (h.are.up hW) hu hv kb 2 s 0 (hW.get hk)
  unfold jaQ
  rw [if_neg (by decide),if_pos rfl,jf0]
  exact this
 ·refine key 105 2 _ rfl fun W hW => ?_
  have:=jhX (h.are.up hW) hu kb 3 T s 0 (hW.get hk)
  unfold jaQ
  rw [if_neg (by decide),if_neg (by decide),if_pos rfl,jgO]
  exact this
 ·refine key 106 3 _ rfl fun W hW => ?_
  have:=joc (h.are.up hW) hu kb 4 T s 0 (hW.get hk)
  unfold jaQ
  rw [if_neg (by decide),if_neg (by decide),if_neg (by decide),if_pos rfl]
  exact this
 ·refine key 107 4 _ rfl fun W hW => ?_
  have:=jls (h.are.up hW) hu hv kb 5 s 0 (hW.get hk)
  unfold jaQ
  rw [if_neg (by decide),if_neg (by decide),if_neg (by decide),if_neg (by decide)]
  exact this
theorem jih {w0 w : World} {A : Nat} {bs : List Nat} {ts : List Ty} {tv mv : Value} (h : Sta w0 w A bs ts tv mv) (hb : bs.length ≤ 99000) {p T : Nat} {u v : Ty} (hu : ts[p]? = some u) (hv : ts[T]? = some v) (kb : Nat) (K : Int) (s : ByteArray) (hK : TestOk K v.canon) (hk : w.heap[kb]? = some (.cells (jbC A K s T 0) TesT (0,0))) {m : Int} (hm : w0.cell? ⟨0,0,none⟩ = some (.int .i64 m)) :
  Calls Tryz.prog 68 #[.pointer (some ⟨kb,0,none⟩), .int .i64 p] w fun e w' => ∃ q : Nat,e = .returned (.int .i64 q) ∧ AddQ (.map none) w0 w A bs ts tv mv (jad K s v.canon u.canon) 10 q w':=by
 have h1:=hK.low
 have h2:=hK.high
 by_cases K1 : K = 1
 ·subst K1
  by_cases hk2 : u.kind = 2
  ·have e : jad 1 s v.canon u.canon = jbd s.toList u.canon:=by unfold jad;rw [if_pos rfl,Ty.canon_kind,if_pos hk2]
   rw [e]
   exact (jf1 h hb hu kb T s 0 hk hk2 hm).mono fun e w' ⟨q,r1,r2,_⟩ => ⟨q,r1,r2⟩
  ·have e : jad 1 s v.canon u.canon = u.canon:=by unfold jad;rw [if_pos rfl,Ty.canon_kind,if_neg hk2]
   rw [e]
   exact (je9 h hu kb 1 T s 0 hk (.inl ⟨rfl,hk2⟩) True).mono fun e w' ⟨q,r1,r2,_⟩ => ⟨q,r1,r2⟩
 by_cases K2 : K = 2
 ·subst K2
  have e : jad 2 s v.canon u.canon = if jdh v.canon u.canon = true then v.canon else u.canon:=by unfold jad;rw [if_neg (by decide),if_pos rfl]
  rw [e]
  exact (jjX h hu hv (hK.one (.inl rfl)).1 kb s 0 hk True).mono fun e w' ⟨q,r1,r2,_⟩ => ⟨q,r1,r2⟩
 ·have e : jad K s v.canon u.canon = u.canon:=by unfold jad;rw [if_neg K1,if_neg K2]
  rw [e]
  exact (je9 h hu kb K T s 0 hk (by omega) True).mono fun e w' ⟨q,r1,r2,_⟩ => ⟨q,r1,r2⟩
theorem jl1 {α : Type} {l : List α} (r : List α) {i : Nat} {x : α} (h : l[i]? = some x) : (l ++ r)[i]? = some x:=more h
theorem jdw {w0 w : World} {A : Nat} {bs : List Nat} {ts : List Ty} {tv mv : Value} (h : Sta w0 w A bs ts tv mv) (hb : bs.length ≤ 90000) {i T : Nat} {t v : Ty} (ht : ts[i]? = some t) (hv : ts[T]? = some v) (K : Int) (s : ByteArray) (hK : TestOk K v.canon) (asked : Bool) (hn : t.nodes ≤ 500) {N : Nat} (hN : 1 + sumN (jaN asked (jaQ none K s v.canon) (jad K s v.canon) t.canon.flat) ≤ N) (hN5 : N ≤ 500) {m : Int} (hm : w0.cell? ⟨0,0,none⟩ = some (.int .i64 m)) :
  Calls Tryz.prog 32 #[.pointer (some ⟨A,0,none⟩), .int .i64 i, .agg #[.int .i64 K, .string s, .int .i64 T], .bool asked] w (KeepQ (.map none) w0 w A bs ts (keepC asked (jaQ none K s v.canon) (jad K s v.canon) t.canon) N) :=
 jn5 asked K T s A bs ts tv mv _ w0 w h ht hv hb hn ⟨hK.low,hK.high⟩ (jgR hK) _ _ hN hN5
  (fun p _ u hu W kb bs1 ts1 tv1 mv1 hS _ hk => jm7 hS (jl1 ts1 hu) (jl1 ts1 hv) kb K s ⟨hK.low,hK.high⟩ hk)
  (fun p _ u hu W kb bs1 ts1 tv1 mv1 hS hl hk _ _ => jih hS (by rw [List.length_append];omega) (jl1 ts1 hu) (jl1 ts1 hv) kb K s hK hk hm)
theorem jiG {i : Nat} (h : i < 10) : tenT[i]? = some (ja3 ((i : Int) + 1)):=by
 unfold tenT
 rw [List.getElem?_map,List.getElem?_range h]
 rfl
abbrev nuT : Ty:=ja3 7
abbrev stT : Ty:=ja3 8
abbrev strB : ByteArray:=⟨#[115,116,114,105,110,103]⟩
theorem jlb : jdT 7 strB = 0:=by decide +kernel
theorem jla : jdT 8 strB = 1:=by decide +kernel
theorem jo9 (v : Ty) : keepC false (jaQ none 1 strB v) (jad 1 strB v) (jal [nuT,stT]) = nuT:=by
 have hcv : ∀ t ∈ [nuT,stT],CV t:=fun t ht => by
  simp only [List.mem_cons,List.not_mem_nil,or_false] at ht
  rcases ht with rfl | rfl
  ·exact CV.basic (by decide) (by decide)
  ·exact CV.basic (by decide) (by decide)
 have hfl : ([nuT,stT] : List Ty).flatMap Ty.flat = [nuT,stT]:=by simp [jbO]
 have hin : nuT ∈ (jal [nuT,stT]).flat:=by
  have hF:=Fl.of hcv
  unfold jal
  rw [hfl] at hF ⊢
  rcases jaq [nuT,stT] with ⟨⟨x,hx,hk⟩,_⟩ | ⟨_,⟨x,hx,hk⟩,_⟩ | ⟨_,_,e⟩
  ·simp only [List.mem_cons,List.not_mem_nil,or_false] at hx
   rcases hx with rfl | rfl <;> exact absurd hk (by decide)
  ·simp only [List.mem_cons,List.not_mem_nil,or_false] at hx
   rcases hx with rfl | rfl <;> exact absurd hk (by decide)
  ·have hm : nuT ∈ jbH (jbg [nuT,stT]):=by
    rw [jbj _ (fun a ha b hb => hF.key a (jaf.1 ha).1 b (jaf.1 hb).1),jaf]
    refine ⟨by simp,fun hg => ?_⟩
    have hk : (nuT : Ty).kind = 7:=rfl
    unfold Goes at hg
    omega
   rw [e,jdK (fun x hx => (hF x (jaf.1 (jbX _ x hx)).1).2)]
   split
   ·rename_i h0;rw [h0] at hm;cases hm
   ·exact hm
 have hno : jcD (jaQ none 1 strB v nuT) false = true:=by
  show jcD (jdT 7 strB) false = true
  rw [jlb];rfl
 have hsays : ∀ u,jaQ none 1 strB v u = jdT u.kind strB:=fun u => rfl
 have hk3 : jdT 3 strB = 2:=by decide +kernel
 unfold keepC
 have e : jal (jaN false (jaQ none 1 strB v) (jad 1 strB v) (jal [nuT,stT]).flat) = jal [nuT]:=by
  show jaR _ = jaR _
  refine jgK (Fl.of (jmB (fun u hu => ((jdf hcv).flat u hu).1) (fun u hu h2 => ?_))) (Fl.of fun t ht => by rw [List.mem_singleton.1 ht];exact hcv _ (by simp)) fun x hx => ?_
  ·rcases jcM hcv hu with q | rfl
   ·rw [hfl] at q
    simp only [List.mem_cons,List.not_mem_nil,or_false] at q
    rw [hsays] at h2
    rcases q with rfl | rfl
    ·rw [show (ja3 7).kind = 7 from rfl,jlb] at h2;cases h2
    ·rw [show (ja3 8).kind = 8 from rfl,jla] at h2;cases h2
   ·rw [(jdO (D:=none) (s:=strB) (v:=v) ⟨by decide,by decide,fun h => by omega⟩).2]
    exact CV.basic (by decide) (by decide)
  ·simp only [List.mem_flatMap,List.mem_singleton,exists_eq_left,jdv]
   constructor
   ·rintro ⟨y,⟨u,h1,h2,h3⟩,hxy⟩
    rcases h3 with ⟨_,q,_⟩ | ⟨_,rfl⟩
    ·cases q
    ·rcases jcM hcv h1 with q | rfl
     ·rw [hfl] at q
      simp only [List.mem_cons,List.not_mem_nil,or_false] at q
      rcases q with rfl | rfl
      ·exact hxy
      ·rw [hsays,show (ja3 8).kind = 8 from rfl,jla] at h2;cases h2
     ·rw [jbO 3 (by decide),List.mem_singleton] at hxy
      rw [hxy] at hx
      exact absurd rfl hx
   ·intro h
    exact ⟨nuT,⟨nuT,hin,hno, .inr ⟨(fun q => by cases q.2),rfl⟩⟩,h⟩
 rw [e]
 exact jfA (hcv _ (by simp))
theorem jeY (w : World) (hg : GlobB w.heap.size w) {m : Int} (hm : w.cell? ⟨0,0,none⟩ = some (.int .i64 m)) : Calls Tryz.prog 30 #[] w fun e w' => e = .returned (.bool true) ∧ Up w w':=by
 have HG:=Lib.hid (And.intro hg hm)
 clear hg hm
 go_enter Tryz.func30,Tryz.ntmps30
 go_wp2_with fail
 refine (jis w).mono ?_
 rintro e w2 ⟨A,bs,g,tv,rfl,hf,hu2⟩
 have HS:=Lib.hid (Sta.new hf hu2 HG.out.1)
 have hl : Hid (bs.length = 10):=hf.len
 clear hf
 go_wp2_with fail
 refine (jgI HS.out [6,7] [nuT,stT] 3 _ _ (by simp only [List.map_cons,List.map_nil,jiG (show 6 < 10 by decide),jiG (show 7 < 10 by decide)];rfl) (by decide) (by decide) (by have:=hl.out;omega) rfl _).mono ?_
 rintro e w8 ⟨i8,bs8,ts8,tv8,mv8,X,rfl,hS8,hl8,hx8,hv8,hc8,hn8⟩
 have hXL : X.canon = jal [nuT,stT]:=by
  rw [hc8]
  simp only [List.map_cons,List.map_nil]
  rw [(CV.basic (by decide) (by decide) : CV nuT).same,(CV.basic (by decide) (by decide) : CV stT).same]
 have H8:=Lib.hid (And.intro hS8 (And.intro hx8 (And.intro hn8 (And.intro hXL hl8))))
 have hT1 : TestOk 1 (ja3 (((0 : Nat) : Int) + 1)).canon:=⟨by decide,by decide,fun h => by omega⟩
 clear hS8 hl8 hx8 hv8 hc8 hn8 hXL
 go_wp2_with fail
 refine (jdw (H8.out.1.later (show Up w8 _ from uq)) (by have:=hl.out;have:=H8.out.2.2.2.2;rw [List.length_append];omega) H8.out.2.1 (jl1 ts8 (jiG (show 0 < 10 by decide))) 1 strB hT1 false (by have:=H8.out.2.2.1;omega) (N:=20) ?_ (by decide) HG.out.2).mono ?_
 ·have h1:=jcR (asked:=false) (says:=jaQ none 1 strB (ja3 ((0 : Nat) + 1)).canon) (ins:=jad 1 strB (ja3 ((0 : Nat) + 1)).canon) (fun u => jf2 hT1) X.canon.flat
  have h2:=jcU X.canon
  rw [Ty.nodes_canon] at h2
  have:=H8.out.2.2.1
  unfold sumN at h1 ⊢
  omega
 rintro e w9 ⟨i9,bs9,ts9,tv9,mv9,X9,rfl,hS9,hl9,hx9,hv9,hc9,hn9,_⟩
 have h6 : i9 = 6:=hS9.same hx9 (more (more (jiG (show 6 < 10 by decide)))) (by rw [hc9,H8.out.2.2.2.1,jo9];exact (CV.basic (by decide) (by decide) : CV nuT).same.symm)
 subst h6
 have hu9 : Hid (Up w w9):=hS9.up
 clear hS9 hl9 hx9 hv9 hc9 hn9 hu2
 go_wp2_with fail
 go_ret
 exact ⟨rfl,hu9.out.trans (show Up w9 _ from uq)⟩
def SoundR (t : Ty) (w : World) (e : Ending) (w' : World) : Prop := ∃ b : Bool,e = .returned (.bool b) ∧ (b = true → Snd t) ∧ Up w w'
set_option maxHeartbeats 6400000
theorem jkI (B : Nat) : ∀ (m : Nat) (t : Ty) (us : List Value) (w : World),t.nodes ≤ m → TIs B w us t → B ≤ w.heap.size → Calls Tryz.prog 62 #[.agg us.toArray] w (SoundR t w):=by
 intro m
 induction m with
 | zero => intro t us w h;have:=t.nodes_pos;omega
 | succ m ih =>
   intro t us w hm h hB
   cases h with
   | @mk k n nm pa cap nv mv ps ns ms us hn1 hn2 hnm hnv hln hsm hmv hlm hl hpl hpc hc hq =>
     have hsum : Hid ((Ty.mk k n nm ps ns ms).nodes = 1 + sumN ps):=Ty.nodes_mk _ _ _ _ _ _
     have HP:=Lib.hid (fun (j : Nat) (hj : j < ps.length) => jcP hl hc hq hj)
     have IH:=Lib.hid ih
     have HB:=Lib.hid (And.intro hB hm)
     obtain ⟨na,ncap,rfl,_,_⟩:=hnv.form
     obtain ⟨ma,mcap,rfl,_,_⟩:=hmv.form
     obtain ⟨nl,hnl⟩ : ∃ nl,Hid ((ns.map Value.string).length = nl):=⟨_,rfl⟩
     obtain ⟨ml,hml⟩ : ∃ ml,Hid ((ms.map Value.bool).length = ml):=⟨_,rfl⟩
     have hnl2 : Hid (ns.length = nl):=by have:=hnl.out;rw [List.length_map] at this;exact this
     have hml2 : Hid (ms.length = ml):=by have:=hml.out;rw [List.length_map] at this;exact this
     have hml3 : ml ≤ 2000000:=by have:=hml2.out;omega
     have hnl3 : nl ≤ 2000000:=by have:=hnl2.out;omega
     rw [hnl.out,hml.out]
     obtain ⟨lp,hlp⟩ : ∃ lp,Hid (ps.length = lp):=⟨_,rfl⟩
     rw [hlp.out] at HP hpl ⊢
     clear ih hm hB hl hc hq hn1 hn2 hnm hnv hln hsm hmv hlm hnl hml
     go_enter Tryz.func62,Tryz.ntmps62
     go_upto_region 1 with (fail)
     refine ja4 fun A2 W2 hA2 hW2 => ?_
     have hu0 : Hid (Up w W2):=by subst hW2;exact uq
     obtain ⟨q,hq⟩ : ∃ q,Hid (w.heap.size = q):=⟨_,rfl⟩
     have HQ : Hid (W2.heap[q]? = some (.cells #[.int .i64 k, .int .i64 n, .string nm, .slice pa lp cap, .slice na nl ncap, .slice ma ml mcap] RefT (0,0))):=by subst hW2;rw [← hq.out];exact jaa _ _ _ rfl
     rw [hq.out] at hA2
     clear hW2
     subst hA2
     go_wp2_with fail
     go_loopw [3] (fun i wr => ∃ j : Nat,j ≤ lp ∧ i = .int .i64 j ∧ Hid (∀ p ∈ ps.take j,Snd p) ∧ Up W2 wr) (fun i _ => lp - (intOf i).toNat)
     case atStart => exact ⟨0,Nat.zero_le _,rfl,(fun p hp => by simp at hp),uq⟩
     case round =>
      obtain ⟨j,hj,rfl,hX,hup⟩:=hrel
      have HU:=Lib.hid (hu0.out.trans hup)
      have HQr:=Lib.hid (hup.get HQ.out)
      have s0:=HQr.out
      obtain ⟨q0,p0,q1,p1,q2,p2,q3,p3,q4,p4,q5,p5,q9⟩:=uc6 s0;clear s0
      by_cases hlt : j < lp
      ·have hji : (j : Int) < lp:=by omega
       obtain ⟨p,b,off,u0,u1,u2,u3,u4,u5,hp,rfl,hb,c0,c1,c2,c3,c4,c5,ht⟩:=HP.out j hlt
       have hbw:=Nat.lt_of_lt_of_le hb HB.out.1
       have c0:=(HU.out.cells _ _ hbw).trans c0
       have c1:=(HU.out.cells _ _ hbw).trans c1
       have c2:=(HU.out.cells _ _ hbw).trans c2
       have c3:=(HU.out.cells _ _ hbw).trans c3
       have c4:=(HU.out.cells _ _ hbw).trans c4
       have c5:=(HU.out.cells _ _ hbw).trans c5
       have hbl:=Nat.lt_of_lt_of_le hbw HU.out.size
       have HT:=Lib.hid (fun W (hW : Up w W) => IH.out p [u0,u1,u2,u3,u4,u5] W (by have:=jdj (List.mem_of_getElem? hp);have:=hsum.out;have:=HB.out;omega) (ht.low (hW.below HB.out.1)) (Nat.le_trans HB.out.1 hW.size))
       have hnx : Hid (Snd p → ∀ y ∈ ps.take (j + 1),Snd y):=fun h y hy => by
        rw [List.take_add_one,hp,Option.toList_some] at hy
        rcases List.mem_append.1 hy with q | q
        ·exact hX.out y q
        ·rw [List.mem_singleton.1 q];exact h
       clear hp ht hlt
       go_wp2_with (first | (go_at_call 62;refine (HT.out _ (HU.out.trans (show Up wr _ from uq))).mono ?_;(rintro e w2 ⟨(_ | _),rfl,hbv,hu2⟩ <;> (have HV:=Lib.hid hbv;clear hbv))))
       ·go_ret
        exact ⟨false,rfl,(fun e => by cases e),HU.out.trans (show Up wr _ from uq)⟩
       ·exact ⟨⟨j + 1,by omega,by simp,hnx.out (HV.out (by first | rfl | trivial)),uq⟩,by simp [intOf];omega⟩
      ·obtain rfl : j = lp:=by omega
       have hall : Hid (∀ p ∈ ps,Snd p):=by have:=hX.out;rw [← hlp.out,List.take_length] at this;exact this
       clear hlt hX
       have hcase : (k = 13 ∨ k = 20) ∨ k = 14 ∨ k = 15 ∨ (k ≠ 13 ∧ k ≠ 20 ∧ k ≠ 14 ∧ k ≠ 15):=by omega
       have hne : Hid (1 ≤ j → ps ≠ []):=fun h e => by have:=hlp.out;rw [e] at this;simp at this;omega
       rcases hcase with hk | rfl | rfl | hk
       ·have HK:=Lib.hid hk
        rcases hk with rfl | rfl
        all_goals (go_wp2_with fail)
        all_goals go_ret
        all_goals exact ⟨_,rfl,(fun e => .mk (fun _ => hne.out (by have e2:=of_decide_eq_true e;omega)) (by omega) (by omega) hall.out),HU.out.trans (show Up wr _ from uq)⟩
       ·go_wp2_with fail
        all_goals go_ret
        all_goals (have hlj:=hlp.out;have hnl5:=hnl2.out;have hml5:=hml2.out)
        all_goals first
         | exact ⟨_,rfl,(fun e => .mk (by omega) (fun _ => ⟨by omega,by have e2:=of_decide_eq_true e;omega⟩) (by omega) hall.out),HU.out.trans (show Up wr _ from uq)⟩
         | exact ⟨false,rfl,(fun e => by cases e),HU.out.trans (show Up wr _ from uq)⟩
       ·go_wp2_with fail
        all_goals go_ret
        all_goals (have hlj:=hlp.out;have hnl5:=hnl2.out;have hml5:=hml2.out)
        all_goals first
         | exact ⟨_,rfl,(fun e => .mk (fun _ => hne.out (by omega)) (by omega) (fun _ => by have e2:=of_decide_eq_true e;omega) hall.out),HU.out.trans (show Up wr _ from uq)⟩
         | exact ⟨false,rfl,(fun e => by cases e),HU.out.trans (show Up wr _ from uq)⟩
       ·have HK:=Lib.hid hk
        have k1 : (k == 13) = false:=by simp;omega
        have k2 : (k == 20) = false:=by simp;omega
        have k3 : (k == 14) = false:=by simp;omega
        have k4 : (k == 15) = false:=by simp;omega
        clear hk
        go_wp2_with fail
        go_ret
        exact ⟨true,rfl,(fun _ => .mk (by have:=HK.out;omega) (by have:=HK.out;omega) (by have:=HK.out;omega) hall.out),HU.out.trans (show Up wr _ from uq)⟩
theorem jnX (us : List Value) (k : Int) (w : World) (h : us.length = 6) (h0 : us[0]? = some (.int .i64 k)) : Calls Tryz.prog 63 #[.agg us.toArray] w fun e w' => e = .returned (.bool (oneB k)) ∧ Up w w':=by
 match us,h with
 | [u0,u1,u2,u3,u4,u5],_ =>
   simp only [gQz,Option.some.injEq] at h0
   subst h0
   have hk:=k
   go_enter Tryz.func63,Tryz.ntmps63
   go_wp2_with fail
   all_goals go_ret
   all_goals refine ⟨?_,uq⟩
   all_goals (unfold oneB;simp_all)
def NF (t : Ty) : Prop:=t.kind = 16 → t.parts ≠ [] ∧ ∀ p ∈ t.parts,p.kind ≠ 16
theorem NF.flat {t : Ty} (h : NF t) : ∀ x ∈ t.flat,x.kind ≠ 16:=fun x hx => by
 unfold Ty.flat at hx
 split at hx
 ·rename_i hk;exact (h hk).2 x hx
 ·rename_i hk;rw [List.mem_singleton.1 hx];exact hk
theorem jkv {l : List Ty} (h : ∀ t ∈ l,NF t) : NF (jbi l):=by
 have hm : ∀ x ∈ l.flatMap Ty.flat,x.kind ≠ 16:=fun x hx => by
  obtain ⟨t,ht,hx⟩:=List.mem_flatMap.1 hx
  exact (h t ht).flat x hx
 have hb : ∀ k : Int,k ≠ 16 → NF (ja3 k):=fun k hk e => absurd e hk
 unfold jbi
 split
 ·exact hb 1 (by decide)
 split
 ·exact hb 2 (by decide)
 have ho : ∀ x ∈ outD (l.flatMap Ty.flat) (l.flatMap Ty.flat),x.kind ≠ 16:=fun x hx => hm x (jgl hx).1
 generalize outD (l.flatMap Ty.flat) (l.flatMap Ty.flat) = o at ho
 match o,ho with
 | [],_ => exact hb 3 (by decide)
 | [x],ho => exact fun e => absurd e (ho x (by simp))
 | x :: y :: r,ho => exact fun _ => ⟨by simp [jlV,Ty.parts],ho⟩
theorem jmr : ∀ (m : Nat) (t : Ty),t.nodes ≤ m → NF (jaA t):=by
 intro m
 induction m with
 | zero => intro t h;have:=t.nodes_pos;omega
 | succ m ih =>
   intro t h
   cases t with
   | mk k n nm ps ns ms =>
     rw [jcb]
     split
     ·refine jkv fun x hx => ?_
      obtain ⟨p,hp,rfl⟩:=List.mem_map.1 hx
      exact ih p (by have:=Ty.part_nodes (k:=k) (n:=n) (nm:=nm) (ns:=ns) (ms:=ms) hp;omega)
     ·rename_i hk
      exact fun e => absurd e hk
theorem jeL {l : List Ty} (h : ∀ p ∈ l,(jaA p).nodes ≤ p.nodes) : ((l.map jaA).map Ty.nodes).sum ≤ (l.map Ty.nodes).sum:=by
 induction l with
 | nil => exact Nat.le_refl _
 | cons x r ih =>
   have h1:=h x (by simp)
   have h2:=ih fun y hy => h y (by simp [hy])
   simp only [List.map_cons,List.sum_cons]
   omega
theorem Snd.given {x : Ty} (h : Snd x) (hl : Low x) (hn : x.nodes ≤ 200) : jbq x ∧ x.wide ≤ 1000000000000000 ∧ (x.kind = 20 → x.parts ≠ [] ∧ ∀ p ∈ x.parts,jbq p):=by
 have hw:=hl.wide
 have hw2 : x.wide ≤ 1000000000000000:=by omega
 refine ⟨h.text hw2,hw2,fun hk => ?_⟩
 cases h with
 | @mk k n nm ps ns ms h1 h2 h3 hp =>
   exact ⟨h1 (.inr (.inl hk)),fun p hp' => (hp p hp').text (Nat.le_trans (Ty.wide_part hp') hw2)⟩
theorem jjY {ps : List Ty} (hs : ∀ p ∈ ps,Snd p) (hl : ∀ p ∈ ps,Low p) (hn : (ps.map Ty.nodes).sum ≤ 200) : GivenD (ps.map jaA):=by
 have hsum:=jeL (l:=ps) fun p _ => jid _ p (Nat.le_refl _)
 refine ⟨fun t ht hk => ?_,fun t ht x hx => ?_,?_⟩
 ·obtain ⟨p,hp,rfl⟩:=List.mem_map.1 ht
  exact (jmr _ p (Nat.le_refl _) hk).1
 ·have h1 : x.nodes ≤ t.nodes:=by
   have:=jcU t
   have h2:=jd7 (List.mem_map_of_mem (f:=Ty.nodes) hx)
   omega
  have h2:=jd7 (List.mem_map_of_mem (f:=Ty.nodes) ht)
  obtain ⟨p,hp,rfl⟩:=List.mem_map.1 ht
  exact Snd.given ((hs p hp).norm.flat x hx) ((hl p hp).norm.flat x hx) (by omega)
 ·have h1:=jdB (ps.map jaA)
  have h2:=jc8 ((ps.map jaA).flatMap Ty.flat)
  unfold sumN at h2
  omega
def NP (B lo : Nat) (v : Value) : Nat → Prop:=fun x => (x < B ∨ lo ≤ x) ∧ v.ownBlock ≠ some x
theorem RowU.pushP {B lo : Nat} {W w' : World} {v v' : Value} {ts : List Ty} {t : Ty} {uss : List (List Value)} {u : List Value} (h : RowU (NP B lo v) lo W v ts uss) (hW : lo ≤ W.heap.size) (h6 : u.length = 6) (hT : TIn (NP B lo v) W u t)
  (hown : w'.ownsRow 0 RefT 6 v' (ts.length + 1) (uss.flatten ++ u)) (hg : W.grownBy w' v.ownBlock) (hb : v'.ownBlock = v.ownBlock ∨ ∃ g,v'.ownBlock = some g ∧ W.heap.size ≤ g) : RowU (NP B lo v') lo w' v' (ts ++ [t]) (uss ++ [u]):=by
 obtain ⟨h1,h2,h3,h4,h5⟩:=h
 have hk : ∀ {u : List Value} {t : Ty},TIn (NP B lo v) W u t → TIn (NP B lo v') w' u t:=fun hT => hT.keep fun x o hx ho => by
  have hlt:=(Array.getElem?_eq_some_iff.1 ho).1
  refine ⟨⟨hx.1,fun e => ?_⟩,(hg.block x hlt (fun e => hx.2 e.symm)).trans ho⟩
  rcases hb with q | ⟨g,q,q2⟩
  ·rw [q] at e;exact hx.2 e
  ·rw [q] at e;cases e;omega
 refine ⟨by simp [h1],fun u' hu => ?_,fun j u' t' hu ht => ?_,?_,fun g hg' => ?_⟩
 ·rcases List.mem_append.1 hu with q | q
  ·exact h2 u' q
  ·rw [List.mem_singleton.1 q];exact h6
 ·rcases Nat.lt_or_ge j ts.length with hj | hj
  ·rw [List.getElem?_append_left (by omega)] at hu
   rw [List.getElem?_append_left (by omega)] at ht
   exact hk (h3 j u' t' hu ht)
  ·have hjl:=(List.getElem?_eq_some_iff.1 ht).1
   simp at hjl
   obtain rfl : j = ts.length:=by omega
   rw [List.getElem?_append_right (by omega),h1,Nat.sub_self] at hu
   rw [List.getElem?_append_right (by omega),Nat.sub_self] at ht
   simp only [gQz,Option.some.injEq] at hu ht
   subst hu ht
   exact hk hT
 ·rw [List.flatten_append,List.length_append]
  simpa using hown
 ·rcases hb with q | ⟨g2,q,q2⟩
  ·exact h5 g (by rw [← q];exact hg')
  ·rw [q] at hg'
   cases hg'
   omega
theorem ElemsAt.more {N N' : Nat → Prop} {w : World} {ts : List Ty} {a : Option Addr} (h : ElemsAt N w ts a) (k : ∀ x,N x → x < w.heap.size → N' x) : ElemsAt N' w ts a:=fun j t ht => by
 obtain ⟨b,off,u1,u2,u3,u4,u5,e,c0,c1,c2,c3,c4,c5,hT⟩:=h j t ht
 exact ⟨b,off,u1,u2,u3,u4,u5,e,c0,c1,c2,c3,c4,c5,hT.more k⟩
theorem RowU.tin {B lo w0 : Nat} {w : World} {v : Value} {ts : List Ty} {uss : List (List Value)} (h : RowU (NP B lo v) lo w v ts uss) (hlo : w0 ≤ lo) (hpl : ts.length ≤ 2000000) {k n : Int} {nm : ByteArray} {nv mv : Value} {ns : List ByteArray} {ms : List Bool}
  (hn1 : -9223372036854775808 ≤ n) (hn2 : n ≤ 9223372036854775807) (hnm : nm.size ≤ 2000000) (hnv : RowV (fun x => x < B) w nv (ns.map .string)) (hln : ns.length ≤ 2000000) (hsm : ∀ s ∈ ns,s.size ≤ 2000000) (hmv : RowV (fun x => x < B) w mv (ms.map .bool)) (hlm : ms.length ≤ 2000000) :
  TIn (fun x => x < B ∨ w0 ≤ x) w [.int .i64 k, .int .i64 n, .string nm,v,nv,mv] (.mk k n nm ts ns ms):=by
 obtain ⟨a,cap,rfl,hc⟩:=h.form
 obtain ⟨h1,h2,h3,h4,h5⟩:=h
 have hr : ∀ {v : Value} {us : List Value},RowV (fun x => x < B) w v us → RowV (fun x => x < B ∨ w0 ≤ x) w v us:=fun ⟨T,h⟩ => ⟨T,h.keep fun g cs fz h1 h2 => ⟨.inl h1,h2⟩⟩
 refine .mk uss hn1 hn2 hnm (hr hnv) hln hsm (hr hmv) hlm h1 hpl hc (fun j u hj => ?_) (fun j u p hj hp => (h3 j u p hj hp).more fun x hx _ => hx.1.imp id fun q => Nat.le_trans hlo q)
 have h6:=h2 u (List.mem_of_getElem? hj)
 have hf:=jcf uss j u h2 hj
 obtain ⟨x,hx⟩ : ∃ x,u[0]? = some x:=⟨_,List.getElem?_eq_getElem (by omega)⟩
 obtain ⟨g,cap',cur,e,hg,_⟩:=jfI h4 ((hf 0 (by decide)).trans hx)
 injection e with e _ _
 refine ⟨g,0,e, .inr (Nat.le_trans hlo (h5 g (by rw [e];rfl))),h6,fun i hi => ?_⟩
 obtain ⟨y,hy⟩ : ∃ y,u[i]? = some y:=⟨_,List.getElem?_eq_getElem (by omega)⟩
 obtain ⟨g',_,_,e',_,hc'⟩:=jfI h4 ((hf i hi).trans hy)
 injection e' with e' _ _
 rw [e] at e'
 injection e' with e'
 injection e' with e' _ _
 subst e'
 rw [Nat.zero_add,hc',hy]
def NormR (B : Nat) (t : Ty) (w : World) (e : Ending) (w' : World) : Prop := ∃ us,e = .returned (.agg us.toArray) ∧ TIn (fun x => x < B ∨ w.heap.size ≤ x) w' us (jaA t) ∧ Up w w'
theorem jeQ {B q : Nat} {w w3 : World} {c0 c1 c2 c3 c4 c5 : Value} (hB : B ≤ q) (hq : w.heap.size = q) (hu : Up w w3) (h : w3.heap[q + 1]? = some (.cells #[c0,c1,c2,c3,c4,c5] RefT (0,0))) {u0 u1 u2 u3 u4 u5 : Value} {t : Ty} (hT : TIn (fun x => x < B ∨ q + 2 ≤ x) w3 [u0,u1,u2,u3,u4,u5] t) :
  TIn (fun x => x < B ∨ w.heap.size ≤ x) (jbc w3 (q + 1) 0 u0 u1 u2 u3 u4 u5) [u0,u1,u2,u3,u4,u5] t ∧ Up w (jbc w3 (q + 1) 0 u0 u1 u2 u3 u4 u5):=by
 refine ⟨hT.keep fun x o hx ho => ⟨?_,?_⟩,jcq hu (by omega) _ _ _ _ _ _ _⟩
 ·rcases hx with hx | hx
  ·exact .inl hx
  ·exact .inr (by omega)
 ·rw [jcr (fun e => ?_)]
  ·exact ho
  ·rcases hx with hx | hx <;> omega
theorem jiP {a : Act} {W : World} {q : Nat} {P : Ending → World → Prop} {u0 u1 u2 u3 u4 u5 : Value} (ha : a.tmps[2]?.getD undef = .pointer (some ⟨q,0,none⟩)) (hd : a.defers = []) (hb : W.heap[q]? = some (.cells #[u0,u1,u2,u3,u4,u5] RefT (0,0))) (h : P (.returned (.agg #[u0,u1,u2,u3,u4,u5])) W) : bodyPost Tryz.prog Tryz.f39 P Exit.ret a W:=by
 have s0:=hb
 obtain ⟨q0,p0,q1,p1,q2,p2,q3,p3,q4,p4,q5,p5,q9⟩:=uc6 s0;clear s0
 refine bodyPost_ret (v := .agg #[u0,u1,u2,u3,u4,u5]) (by simp [results,Tryz.results39,go_sem, *]) hd h
theorem RowU.other {B lo q : Nat} {W : World} {v : Value} {ts : List Ty} {uss : List (List Value)} (h : RowU (NP B lo v) lo W v ts uss) (hq : B ≤ q ∧ q < lo) (i : Nat) (x : Value) : RowU (NP B lo v) lo (W.setCell ⟨q,i,none⟩ x) v ts uss:=by
 obtain ⟨h1,h2,h3,h4,h5⟩:=h
 refine ⟨h1,h2,fun j u t hu ht => (h3 j u t hu ht).keep fun y o hy ho => ⟨hy,?_⟩,ja8 h4 fun g hg => ?_,h5⟩
 ·rw [ja2 (fun e => by rcases hy.1 with z | z <;> omega)]
  exact ho
 ·have:=h5 g hg
  exact ja2 (fun e => by omega) _
theorem jgc {ps : List Ty} {j : Nat} {p : Ty} (h : ps[j]? = some p) : (ps.take (j + 1)).map jaA = (ps.take j).map jaA ++ [jaA p]:=by
 rw [List.take_add_one,h,Option.toList_some,List.map_append]
 rfl
theorem jgn (B : Nat) : ∀ (m : Nat) (t : Ty) (us : List Value) (w : World),t.nodes ≤ m → m ≤ 200 → Snd t → TIs B w us t → B ≤ w.heap.size → Calls Tryz.prog 39 #[.agg us.toArray] w (NormR B t w):=by
 intro m
 induction m with
 | zero => intro t us w h;have:=t.nodes_pos;omega
 | succ m ih =>
   intro t us w hm h200 hs h hB
   have hlow:=h.lowT
   cases h with
   | @mk k n nm pa cap nv mv ps ns ms us hn1 hn2 hnm hnv hln hsm hmv hlm hl hpl hpc hc hq =>
     have hsum : Hid ((Ty.mk k n nm ps ns ms).nodes = 1 + sumN ps):=Ty.nodes_mk _ _ _ _ _ _
     have HP:=Lib.hid (fun (j : Nat) (hj : j < ps.length) => jcP hl hc hq hj)
     have IH:=Lib.hid ih
     have HB:=Lib.hid (And.intro hB (And.intro hm h200))
     have hsp : Hid (∀ p ∈ ps,Snd p):=by cases hs with | mk h1 h2 h3 hp => exact hp
     have hlp0 : Hid (∀ p ∈ ps,Low p):=by cases hlow with | mk h1 h2 hp => exact hp
     have hgiv : Hid (GivenD (ps.map jaA)):=jjY hsp.out hlp0.out (by have:=hsum.out;unfold sumN at this;omega)
     have HNV:=Lib.hid (And.intro hn1 (And.intro hn2 (And.intro hnm (And.intro hnv (And.intro hln (And.intro hsm (And.intro hmv hlm)))))))
     obtain ⟨na,ncap,rfl,_,_⟩:=hnv.form
     obtain ⟨ma,mcap,rfl,_,_⟩:=hmv.form
     obtain ⟨nl,hnl⟩ : ∃ nl,Hid ((ns.map Value.string).length = nl):=⟨_,rfl⟩
     obtain ⟨ml,hml⟩ : ∃ ml,Hid ((ms.map Value.bool).length = ml):=⟨_,rfl⟩
     rw [hnl.out,hml.out] at HNV ⊢
     obtain ⟨lp,hlp⟩ : ∃ lp,Hid (ps.length = lp):=⟨_,rfl⟩
     rw [hlp.out] at HP hpl ⊢
     obtain ⟨i0,hi,hz0,hz1,hz2⟩:=info_parts jgg
     clear ih hm hB hl hc hq hn1 hn2 hnm hnv hln hsm hmv hlm hs hlow
     go_enter Tryz.func39,Tryz.ntmps39
     go_upto_region 1 with (fail)
     refine ja4 fun A2 W2 hA2 hW2 => ?_
     have hu0 : Hid (Up w W2):=by subst hW2;exact uq
     obtain ⟨q,hq⟩ : ∃ q,Hid (w.heap.size = q):=⟨_,rfl⟩
     have HQ : Hid (W2.heap[q]? = some (.cells #[.int .i64 k, .int .i64 n, .string nm, .slice pa lp cap, .slice na nl ncap, .slice ma ml mcap] RefT (0,0))):=by subst hW2;rw [← hq.out];exact jah (ja9 _ _)
     have HQ2 : Hid (W2.heap[q + 1]? = some (.cells #[.int .i64 0, .int .i64 0, .string ⟨#[]⟩, .slice none 0 0, .slice none 0 0, .slice none 0 0] RefT (0,0))):=by subst hW2;rw [← hq.out];exact jaa _ _ _ (by simp only [gQw])
     have hqW : Hid (W2.heap.size = q + 2):=by subst hW2;unfold Hid;rw [← hq.out];simp only [gQw]
     rw [hq.out] at hA2
     clear hW2
     subst hA2
     go_wp2_with fail
     go_loopw [3,4] (fun l i wr => ∃ (j : Nat) (uss : List (List Value)),j ≤ lp ∧ i = .int .i64 j ∧ RowU (NP B W2.heap.size l) W2.heap.size wr l ((ps.take j).map jaA) uss ∧ Up W2 wr) (fun _ i _ => lp - (intOf i).toNat)
     case atStart => exact ⟨0,[],Nat.zero_le _,rfl,RowU.nil _ _ _,uq⟩
     case round =>
      obtain ⟨j,uss,hj,rfl,hrow,hup⟩:=hrel
      obtain ⟨la,lc,rfl,hlc⟩:=hrow.form
      have HU:=Lib.hid (hu0.out.trans hup)
      have HQr:=Lib.hid (hup.get HQ.out)
      have HQr2:=Lib.hid (hup.get HQ2.out)
      have s0:=HQr.out
      obtain ⟨q0,p0,q1,p1,q2,p2,q3,p3,q4,p4,q5,p5,q9⟩:=uc6 s0;clear s0
      have hlj : ((ps.take j).map jaA).length = j:=by rw [List.length_map,List.length_take,hlp.out];omega
      have HR:=Lib.hid hrow
      obtain ⟨jn,hjn⟩ : ∃ z,Hid (((ps.take j).map jaA).length = z):=⟨_,rfl⟩
      have hjj : jn = j:=hjn.out.symm.trans hlj
      rw [hjn.out] at HR hlc
      rw [hjn.out]
      subst hjj
      by_cases hlt : jn < lp
      ·have hji : (jn : Int) < lp:=by omega
       obtain ⟨p,b,off,u0,u1,u2,u3,u4,u5,hp,rfl,hb,c0,c1,c2,c3,c4,c5,ht⟩:=HP.out jn hlt
       have hbw:=Nat.lt_of_lt_of_le hb HB.out.1
       have c0:=(HU.out.cells _ _ hbw).trans c0
       have c1:=(HU.out.cells _ _ hbw).trans c1
       have c2:=(HU.out.cells _ _ hbw).trans c2
       have c3:=(HU.out.cells _ _ hbw).trans c3
       have c4:=(HU.out.cells _ _ hbw).trans c4
       have c5:=(HU.out.cells _ _ hbw).trans c5
       have hbl:=Nat.lt_of_lt_of_le hbw HU.out.size
       have HT:=Lib.hid (fun W (hW : Up w W) => IH.out p [u0,u1,u2,u3,u4,u5] W (by have:=jdj (List.mem_of_getElem? hp);have:=hsum.out;have:=HB.out;omega) (by have:=HB.out;omega) (hsp.out p (List.mem_of_getElem? hp)) (ht.low (hW.below HB.out.1)) (Nat.le_trans HB.out.1 hW.size))
       have hnx:=Lib.hid (jgc hp)
       clear hp ht hlt hrow
       go_wp2_with (first
        | (go_at_call 39;refine (HT.out _ (HU.out.trans (show Up wr _ from uq))).mono ?_;rintro e w4 ⟨us4,rfl,hT4,hu4⟩;obtain ⟨v1,v2,v3,v4,v5,rfl⟩:=hT4.six;obtain ⟨vn,vnm,vpa,vna,vma,vlp,vcp,vln,vcn,vlm,vcm,rfl,rfl,rfl,rfl,rfl⟩:=hT4.shapes;have HT4:=Lib.hid hT4;obtain ⟨xk,hxk⟩ : ∃ y,Hid ((jaA p).kind = y):=⟨_,rfl⟩;rw [hxk.out] at HT4 ⊢; have hupk:=(show Up wr w4 from uq);clear hT4)
        | (at_builtin;go_must (refine jae rfl _ _ 29 rfl RefT i0 (.agg #[.int .i64 0, .int .i64 0, .string ⟨#[]⟩, .slice none 0 0, .slice none 0 0, .slice none 0 0]) 6 104 Tryz.underlying29 hi hz0 hz1 hz2 rfl (by decide) (.slice la jn lc) jn uss.flatten rfl ?own _ 1 1 rfl ?_ rfl ?_ ?_ ?_ ?_;(have h9:=HR.out.own;rw [hjn.out] at h9;exact ja5 h9 (Up.alloc hupk _));(simp only [gQw]);(simp [Value.oneCell']);(unfold maxLen;omega);omega;intro sa' cap' w5 hown' hgrow hblk)))
       have hTW : TIn (NP B W2.heap.size (.slice la jn lc)) w4 [.int .i64 xk, .int .i64 vn, .string vnm, .slice vpa vlp vcp, .slice vna vln vcn, .slice vma vlm vcm] (jaA p):=HT4.out.more fun x hx _ => ⟨hx.imp id (fun z => Nat.le_trans hup.size z),fun e => by
        rcases hx with z | z
        ·have h1:=HR.out.far x e
         have h2:=hu0.out.size
         have h3:=HB.out.1
         omega
        ·obtain ⟨cur,hc⟩:=jbF HR.out.own e
         have:=ja0 hc
         omega⟩
       have hP:=RowU.pushP (HR.out.up (Up.alloc hupk (.cells #[.int .i64 xk, .int .i64 vn, .string vnm, .slice vpa vlp vcp, .slice vna vln vcn, .slice vma vlm vcm] RefT))) (Nat.le_trans hup.size (Up.alloc hupk _).size) rfl (hTW.up (Up.alloc (Up.refl w4) _)) (by rw [hjn.out];exact hown') hgrow (by simpa only [gQw] using hblk)
       rw [← hnx.out] at hP
       exact ⟨⟨jn + 1,_,by omega,by simp,hP,(hup.trans (Up.alloc hupk _)).grown hgrow (fun r e => HR.out.far r e)⟩,by simp [intOf];omega⟩
      ·obtain rfl : jn = lp:=by omega
       clear hlt hrow hlj
       have hall : ps.take jn = ps:=by rw [← hlp.out,List.take_length]
       rw [hall] at HR hjn
       have hqs : Hid (B ≤ q ∧ q < W2.heap.size):=by have:=hqW.out;have:=hq.out;have:=HB.out.1;unfold Hid;omega
       have HRW:=Lib.hid (HR.out.other hqs.out 3 (.slice la jn lc))
       have HQs : Hid ((wr.setCell ⟨q,3,none⟩ (.slice la jn lc)).heap[q + 1]? = some (.cells #[.int .i64 0, .int .i64 0, .string ⟨#[]⟩, .slice none 0 0, .slice none 0 0, .slice none 0 0] RefT (0,0))):=by
        unfold Hid
        rw [ja2 (by omega)]
        exact HQr2.out
       have HUs : Hid (Up w (wr.setCell ⟨q,3,none⟩ (.slice la jn lc))):=HU.out.setCell (by show w.heap.size ≤ q;have:=hq.out;omega) _
       have s1:=HQs.out
       obtain ⟨q0,p0,q1,p1,q2,p2,q3,p3,q4,p4,q5,p5,q9⟩:=uc6 s1;clear s1
       have s0:=HQr.out
       have w0c:=ja1 s0 0
       have w1c:=ja1 s0 1
       have w2c:=ja1 s0 2
       have w3c:=ja1 s0 3
       have w4c:=ja1 s0 4
       have w5c:=ja1 s0 5
       have w3f:=jab s0 3
       have wl:=ja0 s0
       simp only [gQa,gQz,gQs] at w0c w1c w2c w3c w4c w5c
       clear s0
       by_cases hk : k = 16
       ·subst hk
        have HUN : Hid (∀ W',Up (wr.setCell ⟨q,3,none⟩ (.slice la jn lc)) W' → Calls Tryz.prog 69 #[.slice la jn lc] W' (fun e w' => ∃ us,e = .returned (.agg us.toArray) ∧ TIn (fun x => x < B ∨ q + 2 ≤ x) w' us (jbi (ps.map jaA)) ∧ Up W' w')):=fun W' hW' => by
         obtain ⟨a',c',e,hc',hel⟩:=(HRW.out.up hW').elems
         have hd:=jg1 (fun x => NP B W2.heap.size (.slice la jn lc) x ∧ x < W'.heap.size) (ps.map jaA) a' c' W' (hel.more fun x h1 h2 => ⟨h1,h2⟩) hc' (by rw [hjn.out];omega) hgiv.out (fun x h => h.2)
         injection e with e1 e2 e3
         rw [hjn.out, ← e1, ← e3] at hd
         refine hd.mono ?_
         rintro e w' ⟨us,rfl,hT,hu⟩
         refine ⟨us,rfl,hT.more (fun x hx _ => ?_),hu⟩
         have h1:=hqW.out
         have h2:=hW'.size
         rw [jam] at h2
         have h3:=hup.size
         rcases hx with ⟨⟨z | z,_⟩,_⟩ | z
         ·exact .inl z
         ·exact .inr (by omega)
         ·exact .inr (by omega)
        clear hpl
        go_wp2_with (first
         | (go_at_call 69;refine (HUN.out _ uq).mono ?_;rintro e w6 ⟨us6,rfl,hT6,hu6⟩;obtain ⟨v1,v2,v3,v4,v5,rfl⟩:=hT6.six;obtain ⟨vn,vnm,vpa,vna,vma,vlp,vcp,vln,vcn,vlm,vcm,rfl,rfl,rfl,rfl,rfl⟩:=hT6.shapes;have HT6:=Lib.hid hT6;obtain ⟨xk,hxk⟩ : ∃ y,Hid ((jbi (ps.map jaA)).kind = y):=⟨_,rfl⟩;rw [hxk.out] at HT6 ⊢; have HU6:=Lib.hid (show Up (wr.setCell ⟨q,3,none⟩ (.slice la jn lc)) w6 from uq);have s6:=HU6.out.get HQs.out;have HS6:=Lib.hid s6;clear hT6;obtain ⟨q0,p0,q1,p1,q2,p2,q3,p3,q4,p4,q5,p5,q9⟩:=uc6 s6;clear s6))
        change bodyPost _ _ _ _ _ (jbc w6 (q + 1) 0 (.int .i64 xk) (.int .i64 vn) (.string vnm) (.slice vpa vlp vcp) (.slice vna vln vcn) (.slice vma vlm vcm))
        obtain ⟨hT9,hu9⟩:=jeQ (by have:=hq.out;have:=HB.out.1;omega) hq.out (HUs.out.trans HU6.out) HS6.out HT6.out
        exact jiP rfl rfl (jaT HS6.out _ _ _ _ _ _) ⟨_,rfl,by rw [jcb,if_pos rfl];exact hT9,hu9⟩
       ·have hk2 : (k == 16) = false:=beq_eq_false_iff_ne.2 hk
        go_wp2_with fail
        change bodyPost _ _ _ _ _ (jbc (wr.setCell ⟨q,3,none⟩ (.slice la jn lc)) (q + 1) 0 (.int .i64 k) (.int .i64 n) (.string nm) (.slice la jn lc) (.slice na nl ncap) (.slice ma ml mcap))
        have hrv : ∀ {v : Value} {us : List Value},RowV (fun x => x < B) w v us → RowV (fun x => x < B) (wr.setCell ⟨q,3,none⟩ (.slice la jn lc)) v us:=fun ⟨T,h⟩ => ⟨T,h.keep fun g cs fz h1 h2 => ⟨h1,by
         rw [ja2 (fun e => by have:=hqs.out;omega)]
         exact HU.out.get h2⟩⟩
        obtain ⟨n1,n2,n3,n4,n5,n6,n7,n8⟩:=HNV.out
        have hT6:=HRW.out.tin (w0:=q + 2) (k:=k) (by have:=hqW.out;omega) (by rw [hjn.out];exact hpl) n1 n2 n3 (hrv n4) n5 n6 (hrv n7) n8
        obtain ⟨hT9,hu9⟩:=jeQ (by have:=hq.out;have:=HB.out.1;omega) hq.out HUs.out HQs.out hT6
        exact jiP rfl rfl (jaT HQs.out _ _ _ _ _ _) ⟨_,rfl,by rw [jcb,if_neg hk];exact hT9,hu9⟩
theorem jl2 (B : Nat) (K : Int) (s : ByteArray) (x : Ty) (xs : List Value) (w : World) (hx : TIs B w xs x) (hB : B ≤ w.heap.size) (hn : x.nodes ≤ 60) : Calls Tryz.prog 29 #[.agg ([Value.int .i64 K,Value.string s] ++ xs).toArray] w fun e w' => ∃ b : Bool,e = .returned (.bool b) ∧ (b = true → 1 ≤ K ∧ K ≤ 5 ∧ (K = 2 ∨ K = 5 → Snd x ∧ oneB (jaA x).kind = true)) ∧ Up w w':=by
 obtain ⟨x0,x1,x2,x3,x4,x5,rfl⟩:=hx.six
 have HX:=Lib.hid (And.intro hx (And.intro hB hn))
 have HSD:=Lib.hid (fun W (hW : Up w W) => jkI B 60 x _ W HX.out.2.2 (HX.out.1.low (hW.below HX.out.2.1)) (Nat.le_trans HX.out.2.1 hW.size))
 have HNM:=Lib.hid (fun W (hW : Up w W) (hs : Snd x) => jgn B 60 x _ W HX.out.2.2 (by decide) hs (HX.out.1.low (hW.below HX.out.2.1)) (Nat.le_trans HX.out.2.1 hW.size))
 clear hx hB hn
 simp only [List.cons_append,List.nil_append]
 by_cases hk : K = 2 ∨ K = 5
 ·have hkk:=Lib.hid hk
  rcases hk with rfl | rfl
  all_goals (
   go_enter Tryz.func29,Tryz.ntmps29
   go_upto_region 1 with (fail)
   refine ja4 fun A0 W0 hA0 hW0 => ?_
   have hu0 : Hid (Up w W0):=by subst hW0;exact uq
   obtain ⟨qb,hqb⟩ : ∃ z,Hid (w.heap.size = z):=⟨_,rfl⟩
   first
    | (have hQ : Hid (W0.heap[qb]? = some (.cells #[.int .i64 2, .string s,x0,x1,x2,x3,x4,x5] 54 (0,0))):=by subst hW0;rw [← hqb.out];exact ja9 _ _)
    | (have hQ : Hid (W0.heap[qb]? = some (.cells #[.int .i64 5, .string s,x0,x1,x2,x3,x4,x5] 54 (0,0))):=by subst hW0;rw [← hqb.out];exact ja9 _ _)
   rw [hqb.out] at hA0
   clear hW0
   subst hA0
   have s0:=hQ.out
   obtain ⟨c0,cf0,c1,cf1,c2,cf2,c3,cf3,c4,cf4,c5,cf5,c6,cf6,c7,cf7,cl⟩:=uc8 s0;clear s0
   go_wp2_with (first
    | (go_at_call 62;refine (HSD.out _ (hu0.out.trans (show Up W0 _ from uq))).mono ?_;rintro e w2 ⟨(_ | _),rfl,hbv,hu2⟩ <;> (have HV:=Lib.hid hbv;clear hbv;have HU2:=Lib.hid (show Up W0 w2 from uq);have s2:=HU2.out.get hQ.out;obtain ⟨d0,df0,d1,df1,d2,df2,d3,df3,d4,df4,d5,df5,d6,df6,d7,df7,dl⟩:=uc8 s2;clear s2))
    | (go_at_call 39;refine (HNM.out _ (hu0.out.trans (show Up W0 _ from uq)) (HV.out (by first | rfl | trivial))).mono ?_;rintro e w3 ⟨us3,rfl,hT3,hu3⟩;obtain ⟨v1,v2,v3,v4,v5,rfl⟩:=hT3.six;clear hT3)
    | (go_at_call 63;refine (jnX _ _ _ rfl rfl).mono ?_;rintro e w4 ⟨rfl,hu4⟩))
   all_goals (first | go_ret | (trace_state;fail))
   all_goals first
    | exact ⟨false,rfl,(fun e => by cases e),hu0.out.trans (show Up W0 _ from uq)⟩
    | exact ⟨_,rfl,(fun e => ⟨by decide,by decide,fun _ => ⟨HV.out (by first | rfl | trivial),e⟩⟩),hu0.out.trans (show Up W0 _ from uq)⟩)
 ·have hkk:=Lib.hid hk
  have k2 : (K == 2) = false:=by simp;omega
  have k5 : (K == 5) = false:=by simp;omega
  clear hk
  go_enter Tryz.func29,Tryz.ntmps29
  go_wp2_with fail
  all_goals go_ret
  all_goals first
   | exact ⟨_,rfl,(fun e => ⟨by omega,by have e2:=of_decide_eq_true e;omega,fun h => absurd h hkk.out⟩),uq⟩
   | exact ⟨false,rfl,(fun e => by cases e),uq⟩
   | exact .inl ⟨rfl,uq⟩
end Go.Proofs.YtiaepldmgighbaaGreatDoor
namespace Go.Proofs.YtiaepldmgighbaaGreatDoor
end Go.Proofs.YtiaepldmgighbaaGreatDoor
