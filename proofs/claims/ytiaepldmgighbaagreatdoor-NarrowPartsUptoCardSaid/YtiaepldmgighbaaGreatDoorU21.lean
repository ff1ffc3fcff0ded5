import Derived.BigRegion
import Derived.BigQuiet
import Derived.Test.YtiaepldmgighbaaGreatDoorU14
import Derived.Test.YtiaepldmgighbaaGreatDoorU01
namespace Go.Proofs.YtiaepldmgighbaaGreatDoor
open Go.RowKit
set_option linter.unusedSimpArgs false
def RowAt (w : World) (g off : Nat) (xs : List Nat) : Prop := ∃ cs : Array Value,w.heap[g]? = some (.cells cs TpT (0,0)) ∧ ∀ j x,xs[j]? = some x → cs[off + j]? = some (ptrV x)
theorem RowAt.lt {w : World} {g off : Nat} {xs : List Nat} (h : RowAt w g off xs) : g < w.heap.size:=let ⟨_,h,_⟩:=h;ja0 h
theorem RowAt.cell {w : World} {g off : Nat} {xs : List Nat} (h : RowAt w g off xs) {j x : Nat} (hx : xs[j]? = some x) : w.cell? ⟨g,off + j,none⟩ = some (.pointer (some ⟨x,0,none⟩)):=by
 obtain ⟨cs,h1,h2⟩:=h
 exact (ja1 h1 _).trans (h2 j x hx)
theorem RowAt.ice {w : World} {g off : Nat} {xs : List Nat} (h : RowAt w g off xs) (i : Nat) : w.frozen? ⟨g,i,none⟩ = false:=by
 obtain ⟨cs,h1,_⟩:=h
 exact jab h1 i
theorem RowAt.keep {w w' : World} {g off : Nat} {xs : List Nat} (h : RowAt w g off xs) (k : w'.heap[g]? = w.heap[g]?) : RowAt w' g off xs:=by
 obtain ⟨cs,h1,h2⟩:=h
 exact ⟨cs,by rw [k];exact h1,h2⟩
theorem RowAt.set {w : World} {g off : Nat} {xs : List Nat} (h : RowAt w g off xs) {j : Nat} (x : Nat) (hj : j < xs.length) : RowAt (w.setCell ⟨g,off + j,none⟩ (.pointer (some ⟨x,0,none⟩))) g off (xs.set j x):=by
 obtain ⟨cs,h1,h2⟩:=h
 refine ⟨_,ja6 (i:=off + j) h1 _,fun i y hy => ?_⟩
 rw [List.getElem?_set] at hy
 by_cases hij : j = i
 ·subst hij
  rw [if_pos rfl,if_pos hj] at hy
  cases hy
  have:=h2 j _ (List.getElem?_eq_getElem hj)
  have hl:=(Array.getElem?_eq_some_iff.1 this).1
  rw [Array.getElem?_setIfInBounds_self_of_lt hl]
  rfl
 ·rw [if_neg hij] at hy
  rw [Array.getElem?_setIfInBounds_ne (by omega)]
  exact h2 i y hy
abbrev pv (x : Nat) : Value := .pointer (some ⟨x,0,none⟩)
theorem RowAt.drew {w : World} {g off : Nat} {xs : List Nat} (h : RowAt w g off xs) : RowAt w.drew g off xs:=h
theorem RowAt.swap {w : World} {g off i j : Nat} {A M C : List Nat} {x y : Nat} (h : RowAt w g off (A ++ x :: (M ++ y :: C))) (hi : A.length = i) (hj : A.length + 1 + M.length = j) :
  RowAt ((w.setCell ⟨g,off + i,none⟩ (pv y)).setCell ⟨g,off + j,none⟩ (pv x)).drew g off (A ++ y :: (M ++ x :: C)):=by
 subst hi hj
 have q1:=(h.set (j:=A.length) y (by simp)).set (j:=A.length + 1 + M.length) x (by simp;omega)
 rw [SortL.set_far] at q1
 exact q1
theorem RowAt.swap' {w : World} {g off i j : Nat} {A M C : List Nat} {x y : Nat} (h : RowAt w g off (A ++ x :: (M ++ y :: C))) (hi : A.length = i) (hj : A.length + 1 + M.length = j) :
  RowAt ((w.setCell ⟨g,off + j,none⟩ (pv x)).setCell ⟨g,off + i,none⟩ (pv y)).drew g off (A ++ y :: (M ++ x :: C)):=by
 subst hi hj
 have q1:=(h.set (j:=A.length + 1 + M.length) x (by simp;omega)).set (j:=A.length) y (by simp)
 rw [SortL.set_far'] at q1
 exact q1
theorem RowAt.first {w : World} {g off i : Nat} {A C : List Nat} {x : Nat} (h : RowAt w g off (A ++ x :: C)) (hi : A.length = i) : w.cell? ⟨g,off + i,none⟩ = some (pv x) :=
 h.cell (by rw [← hi,List.getElem?_append_right (Nat.le_refl _),Nat.sub_self];rfl)
theorem RowAt.second {w : World} {g off j : Nat} {A M C : List Nat} {x y : Nat} (h : RowAt w g off (A ++ x :: (M ++ y :: C))) (hj : A.length + 1 + M.length = j) : w.cell? ⟨g,off + j,none⟩ = some (pv y) :=
 h.cell (by
  rw [← hj,List.getElem?_append_right (by omega)]
  have e : A.length + 1 + M.length - A.length = M.length + 1:=by omega
  rw [e,gQs,List.getElem?_append_right (Nat.le_refl _),Nat.sub_self]
  rfl)
structure Inv (g : Nat) (I : World → Prop) : Prop where
 set : ∀ (W : World) (i : Nat) (v : Value),I W → I (W.setCell ⟨g,i,none⟩ v)
 drew : ∀ W : World,I W → I W.drew
set_option maxRecDepth 100000
set_option maxHeartbeats 3200000
theorem jge (I : World → Prop) (g off n cap : Nat) (hI : Inv g I) (p u m v q : List Nat) (f : Value) (w : World) (huv : u.length = v.length) (h : RowAt w g off (p ++ u ++ m ++ v ++ q)) (hn : (p ++ u ++ m ++ v ++ q).length = n) (hc : n ≤ cap) (hb : n ≤ 1000000) (hi : I w) :
  Calls Tryz.prog 219 #[.slice (some ⟨g,off,none⟩) n cap, .int .i64 p.length, .int .i64 (p.length + u.length + m.length : Nat), .int .i64 u.length,f] w fun e w' => e = .returned (.tuple #[]) ∧ RowAt w' g off (p ++ v ++ m ++ u ++ q) ∧ I w':=by
 have H:=Lib.hid (And.intro h (And.intro hI hi))
 have HL:=Lib.hid (And.intro hn huv)
 obtain ⟨a,ha⟩ : ∃ a,Hid (p.length = a):=⟨_,rfl⟩
 obtain ⟨b,hb'⟩ : ∃ b,Hid (p.length + u.length + m.length = b):=⟨_,rfl⟩
 obtain ⟨k,hk⟩ : ∃ k,Hid (u.length = k):=⟨_,rfl⟩
 have hsum : a + k + m.length = b ∧ b + k + q.length = n ∧ k = v.length:=by
  have h1:=ha.out;have h2:=hb'.out;have h3:=hk.out
  simp only [List.length_append] at hn
  omega
 have e1 : p.length = a:=ha.out
 have e2 : p.length + u.length + m.length = b:=hb'.out
 have e3 : u.length = k:=hk.out
 rw [e2,e1,e3]
 obtain ⟨s1,s2,s3⟩:=hsum
 have bi : (b : Int) + k ≤ n:=by omega
 have ai : (a : Int) + k ≤ b:=by omega
 have ni : (n : Int) ≤ 1000000:=by omega
 have ci : (n : Int) ≤ cap:=by omega
 have S:=Lib.hid (And.intro s1 (And.intro s2 s3))
 clear h hI hi hn huv e1 e2 e3 s1 s2 s3
 go_enter Tryz.func219,Tryz.ntmps219
 go_wp2_with fail
 go_loopw [10] (fun i wr => ∃ j : Nat,j ≤ k ∧ i = .int .i64 j ∧ RowAt wr g off (p ++ (v.take j ++ u.drop j) ++ m ++ (u.take j ++ v.drop j) ++ q) ∧ I wr) (fun i _ => k - (intOf i).toNat)
 case atStart => exact ⟨0,Nat.zero_le _,rfl,by simpa using H.out.1,H.out.2.2⟩
 case round =>
  obtain ⟨j,hj,rfl,hrow,hI⟩:=hrel
  by_cases hlt : j < k
  ·have hji : (j : Int) < k:=by omega
   obtain ⟨x,hx⟩ : ∃ x,u[j]? = some x:=⟨_,List.getElem?_eq_getElem (by have:=hk.out;omega)⟩
   obtain ⟨y,hy⟩ : ∃ y,v[j]? = some y:=⟨_,List.getElem?_eq_getElem (by have:=S.out.2.2;omega)⟩
   have hu1 : u.drop j = x :: u.drop (j + 1):=by rw [List.drop_eq_getElem_cons (List.getElem?_eq_some_iff.1 hx).1,(List.getElem?_eq_some_iff.1 hx).2]
   have hv1 : v.drop j = y :: v.drop (j + 1):=by rw [List.drop_eq_getElem_cons (List.getElem?_eq_some_iff.1 hy).1,(List.getElem?_eq_some_iff.1 hy).2]
   have hu2 : u.take (j + 1) = u.take j ++ [x]:=by rw [List.take_add_one,hx];rfl
   have hv2 : v.take (j + 1) = v.take j ++ [y]:=by rw [List.take_add_one,hy];rfl
   obtain ⟨A,hA⟩ : ∃ A,Hid (p ++ v.take j = A):=⟨_,rfl⟩
   obtain ⟨M,hM⟩ : ∃ M,Hid (u.drop (j + 1) ++ m ++ u.take j = M):=⟨_,rfl⟩
   obtain ⟨C,hC⟩ : ∃ C,Hid (v.drop (j + 1) ++ q = C):=⟨_,rfl⟩
   have hrow2 : RowAt wr g off (A ++ x :: (M ++ y :: C)):=by
    rw [← hA.out, ← hM.out, ← hC.out]
    rw [hu1,hv1] at hrow
    simpa using hrow
   have hfin : Hid (p ++ (v.take (j + 1) ++ u.drop (j + 1)) ++ m ++ (u.take (j + 1) ++ v.drop (j + 1)) ++ q = A ++ y :: (M ++ x :: C)):=by
    unfold Hid
    rw [← hA.out, ← hM.out, ← hC.out,hu2,hv2]
    simp
   have hAl : Hid (A.length = a + j ∧ A.length + 1 + M.length = b + j):=by
    have h1:=ha.out;have h2:=hb'.out;have h3:=hk.out;have h4:=S.out
    rw [← hA.out, ← hM.out]
    constructor <;> simp only [List.length_append,List.length_take,List.length_drop] <;> omega
   have x0:=hrow2.first hAl.out.1
   have y0:=hrow2.second hAl.out.2
   have f0:=hrow2.ice (off + (a + j))
   have f1:=hrow2.ice (off + (b + j))
   have gl:=hrow2.lt
   have hR2:=Lib.hid (hrow2.swap hAl.out.1 hAl.out.2)
   have hI2 : Hid (I (((wr.setCell ⟨g,off + (a + j),none⟩ (.pointer (some ⟨y,0,none⟩))).setCell ⟨g,off + (b + j),none⟩ (.pointer (some ⟨x,0,none⟩))).drew)):=H.out.2.1.drew _ (H.out.2.1.set _ _ _ (H.out.2.1.set _ _ _ hI))
   have t1 : ((a : Int) + j).toNat = a + j:=by omega
   have t2 : ((b : Int) + j).toNat = b + j:=by omega
   have b1 : (a : Int) + j < n:=by omega
   have b2 : (b : Int) + j < n:=by omega
   clear hx hy hu1 hv1 hu2 hv2 hrow hrow2 hI hlt
   go_wp2_with fail
   go_region
   go_wp2_with fail
   go_roundw
   case rel =>
    refine ⟨j + 1,by omega,by simp,?_,hI2.out⟩
    rw [hfin.out]
    exact hR2.out
   case measure => simp [intOf];omega
  ·obtain rfl : k = j:=by omega
   go_wp2_with fail
   go_end0
   refine ⟨rfl,?_,hI⟩
   have e1 : v.take k = v:=List.take_of_length_le (by have:=S.out.2.2;omega)
   have e2 : u.take k = u:=List.take_of_length_le (by have:=hk.out;omega)
   have e3 : u.drop k = []:=List.drop_eq_nil_of_le (by have:=hk.out;omega)
   have e4 : v.drop k = []:=List.drop_eq_nil_of_le (by have:=S.out.2.2;omega)
   rw [e1,e2,e3,e4,List.append_nil,List.append_nil] at hrow
   exact hrow
theorem jc7 (I : World → Prop) (g off n cap : Nat) (hI : Inv g I) (p u m v q : List Nat) (f : Value) (w : World) (huv : u.length = v.length) (h : RowAt w g off (p ++ u ++ m ++ v ++ q)) (hn : (p ++ u ++ m ++ v ++ q).length = n) (hc : n ≤ cap) (hb : n ≤ 1000000) (hi : I w)
  (a b k : Int) (ea : a = p.length) (eb : b = (p.length + u.length + m.length : Nat)) (ek : k = u.length) :
  Calls Tryz.prog 219 #[.slice (some ⟨g,off,none⟩) n cap, .int .i64 a, .int .i64 b, .int .i64 k,f] w fun e w' => e = .returned (.tuple #[]) ∧ RowAt w' g off (p ++ v ++ m ++ u ++ q) ∧ I w':=by
 subst ea eb ek
 exact jge I g off n cap hI p u m v q f w huv h hn hc hb hi
theorem jjH (I : World → Prop) (g off n cap : Nat) (hI : Inv g I) (p u v q : List Nat) (f : Value) (w : World) (hu : u ≠ []) (hv : v ≠ []) (h : RowAt w g off (p ++ u ++ v ++ q)) (hn : (p ++ u ++ v ++ q).length = n) (hc : n ≤ cap) (hb : n ≤ 1000000) (hi : I w)
  (a m b : Int) (ea : a = p.length) (em : m = (p.length + u.length : Nat)) (eb : b = (p.length + u.length + v.length : Nat)) :
  Calls Tryz.prog 206 #[.slice (some ⟨g,off,none⟩) n cap, .int .i64 a, .int .i64 m, .int .i64 b,f] w fun e w' => e = .returned (.tuple #[]) ∧ RowAt w' g off (p ++ v ++ u ++ q) ∧ I w':=by
 have H:=Lib.hid (And.intro h (And.intro hI hi))
 have hub:=List.length_pos_iff.2 hu
 have hvb:=List.length_pos_iff.2 hv
 have HN:=Lib.hid hn
 have HU:=Lib.hid (And.intro hu hv)
 simp only [List.length_append] at hn
 have d1 : m - a = u.length:=by omega
 have d2 : b - m = v.length:=by omega
 have b1 : 0 ≤ a:=by omega
 have b2 : a ≤ m:=by omega
 have b3 : m ≤ b:=by omega
 have b4 : b ≤ 1000000:=by omega
 have E:=Lib.hid (And.intro ea (And.intro em eb))
 have D:=Lib.hid (And.intro d1 d2)
 clear h hI hi hu hv ea em eb hn d1 d2 hub hvb
 go_enter Tryz.func206,Tryz.ntmps206
 go_wp2_with fail
 go_loopw [10,11] (fun i j wr => ∃ (P U V Q : List Nat),i = .int .i64 U.length ∧ j = .int .i64 V.length ∧ Hid (((P.length + U.length : Nat) : Int) = m ∧ (P ++ U ++ V ++ Q).length = n ∧ P ++ V ++ U ++ Q = p ++ v ++ u ++ q) ∧ 0 < U.length ∧ 0 < V.length ∧ RowAt wr g off (P ++ U ++ V ++ Q) ∧ I wr) (fun i j _ => (intOf i).toNat + (intOf j).toNat)
 case atStart => exact ⟨p,u,v,q,by rw [D.out.1],by rw [D.out.2],⟨E.out.2.1.symm,HN.out,rfl⟩,List.length_pos_iff.2 HU.out.1,List.length_pos_iff.2 HU.out.2,H.out.1,H.out.2.2⟩
 case round =>
  obtain ⟨P,U,V,Q,rfl,rfl,hh,hU,hV,hrow,hIw⟩:=hrel
  have hl:=hh.out.2.1
  simp only [List.length_append] at hl
  have hm:=hh.out.1
  have c1 : (U.length : Int) ≤ m:=by omega
  have c2 : (V.length : Int) ≤ 1000000:=by omega
  have c3 : m ≤ 1000000:=by omega
  have R:=Lib.hid (And.intro hrow hIw)
  have hne : ∀ i j : Nat,i ≠ j → ((i : Int) == (j : Int)) = false:=fun i j h => by simp only [beq_eq_false_iff_ne,ne_eq];omega
  rcases Nat.lt_trichotomy U.length V.length with hlt | heq | hgt
  ·-- the right one is longer
   obtain ⟨V1,hV1⟩ : ∃ V1,V1 = V.take (V.length - U.length):=⟨_,rfl⟩
   obtain ⟨V2,hV2⟩ : ∃ V2,V2 = V.drop (V.length - U.length):=⟨_,rfl⟩
   have hVV : V = V1 ++ V2:=by rw [hV1,hV2,List.take_append_drop]
   have l1 : V1.length = V.length - U.length:=by rw [hV1,List.length_take];omega
   have l2 : V2.length = U.length:=by rw [hV2,List.length_drop];omega
   have hi : (U.length : Int) < V.length:=by omega
   have hq:=hne U.length V.length (by omega)
   have K:=Lib.hid (And.intro hVV (And.intro l1 (And.intro l2 (And.intro hm hl))))
   clear hVV l1 l2 hV1 hV2 hm hl hrow hIw hlt hne
   go_wp2_with fail
   refine (jc7 I g off n cap H.out.2.1 P U V1 V2 Q f _ (by have:=K.out.2.2.1;omega) (by
    have:=R.out.1
    have e:=K.out.1
    rw [e] at this
    simpa using this) (by have:=hh.out.2.1;have e:=K.out.1;rw [e] at this;simpa using this) hc hb R.out.2 _ _ _ (by have:=K.out;omega) (by have:=K.out;omega) rfl).mono ?_
   rintro e w2 ⟨rfl,hr2,hi2⟩
   have R2:=Lib.hid (And.intro hr2 hi2)
   clear hr2 hi2
   go_wp2_with fail
   go_roundw
   case rel =>
    refine ⟨P,V2,V1,U ++ Q,by rw [K.out.2.2.1],?_,⟨by have:=K.out;omega,?_,?_⟩,by have:=K.out;omega,by have:=K.out;omega,?_,R2.out.2⟩
    ·have:=K.out.2.1
     have e : (V.length : Int) - U.length = V1.length:=by omega
     rw [e]
    ·have:=hh.out.2.1
     have e:=K.out.1
     rw [e] at this
     simp at this ⊢
     omega
    ·have:=hh.out.2.2
     rw [← this,K.out.1]
     simp
    ·have:=R2.out.1
     simpa using this
   case measure => simp [intOf];omega
  ·-- as long as one another
   have hq : ((U.length : Int) == (V.length : Int)) = true:=by simp only [beq_iff_eq];omega
   have hq2 : ((U.length : Int) != (V.length : Int)) = false:=by simp only [bne_eq_false_iff_eq];omega
   have K:=Lib.hid (And.intro heq (And.intro hm hl))
   clear hm hl hrow hIw heq hne
   go_wp2_with fail
   refine (jc7 I g off n cap H.out.2.1 P U [] V Q f _ K.out.1 (by simpa using R.out.1) (by simpa using hh.out.2.1) hc hb R.out.2 _ _ _ (by have:=K.out;omega) (by have:=K.out;simp;omega) rfl).mono ?_
   rintro e w2 ⟨rfl,hr2,hi2⟩
   have R2:=Lib.hid (And.intro hr2 hi2)
   clear hr2 hi2
   go_wp2_with fail
   go_end0
   refine ⟨rfl,?_,R2.out.2⟩
   have:=R2.out.1
   rw [List.append_nil] at this
   rw [← hh.out.2.2]
   exact this
  ·-- the left one is longer
   obtain ⟨U1,hU1⟩ : ∃ U1,U1 = U.take V.length:=⟨_,rfl⟩
   obtain ⟨U2,hU2⟩ : ∃ U2,U2 = U.drop V.length:=⟨_,rfl⟩
   have hUU : U = U1 ++ U2:=by rw [hU1,hU2,List.take_append_drop]
   have l1 : U1.length = V.length:=by rw [hU1,List.length_take];omega
   have l2 : U2.length = U.length - V.length:=by rw [hU2,List.length_drop]
   have hi : (V.length : Int) < U.length:=by omega
   have hq:=hne U.length V.length (by omega)
   have K:=Lib.hid (And.intro hUU (And.intro l1 (And.intro l2 (And.intro hm hl))))
   clear hUU l1 l2 hU1 hU2 hm hl hrow hIw hgt hne
   go_wp2_with fail
   refine (jc7 I g off n cap H.out.2.1 P U1 U2 V Q f _ K.out.2.1 (by
    have:=R.out.1
    have e:=K.out.1
    rw [e] at this
    simpa using this) (by have:=hh.out.2.1;have e:=K.out.1;rw [e] at this;simpa using this) hc hb R.out.2 _ _ _ (by have:=K.out;omega) (by have:=K.out;omega) (by have:=K.out;omega)).mono ?_
   rintro e w2 ⟨rfl,hr2,hi2⟩
   have R2:=Lib.hid (And.intro hr2 hi2)
   clear hr2 hi2
   go_wp2_with fail
   go_roundw
   case rel =>
    refine ⟨P ++ V,U2,U1,Q,?_,by rw [K.out.2.1],⟨by have:=K.out;simp;omega,?_,?_⟩,by have:=K.out;omega,by have:=K.out;omega,?_,R2.out.2⟩
    ·have:=K.out.2.2.1
     have e : (U.length : Int) - V.length = U2.length:=by omega
     rw [e]
    ·have:=hh.out.2.1
     have e:=K.out.1
     rw [e] at this
     simp at this ⊢
     omega
    ·have:=hh.out.2.2
     rw [← this,K.out.1]
     simp
    ·have:=R2.out.1
     simpa using this
   case measure => simp [intOf];omega
structure RowW (I : World → Prop) (g : Nat) (cs : Array Value) where
 W : World
 inv : I W
 row : W.heap[g]? = some (.cells cs TpT (0,0))
structure Cmp (I : World → Prop) (g b : Nat) (S : Nat → Prop) (cf : Nat → Nat → Int) : Prop where
 run : ∀ (W : World) (x y : Nat),I W → S x → S y → Calls Tryz.prog 142 #[.pointer (some ⟨x,0,none⟩), .pointer (some ⟨y,0,none⟩), .pointer (some ⟨b,0,none⟩)] W fun e W' => e = .returned (.int .i64 (cf x y)) ∧ I W' ∧ W'.heap[g]? = W.heap[g]?
abbrev ltC (cf : Nat → Nat → Int) (x y : Nat) : Bool:=decide (cf x y < 0)
theorem jay {P : Program} {id : Nat} {Q : Exit → Act → World → Prop} {a : Act} {w : World} {l : List Oper} (I : World → Prop) (g : Nat) (cs : Array Value) (hm : P.follows .mixedOrders = true) (hB : Region.lexB .any l.toArray = true) (hI : I w.drew) (hr : w.heap[g]? = some (.cells cs TpT (0,0)))
  (h : wpQuiet P l.toArray (fun w' => ∃ i : RowW I g cs,w' = i.W) (fun a' => ∀ w',(∃ i : RowW I g cs,w' = i.W) → Q .normal a' w') l a) : (Code.region id l.toArray true).wp P Q a w :=
 wp_region_quiet (C:=fun w' => ∃ i : RowW I g cs,w' = i.W) hm hB ⟨⟨_,hI,hr⟩,rfl⟩ (by simpa using h)
theorem Cmp.of {I : World → Prop} {g b : Nat} {S : Nat → Prop} {cf : Nat → Nat → Int} (h : Cmp I g b S cf) {cs : Array Value} (i : RowW I g cs) {x y : Nat} (hx : S x) (hy : S y) :
  Calls Tryz.prog 142 #[.pointer (some ⟨x,0,none⟩), .pointer (some ⟨y,0,none⟩), .pointer (some ⟨b,0,none⟩)] i.W fun e W' => e = .returned (.int .i64 (cf x y)) ∧ ∃ j : RowW I g cs,W' = j.W :=
 (h.run i.W x y i.inv hx hy).mono fun _ W' ⟨h1,h2,h3⟩ => ⟨h1,⟨W',h2,h3.trans i.row⟩,rfl⟩
theorem RowW.cell {I : World → Prop} {g : Nat} {cs : Array Value} {off j x : Nat} {xs : List Nat} (hc : ∀ j x,xs[j]? = some x → cs[off + j]? = some (ptrV x)) (hx : xs[j]? = some x) (i : RowW I g cs) : i.W.cell? ⟨g,off + j,none⟩ = some (.pointer (some ⟨x,0,none⟩)):=(ja1 i.row _).trans (hc j x hx)
abbrev cmpV (b : Nat) : Value := .func (.func lessF) #[] #[.pointer (some ⟨b,0,none⟩)]
theorem jiY {cf : Nat → Nat → Int} (ho : SortL.Swo (ltC cf)) {pl k : Nat} {s1 s2 s r r' t0 : List Nat} {v : Nat} (h : pl + s.length = k ∧ (s ++ r).Perm t0 ∧ SortL.Sorted (ltC cf) s) (hr : r = v :: r') (h1 : s1 ++ s2 = s ∧ ∀ y ∈ s2,ltC cf v y = true) (h2 : ∀ a t,s1 = a ++ [t] → ltC cf v t = false) :
  pl + (s1 ++ v :: s2).length = k + 1 ∧ ((s1 ++ v :: s2) ++ r').Perm t0 ∧ SortL.Sorted (ltC cf) (s1 ++ v :: s2):=by
 obtain ⟨g1,g2,g3⟩:=h
 obtain ⟨rfl,g4⟩:=h1
 subst hr
 refine ⟨by simp at g1 ⊢; omega,?_,SortL.ins_done ho g3 g4 h2⟩
 refine List.Perm.trans ?_ g2
 simp only [List.append_assoc,List.cons_append]
 exact (List.Perm.append_left s1 List.perm_middle.symm)
set_option maxHeartbeats 6400000
theorem jdA (I : World → Prop) (g off n cap b : Nat) (S : Nat → Prop) (cf : Nat → Nat → Int) (ho : SortL.Swo (ltC cf)) (hI : Inv g I) (hC : Cmp I g b S cf) (p q : List Nat) (x0 : Nat) (u : List Nat) (w : World) (hS : ∀ x ∈ x0 :: u,S x) (h : RowAt w g off (p ++ (x0 :: u) ++ q)) (hn : (p ++ (x0 :: u) ++ q).length = n) (_hc : n ≤ cap) (hb : n ≤ 1000000) (hi : I w)
  (a e0 : Int) (ea : a = p.length) (eb : e0 = (p.length + u.length + 1 : Nat)) :
  Calls Tryz.prog 195 #[.slice (some ⟨g,off,none⟩) n cap, .int .i64 a, .int .i64 e0,cmpV b] w fun e w' => e = .returned (.tuple #[]) ∧ (∃ z,z.Perm (x0 :: u) ∧ SortL.Sorted (ltC cf) z ∧ RowAt w' g off (p ++ z ++ q)) ∧ I w':=by
 obtain ⟨pl,hpl⟩ : ∃ pl,Hid (p.length = pl):=⟨_,rfl⟩
 obtain ⟨el,hel⟩ : ∃ el,Hid (p.length + u.length + 1 = el):=⟨_,rfl⟩
 have ea' : a = (pl : Int):=by rw [ea,hpl.out]
 have eb' : e0 = (el : Int):=by rw [eb,hel.out]
 subst ea' eb'
 have HN : Hid (el + q.length = n ∧ pl + u.length + 1 = el):=by
  unfold Hid
  have h1:=hpl.out
  have h2:=hel.out
  simp only [List.length_append,List.length_cons] at hn
  omega
 have H:=Lib.hid (And.intro h (And.intro hI (And.intro hi (And.intro hC (And.intro ho hS)))))
 have hb1 : pl + 1 ≤ el:=by have:=HN.out;omega
 have hb2 : el ≤ n:=by have:=HN.out;omega
 clear h hI hi hC ho hS hn ea eb
 go_enter Tryz.func195,Tryz.ntmps195
 go_wp2_with fail
 go_loopw [8] (fun i wr => ∃ (k : Nat) (s r : List Nat),i = .int .i64 k ∧ Hid (pl + s.length = k ∧ (s ++ r).Perm (x0 :: u) ∧ SortL.Sorted (ltC cf) s) ∧ 0 < s.length ∧ k ≤ el ∧ RowAt wr g off (p ++ s ++ r ++ q) ∧ I wr) (fun i _ => el - (intOf i).toNat)
 case atStart => exact ⟨pl + 1,[x0],u,by simp,⟨rfl,by simp,by simp⟩,by simp,by omega,by simpa using H.out.1,H.out.2.2.1⟩
 case round =>
  obtain ⟨k,s,r,rfl,hh,hs0,hk,hrow,hIw⟩:=hrel
  by_cases hlt : k < el
  ·have hki : (k : Int) < el:=by omega
   obtain ⟨v,r',hr⟩ : ∃ v r',r = v :: r':=by
    cases r with
    | nil =>
      have h1:=hh.out.2.1.length_eq
      have h2:=hh.out.1
      have h3:=HN.out
      simp at h1
      omega
    | cons v r' => exact ⟨v,r',rfl⟩
   have hsv : S v:=H.out.2.2.2.2.2 v (hh.out.2.1.mem_iff.1 (by rw [hr];simp))
   have hss : ∀ x ∈ s,S x:=fun x hx => H.out.2.2.2.2.2 x (hh.out.2.1.mem_iff.1 (by simp [hx]))
   have R:=Lib.hid (And.intro hrow (And.intro hIw (And.intro hr (And.intro hsv hss))))
   clear hrow hIw hr hsv hss hlt
   go_wp2_with fail
   go_loopw [9] (fun j wr => ∃ (jn : Nat) (s1 s2 : List Nat),j = .int .i64 jn ∧ Hid (pl + s1.length = jn ∧ s1 ++ s2 = s ∧ ∀ y ∈ s2,ltC cf v y = true) ∧ jn ≤ k ∧ RowAt wr g off (p ++ s1 ++ v :: (s2 ++ r' ++ q)) ∧ I wr) (fun j _ => (intOf j).toNat)
   case atStart => exact ⟨k,s,[],rfl,⟨hh.out.1,by simp,by simp⟩,Nat.le_refl _,by have:=R.out.1;rw [R.out.2.2.1] at this;simpa using this,R.out.2.1⟩
   case round =>
    obtain ⟨jn,s1,s2,rfl,h1,hj,hrow,hIw⟩:=hrel
    rcases List.eq_nil_or_concat s1 with e | ⟨s',t,e⟩
    ·subst e
     have hjn : jn = pl:=by have:=h1.out.1;simp at this;omega
     have hd : decide (pl < jn) = false:=by simp only [decide_eq_false_iff_not];omega
     have R1:=Lib.hid (And.intro hrow (And.intro hIw (jiY H.out.2.2.2.2.1 hh.out R.out.2.2.1 h1.out.2 (fun a t e => by simp at e))))
     obtain ⟨cs,hcs,hcv⟩:=hrow
     have hId:=H.out.2.1.drew _ hIw
     clear hIw hcv hjn
     go_wp2_with fail
     haveI : Nonempty (RowW I g cs):=⟨⟨_,hId,hcs⟩⟩
     refine jay I g cs (by kernel_rfl) (by kernel_rfl) hId hcs ?_
     repeat (go_big_quiet_step (fail))
     refine wpQuiet_nil ?_
     intro w2 hw'
     obtain ⟨i2,hw''⟩:=hw'
     have hi2 : I w2:=hw'' ▸ i2.inv
     have hr2 : w2.heap[g]? = some (.cells cs TpT (0,0)):=hw'' ▸ i2.row
     clear hw''
     have R2 : Hid (RowAt w2 g off (p ++ [] ++ v :: (s2 ++ r' ++ q)) ∧ I w2):=⟨R1.out.1.keep (hr2.trans hcs.symm),hi2⟩
     clear hcs hId hi2 hr2
     go_wp2_with fail
     go_roundw
     case rel => exact ⟨k + 1,[] ++ v :: s2,r',by simp,R1.out.2.2,by simp,by omega,by simpa using R2.out.1,R2.out.2⟩
     case measure => simp [intOf];omega
    ·rw [List.concat_eq_append] at e
     subst e
     obtain ⟨jm,rfl⟩ : ∃ jm,jn = jm + 1:=⟨jn - 1,by have:=h1.out.1;simp at this;omega⟩
     have hjm : Hid (pl + s'.length = jm):=by have:=h1.out.1;unfold Hid;simp at this;omega
     have hjl : pl ≤ jm:=by have:=hjm.out;omega
     have hd : decide ((pl : Int) < (jm : Int) + 1) = true:=by simp only [decide_eq_true_eq];omega
     have hst : S t:=R.out.2.2.2.2 t (by rw [← h1.out.2.1];simp)
     have hsv : S v:=R.out.2.2.2.1
     have hrow2 : RowAt wr g off ((p ++ s') ++ t :: ([] ++ v :: (s2 ++ r' ++ q))):=by simpa using hrow
     have hal : Hid ((p ++ s').length = jm ∧ (p ++ s').length + 1 + ([] : List Nat).length = jm + 1):=by
      have q1:=hjm.out
      have q2:=hpl.out
      constructor <;> simp <;> omega
     have x0:=hrow2.first hal.out.1
     have y0:=hrow2.second hal.out.2
     have R1:=Lib.hid (And.intro hrow2 (And.intro hst (And.intro hsv hrow)))
     obtain ⟨cs,hcs,hcv⟩:=hrow2
     have hId:=H.out.2.1.drew _ hIw
     have r0 : ∀ i : RowW I g cs,i.W.cell? ⟨g,off + jm,none⟩ = some (.pointer (some ⟨t,0,none⟩)):=fun i => RowAt.first (w:=i.W) ⟨cs,i.row,hcv⟩ hal.out.1
     have r1 : ∀ i : RowW I g cs,i.W.cell? ⟨g,off + (jm + 1),none⟩ = some (.pointer (some ⟨v,0,none⟩)):=fun i => RowAt.second (w:=i.W) ⟨cs,i.row,hcv⟩ hal.out.2
     have t1 : ((jm : Int) + 1).toNat = jm + 1:=by omega
     have hjn : (jm : Int) + 1 < n:=by omega
     have hj0 : (0 : Int) ≤ (jm : Int) + 1:=by omega
     have hj2 : (jm : Int) < n:=by omega
     have hw0 : IntKind.i64.wrap (jm : Int) = jm:=IntWalk.i64_in _ (by omega)
     have HC:=Lib.hid hcs
     clear hst hsv hrow hIw hcv x0 y0
     go_wp2_with fail
     haveI : Nonempty (RowW I g cs):=⟨⟨_,hId,hcs⟩⟩
     refine jay I g cs (by kernel_rfl) (by kernel_rfl) hId hcs ?_
     repeat (go_big_quiet_step ((go_at_call 142;rename_i i;exact H.out.2.2.2.1.of i R1.out.2.2.1 R1.out.2.1)))
     refine wpQuiet_nil ?_
     intro w2 hw'
     obtain ⟨i2,hw''⟩:=hw'
     have hi2 : I w2:=hw'' ▸ i2.inv
     have hr2 : w2.heap[g]? = some (.cells cs TpT (0,0)):=hw'' ▸ i2.row
     clear hw''
     have hk2 : w2.heap[g]? = wr.heap[g]? := hr2.trans HC.out.symm
     have q0:=R1.out.1.keep hk2
     have R2:=Lib.hid (And.intro q0 hi2)
     clear hcs hId r0 r1 hw0 hr2 hi2 hk2 i2
     by_cases hcm : cf v t < 0
     ·have HCM : Hid (ltC cf v t = true):=by unfold Hid;simpa using hcm
      have x0:=q0.first hal.out.1
      have y0:=q0.second hal.out.2
      have f0:=q0.ice (off + jm)
      have f1:=q0.ice (off + (jm + 1))
      have gl:=q0.lt
      have hR2:=Lib.hid (q0.swap' hal.out.1 hal.out.2)
      have hI2 : Hid (I ((w2.setCell ⟨g,off + (jm + 1),none⟩ (pv t)).setCell ⟨g,off + jm,none⟩ (pv v)).drew):=H.out.2.1.drew _ (H.out.2.1.set _ _ _ (H.out.2.1.set _ _ _ R2.out.2))
      clear q0
      go_wp2_with fail
      go_region
      go_wp2_with fail
      go_roundw
      case rel =>
       refine ⟨jm,s',t :: s2,by simp,⟨hjm.out,by rw [← h1.out.2.1];simp,fun y hy => ?_⟩,by omega,by have:=hR2.out;simpa using this,hI2.out⟩
       rcases List.mem_cons.1 hy with rfl | hy
       ·exact HCM.out
       ·exact h1.out.2.2 y hy
      case measure => simp [intOf] <;> omega
     ·have HCM : Hid (ltC cf v t = false):=by unfold Hid;simpa using hcm
      have R3:=Lib.hid (jiY H.out.2.2.2.2.1 hh.out R.out.2.2.1 h1.out.2 (fun a t' e => by
       have:=List.append_inj' e rfl
       have q : t = t':=by simpa using this.2
       rw [← q]
       exact HCM.out))
      clear q0
      go_wp2_with fail
      go_roundw
      case rel => exact ⟨k + 1,(s' ++ [t]) ++ v :: s2,r',by simp,R3.out,by simp;omega,by omega,by have:=R2.out.1;simpa using this,R2.out.2⟩
      case measure => simp [intOf];omega
  ·have hki : ¬ (k : Int) < el:=by omega
   have R:=Lib.hid (And.intro hrow hIw)
   clear hrow hIw
   go_wp2_with fail
   go_end0
   have hr : r = []:=by
    have h1:=hh.out.2.1.length_eq
    have h2:=hh.out.1
    have h3:=HN.out
    simp at h1
    exact List.length_eq_zero_iff.1 (by omega)
   subst hr
   refine ⟨rfl,⟨s,by have:=hh.out.2.1;simpa using this,hh.out.2.2,by have:=R.out.1;simpa using this⟩,R.out.2⟩
def jeb (I : World → Prop) (g off : Nat) (cf : Nat → Nat → Int) (p t q : List Nat) (e : Ending) (w' : World) : Prop:=e = .returned (.tuple #[]) ∧ (∃ z,z.Perm t ∧ SortL.Sorted (ltC cf) z ∧ RowAt w' g off (p ++ z ++ q)) ∧ I w'
theorem jo2 {cf : Nat → Nat → Int} (ho : SortL.Swo (ltC cf)) {v : List Nat} (hs : SortL.Sorted (ltC cf) v) {x y h : Nat} (hy : v[h]? = some y) (hc : ltC cf y x = true) : ∀ k z,k < h + 1 → v[k]? = some z → ltC cf z x = true:=fun _ _ hk hz => ho.le_lt (SortL.sorted_le ho hs (by omega) hz hy) hc
theorem job {cf : Nat → Nat → Int} (ho : SortL.Swo (ltC cf)) {v : List Nat} (hs : SortL.Sorted (ltC cf) v) {x y h : Nat} (hy : v[h]? = some y) (hc : ltC cf y x = false) : ∀ k z,h ≤ k → v[k]? = some z → ltC cf z x = false:=fun _ _ hk hz => ho.le_trans hc (SortL.sorted_le ho hs hk hy hz)
theorem jgd (I : World → Prop) (g off n cap b : Nat) (S : Nat → Prop) (cf : Nat → Nat → Int) (ho : SortL.Swo (ltC cf)) (hI : Inv g I) (hC : Cmp I g b S cf) (p q v : List Nat) (x : Nat) (w : World) (hv : SortL.Sorted (ltC cf) v) (hS : ∀ z ∈ x :: v,S z) (h : RowAt w g off (p ++ (x :: v) ++ q)) (hn : (p ++ (x :: v) ++ q).length = n) (hb : n ≤ 1000000) (hi : I w)
  (a0 m0 e0 : Int) (ea : a0 = p.length) (em : m0 = (p.length + 1 : Nat)) (ee : e0 = (p.length + 1 + v.length : Nat)) :
  Calls Tryz.prog 196 #[.slice (some ⟨g,off,none⟩) n cap, .int .i64 a0, .int .i64 m0, .int .i64 e0,cmpV b] w (jeb I g off cf p (x :: v) q):=by
 obtain ⟨a,ha⟩ : ∃ a,Hid (p.length = a):=⟨_,rfl⟩
 obtain ⟨m,hm⟩ : ∃ m,Hid (p.length + 1 = m):=⟨_,rfl⟩
 obtain ⟨el,hel⟩ : ∃ el,Hid (p.length + 1 + v.length = el):=⟨_,rfl⟩
 have ea' : a0 = (a : Int):=by rw [ea,ha.out]
 have em' : m0 = (m : Int):=by rw [em,hm.out]
 have ee' : e0 = (el : Int):=by rw [ee,hel.out]
 subst ea' em' ee'
 have HN : Hid (el + q.length = n ∧ m + v.length = el ∧ m = a + 1):=by
  unfold Hid
  have h1:=ha.out
  have h2:=hel.out
  have h3:=hm.out
  simp only [List.length_append,List.length_cons] at hn
  omega
 have H:=Lib.hid (And.intro h (And.intro hI (And.intro hi (And.intro hC (And.intro ho (And.intro hS hv))))))
 have hb1 : m ≤ el:=by have:=HN.out;omega
 have hb2 : el ≤ n:=by have:=HN.out;omega
 have hb3 : a < m:=by have:=HN.out;omega
 have hq : ((m : Int) - a == 1) = true:=by have:=HN.out;simp only [beq_iff_eq];omega
 clear h hI hi hC ho hS hn ea em ee hv
 go_enter Tryz.func196,Tryz.ntmps196
 go_wp2_with fail
 go_loopw [10,11] (fun i j wr => ∃ (i' j' : Nat),i = .int .i64 i' ∧ j = .int .i64 j' ∧ m ≤ i' ∧ i' ≤ j' ∧ j' ≤ el ∧ Hid ((∀ k z,k < i' - m → v[k]? = some z → ltC cf z x = true) ∧ ∀ k z,j' - m ≤ k → v[k]? = some z → ltC cf z x = false) ∧ RowAt wr g off (p ++ (x :: v) ++ q) ∧ I wr) (fun i j _ => (intOf j).toNat - (intOf i).toNat)
 case atStart =>
  refine ⟨m,el,rfl,rfl,Nat.le_refl _,hb1,Nat.le_refl _,⟨fun _ _ hk => by omega,fun k z hk hz => ?_⟩,H.out.1,H.out.2.2.1⟩
  have:=(List.getElem?_eq_some_iff.1 hz).1
  have:=HN.out
  omega
 case round =>
  obtain ⟨i,j,rfl,rfl,h1,h2,h3,hh,hrow,hIw⟩:=hrel
  by_cases hlt : i < j
  ·have hij : (i : Int) < j:=by omega
   obtain ⟨h,hhd⟩ : ∃ h,h = (i + j) / 2:=⟨_,rfl⟩
   have hm1 : i ≤ h:=by omega
   have hm2 : h < j:=by omega
   have e2 : ((i : Int) + j) / 2 = (h : Int):=by omega
   obtain ⟨y,hy⟩ : ∃ y,v[h - m]? = some y:=⟨_,List.getElem?_eq_getElem (by have:=HN.out;omega)⟩
   have hsx : S x:=H.out.2.2.2.2.2.1 x (by simp)
   have hsy : S y:=H.out.2.2.2.2.2.1 y (by simp [List.mem_of_getElem? hy])
   have hrx : (p ++ (x :: v) ++ q)[a]? = some x:=by
    have:=ha.out
    rw [List.append_assoc, ← this,List.getElem?_append_right (Nat.le_refl _),Nat.sub_self]
    rfl
   have hry : (p ++ (x :: v) ++ q)[h]? = some y:=by
    have h4:=ha.out
    have h5:=HN.out
    have h6:=(List.getElem?_eq_some_iff.1 hy).1
    rw [List.append_assoc,List.getElem?_append_right (by omega),List.getElem?_append_left (by simp;omega)]
    have e3 : h - p.length = (h - m) + 1:=by omega
    rw [e3,gQs]
    exact hy
   have R1:=Lib.hid (And.intro hrow (And.intro hsx (And.intro hsy hy)))
   obtain ⟨cs,hcs,hcv⟩:=hrow
   have hId:=H.out.2.1.drew _ hIw
   have r0 : ∀ i : RowW I g cs,i.W.cell? ⟨g,off + a,none⟩ = some (.pointer (some ⟨x,0,none⟩)):=fun i => RowW.cell hcv hrx i
   have r1 : ∀ i : RowW I g cs,i.W.cell? ⟨g,off + h,none⟩ = some (.pointer (some ⟨y,0,none⟩)):=fun i => RowW.cell hcv hry i
   have l1 : (a : Int) < n:=by omega
   have l2 : (h : Int) < n:=by omega
   have HC:=Lib.hid hcs
   have HH:=Lib.hid (And.intro hm1 hm2)
   clear hIw hcv hrx hry hsx hsy hy hhd hlt
   go_wp2_with fail
   clear e2
   haveI : Nonempty (RowW I g cs):=⟨⟨_,hId,hcs⟩⟩
   refine jay I g cs (by kernel_rfl) (by kernel_rfl) hId hcs ?_
   repeat (go_big_quiet_step ((go_at_call 142;rename_i i;exact H.out.2.2.2.1.of i R1.out.2.2.1 R1.out.2.1)))
   refine wpQuiet_nil ?_
   intro w2 hw'
   obtain ⟨i2,hw''⟩:=hw'
   have hi2 : I w2:=hw'' ▸ i2.inv
   have hr2 : w2.heap[g]? = some (.cells cs TpT (0,0)):=hw'' ▸ i2.row
   clear hw''
   have R2 : Hid (RowAt w2 g off (p ++ (x :: v) ++ q) ∧ I w2):=⟨R1.out.1.keep (hr2.trans HC.out.symm),hi2⟩
   clear hcs hId r0 r1 hr2 hi2 i2
   by_cases hcm : cf y x < 0
   ·have HCM : Hid (ltC cf y x = true):=by unfold Hid;simpa using hcm
    go_wp2_with fail
    go_roundw
    case rel =>
     refine ⟨h + 1,j,by simp,rfl,by omega,by omega,by omega,⟨fun k z hk hz => ?_,hh.out.2⟩,R2.out⟩
     exact jo2 H.out.2.2.2.2.1 H.out.2.2.2.2.2.2 R1.out.2.2.2 HCM.out k z (by omega) hz
    case measure => simp [intOf] <;> omega
   ·have HCM : Hid (ltC cf y x = false):=by unfold Hid;simpa using hcm
    go_wp2_with fail
    go_roundw
    case rel =>
     refine ⟨i,h,rfl,rfl,by omega,by omega,by omega,⟨hh.out.1,fun k z hk hz => ?_⟩,R2.out⟩
     exact job H.out.2.2.2.2.1 H.out.2.2.2.2.2.2 R1.out.2.2.2 HCM.out k z (by omega) hz
    case measure => simp [intOf] <;> omega
  ·obtain rfl : i = j:=by omega
   have hij : ¬ (i : Int) < i:=by omega
   have R:=Lib.hid (And.intro hrow hIw)
   clear hrow hIw hlt
   have HL:=Lib.hid (And.intro h1 (And.intro h2 h3))
   go_wp2_with fail
   go_loopw [13] (fun kv wr => ∃ kk d : Nat,kv = .int .i64 kk ∧ Hid (a + d = kk) ∧ a ≤ kk ∧ kk + 1 ≤ i ∧ RowAt wr g off (p ++ v.take d ++ x :: (v.drop d ++ q)) ∧ I wr) (fun kv _ => i - (intOf kv).toNat)
   case atStart => exact ⟨a,0,rfl,rfl,Nat.le_refl _,by have:=HN.out;omega,by have:=R.out.1;simpa using this,R.out.2⟩
   case round =>
    obtain ⟨kk,d,rfl,hd,hk1,hk2,hrow,hIw⟩:=hrel
    by_cases hlt : kk + 1 < i
    ·have hki : (kk : Int) < (i : Int) - 1:=by omega
     obtain ⟨y,hy⟩ : ∃ y,v[d]? = some y:=⟨_,List.getElem?_eq_getElem (by have:=HN.out;have:=HL.out;have:=hd.out;omega)⟩
     have hv1 : v.drop d = y :: v.drop (d + 1):=by rw [List.drop_eq_getElem_cons (List.getElem?_eq_some_iff.1 hy).1,(List.getElem?_eq_some_iff.1 hy).2]
     have hv2 : v.take (d + 1) = v.take d ++ [y]:=by rw [List.take_add_one,hy];rfl
     have hrow2 : RowAt wr g off ((p ++ v.take d) ++ x :: ([] ++ y :: (v.drop (d + 1) ++ q))):=by rw [hv1] at hrow;simpa using hrow
     have hal : Hid ((p ++ v.take d).length = kk ∧ (p ++ v.take d).length + 1 + ([] : List Nat).length = kk + 1):=by
      have q1:=hd.out
      have q2:=ha.out
      have q3:=(List.getElem?_eq_some_iff.1 hy).1
      constructor <;> simp <;> omega
     have x0:=hrow2.first hal.out.1
     have y0:=hrow2.second hal.out.2
     have f0:=hrow2.ice (off + kk)
     have f1:=hrow2.ice (off + (kk + 1))
     have gl:=hrow2.lt
     have hR2:=Lib.hid (hrow2.swap hal.out.1 hal.out.2)
     have hI2 : Hid (I ((wr.setCell ⟨g,off + kk,none⟩ (pv y)).setCell ⟨g,off + (kk + 1),none⟩ (pv x)).drew):=H.out.2.1.drew _ (H.out.2.1.set _ _ _ (H.out.2.1.set _ _ _ hIw))
     have t1 : ((kk : Int) + 1).toNat = kk + 1:=by omega
     have l1 : (kk : Int) + 1 < n:=by have:=HL.out;omega
     have l2 : (kk : Int) < n:=by have:=HL.out;omega
     have l3 : (0 : Int) ≤ (kk : Int) + 1:=by omega
     have HV:=Lib.hid hv2
     clear hy hv1 hv2 hrow hrow2 hIw hlt
     go_wp2_with fail
     go_region
     go_wp2_with fail
     go_roundw
     case rel => exact ⟨kk + 1,d + 1,by simp,(by have:=hd.out;unfold Hid;omega),by omega,by omega,by have:=hR2.out;rw [HV.out];simpa using this,hI2.out⟩
     case measure => simp [intOf] <;> omega
    ·have hki : ¬ (kk : Int) < (i : Int) - 1:=by omega
     have R2:=Lib.hid (And.intro hrow hIw)
     have HK:=Lib.hid (And.intro hk1 hk2)
     clear hrow hIw
     go_wp2_with fail
     go_end0
     have hd2 : d = i - m:=by have:=HN.out;have:=hd.out;omega
     refine ⟨rfl,⟨v.take d ++ x :: v.drop d,?_,?_,by have:=R2.out.1;simpa using this⟩,R2.out.2⟩
     ·refine List.perm_middle.trans ?_
      rw [List.take_append_drop]
     ·refine SortL.ins_left H.out.2.2.2.2.1 (by rw [List.take_append_drop];exact H.out.2.2.2.2.2.2) (fun y hy => ?_) (fun y hy => ?_)
      ·obtain ⟨t,ht⟩:=List.getElem?_of_mem hy
       rw [List.getElem?_take] at ht
       split at ht
       ·exact hh.out.1 t y (by omega) ht
       ·cases ht
      ·obtain ⟨t,ht⟩:=List.getElem?_of_mem hy
       rw [List.getElem?_drop] at ht
       exact hh.out.2 (d + t) y (by omega) ht
theorem jmt {cf : Nat → Nat → Int} (ho : SortL.Swo (ltC cf)) {u : List Nat} (hs : SortL.Sorted (ltC cf) u) {x y h : Nat} (hy : u[h]? = some x) (hc : ltC cf y x = false) : ∀ k z,k < h + 1 → u[k]? = some z → ltC cf y z = false:=fun _ _ hk hz => ho.le_trans (SortL.sorted_le ho hs (by omega) hz hy) hc
theorem jmF {cf : Nat → Nat → Int} (ho : SortL.Swo (ltC cf)) {u : List Nat} (hs : SortL.Sorted (ltC cf) u) {x y h : Nat} (hy : u[h]? = some x) (hc : ltC cf y x = true) : ∀ k z,h ≤ k → u[k]? = some z → ltC cf y z = true:=fun _ _ hk hz => ho.lt_le hc (SortL.sorted_le ho hs hk hy hz)
theorem jfp (I : World → Prop) (g off n cap b : Nat) (S : Nat → Prop) (cf : Nat → Nat → Int) (ho : SortL.Swo (ltC cf)) (hI : Inv g I) (hC : Cmp I g b S cf) (p q u : List Nat) (y : Nat) (w : World) (hu : SortL.Sorted (ltC cf) u) (hul : 2 ≤ u.length) (hS : ∀ z ∈ u ++ [y],S z) (h : RowAt w g off (p ++ u ++ y :: q)) (hn : (p ++ u ++ y :: q).length = n) (hb : n ≤ 1000000) (hi : I w)
  (a0 m0 e0 : Int) (ea : a0 = p.length) (em : m0 = (p.length + u.length : Nat)) (ee : e0 = (p.length + u.length + 1 : Nat)) :
  Calls Tryz.prog 196 #[.slice (some ⟨g,off,none⟩) n cap, .int .i64 a0, .int .i64 m0, .int .i64 e0,cmpV b] w (jeb I g off cf p (u ++ [y]) q):=by
 obtain ⟨a,ha⟩ : ∃ a,Hid (p.length = a):=⟨_,rfl⟩
 obtain ⟨m,hm⟩ : ∃ m,Hid (p.length + u.length = m):=⟨_,rfl⟩
 obtain ⟨el,hel⟩ : ∃ el,Hid (p.length + u.length + 1 = el):=⟨_,rfl⟩
 have ea' : a0 = (a : Int):=by rw [ea,ha.out]
 have em' : m0 = (m : Int):=by rw [em,hm.out]
 have ee' : e0 = (el : Int):=by rw [ee,hel.out]
 subst ea' em' ee'
 have HN : Hid (el + q.length = n ∧ a + u.length = m ∧ el = m + 1):=by
  unfold Hid
  have h1:=ha.out
  have h2:=hel.out
  have h3:=hm.out
  simp only [List.length_append,List.length_cons] at hn
  omega
 have H:=Lib.hid (And.intro h (And.intro hI (And.intro hi (And.intro hC (And.intro ho (And.intro hS hu))))))
 have hb1 : m ≤ el:=by have:=HN.out;omega
 have hb2 : el ≤ n:=by have:=HN.out;omega
 have hb3 : a + 2 ≤ m:=by have:=HN.out;omega
 have hq : ((m : Int) - a == 1) = false:=by have:=HN.out;simp only [beq_eq_false_iff_ne,ne_eq];omega
 have hq2 : ((el : Int) - m == 1) = true:=by have:=HN.out;simp only [beq_iff_eq];omega
 have hm3 : (m : Int) < n:=by have:=HN.out;omega
 clear h hI hi hC ho hS hn ea em ee hu hul
 go_enter Tryz.func196,Tryz.ntmps196
 go_wp2_with fail
 go_loopw [14,15] (fun i j wr => ∃ (i' j' : Nat),i = .int .i64 i' ∧ j = .int .i64 j' ∧ a ≤ i' ∧ i' ≤ j' ∧ j' ≤ m ∧ Hid ((∀ k z,k < i' - a → u[k]? = some z → ltC cf y z = false) ∧ ∀ k z,j' - a ≤ k → u[k]? = some z → ltC cf y z = true) ∧ RowAt wr g off (p ++ u ++ y :: q) ∧ I wr) (fun i j _ => (intOf j).toNat - (intOf i).toNat)
 case atStart =>
  refine ⟨a,m,rfl,rfl,Nat.le_refl _,by omega,Nat.le_refl _,⟨fun _ _ hk => by omega,fun k z hk hz => ?_⟩,H.out.1,H.out.2.2.1⟩
  have:=(List.getElem?_eq_some_iff.1 hz).1
  have:=HN.out
  omega
 case round =>
  obtain ⟨i,j,rfl,rfl,h1,h2,h3,hh,hrow,hIw⟩:=hrel
  by_cases hlt : i < j
  ·have hij : (i : Int) < j:=by omega
   obtain ⟨h,hhd⟩ : ∃ h,h = (i + j) / 2:=⟨_,rfl⟩
   have hm1 : i ≤ h:=by omega
   have hm2 : h < j:=by omega
   have e2 : ((i : Int) + j) / 2 = (h : Int):=by omega
   obtain ⟨x,hx⟩ : ∃ x,u[h - a]? = some x:=⟨_,List.getElem?_eq_getElem (by have:=HN.out;omega)⟩
   have hsx : S x:=H.out.2.2.2.2.2.1 x (by simp [List.mem_of_getElem? hx])
   have hsy : S y:=H.out.2.2.2.2.2.1 y (by simp)
   have hrx : (p ++ u ++ y :: q)[h]? = some x:=by
    have h4:=ha.out
    have h6:=(List.getElem?_eq_some_iff.1 hx).1
    rw [List.append_assoc,List.getElem?_append_right (by omega),List.getElem?_append_left (by omega),h4]
    exact hx
   have hry : (p ++ u ++ y :: q)[m]? = some y:=by
    have h4 : (p ++ u).length = m:=by have:=hm.out;simp;omega
    rw [List.getElem?_append_right (by omega),h4,Nat.sub_self]
    rfl
   have R1:=Lib.hid (And.intro hrow (And.intro hsx (And.intro hsy hx)))
   obtain ⟨cs,hcs,hcv⟩:=hrow
   have hId:=H.out.2.1.drew _ hIw
   have r0 : ∀ i : RowW I g cs,i.W.cell? ⟨g,off + h,none⟩ = some (.pointer (some ⟨x,0,none⟩)):=fun i => RowW.cell hcv hrx i
   have r1 : ∀ i : RowW I g cs,i.W.cell? ⟨g,off + m,none⟩ = some (.pointer (some ⟨y,0,none⟩)):=fun i => RowW.cell hcv hry i
   have l2 : (h : Int) < n:=by omega
   have HC:=Lib.hid hcs
   have HH:=Lib.hid (And.intro hm1 hm2)
   clear hIw hcv hrx hry hsx hsy hx hhd hlt
   go_wp2_with fail
   clear e2
   haveI : Nonempty (RowW I g cs):=⟨⟨_,hId,hcs⟩⟩
   refine jay I g cs (by kernel_rfl) (by kernel_rfl) hId hcs ?_
   repeat (go_big_quiet_step ((go_at_call 142;rename_i i;exact H.out.2.2.2.1.of i R1.out.2.2.1 R1.out.2.1)))
   refine wpQuiet_nil ?_
   intro w2 hw'
   obtain ⟨i2,hw''⟩:=hw'
   have hi2 : I w2:=hw'' ▸ i2.inv
   have hr2 : w2.heap[g]? = some (.cells cs TpT (0,0)):=hw'' ▸ i2.row
   clear hw''
   have R2 : Hid (RowAt w2 g off (p ++ u ++ y :: q) ∧ I w2):=⟨R1.out.1.keep (hr2.trans HC.out.symm),hi2⟩
   clear hcs hId r0 r1 hr2 hi2 i2
   go_wp2_with fail
   ·have hcm : (!decide (cf y x < 0)) = true:=by assumption
    have HCM : Hid (ltC cf y x = false):=by unfold Hid;simpa using hcm
    go_roundw
    case rel =>
     refine ⟨h + 1,j,by simp,rfl,by omega,by omega,by omega,⟨fun k z hk hz => ?_,hh.out.2⟩,R2.out⟩
     exact jmt H.out.2.2.2.2.1 H.out.2.2.2.2.2.2 R1.out.2.2.2 HCM.out k z (by omega) hz
    case measure => simp [intOf] <;> omega
   ·have hcm : (!decide (cf y x < 0)) = false:=by assumption
    have HCM : Hid (ltC cf y x = true):=by unfold Hid;simpa using hcm
    go_roundw
    case rel =>
     refine ⟨i,h,rfl,rfl,by omega,by omega,by omega,⟨hh.out.1,fun k z hk hz => ?_⟩,R2.out⟩
     exact jmF H.out.2.2.2.2.1 H.out.2.2.2.2.2.2 R1.out.2.2.2 HCM.out k z (by omega) hz
    case measure => simp [intOf] <;> omega
  ·obtain rfl : i = j:=by omega
   have hij : ¬ (i : Int) < i:=by omega
   have R:=Lib.hid (And.intro hrow hIw)
   clear hrow hIw hlt
   have HL:=Lib.hid (And.intro h1 (And.intro h2 h3))
   go_wp2_with fail
   go_loopw [17] (fun kv wr => ∃ kk d : Nat,kv = .int .i64 kk ∧ Hid (a + d = kk) ∧ i ≤ kk ∧ kk ≤ m ∧ RowAt wr g off (p ++ u.take d ++ y :: (u.drop d ++ q)) ∧ I wr) (fun kv _ => (intOf kv).toNat)
   case atStart => exact ⟨m,u.length,rfl,HN.out.2.1,h3,Nat.le_refl _,by have:=R.out.1;simpa using this,R.out.2⟩
   case round =>
    obtain ⟨kk,d,rfl,hd,hk1,hk2,hrow,hIw⟩:=hrel
    by_cases hlt : i < kk
    ·have hki : (i : Int) < (kk : Int):=by omega
     obtain ⟨kj,rfl⟩ : ∃ kj,kk = kj + 1:=⟨kk - 1,by omega⟩
     obtain ⟨d',rfl⟩ : ∃ d',d = d' + 1:=⟨d - 1,by have:=hd.out;omega⟩
     have hdk : Hid (a + d' = kj):=by have:=hd.out;unfold Hid;omega
     obtain ⟨t,ht⟩ : ∃ t,u[d']? = some t:=⟨_,List.getElem?_eq_getElem (by have:=HN.out;have:=HL.out;have:=hd.out;omega)⟩
     have hv1 : u.drop d' = t :: u.drop (d' + 1):=by rw [List.drop_eq_getElem_cons (List.getElem?_eq_some_iff.1 ht).1,(List.getElem?_eq_some_iff.1 ht).2]
     have hv2 : u.take (d' + 1) = u.take d' ++ [t]:=by rw [List.take_add_one,ht];rfl
     have hrow2 : RowAt wr g off ((p ++ u.take d') ++ t :: ([] ++ y :: (u.drop (d' + 1) ++ q))):=by rw [hv2] at hrow;simpa using hrow
     have hal : Hid ((p ++ u.take d').length = kj ∧ (p ++ u.take d').length + 1 + ([] : List Nat).length = kj + 1):=by
      have q1:=hdk.out
      have q2:=ha.out
      have q3:=(List.getElem?_eq_some_iff.1 ht).1
      constructor <;> simp <;> omega
     have x0:=hrow2.first hal.out.1
     have y0:=hrow2.second hal.out.2
     have f0:=hrow2.ice (off + kj)
     have f1:=hrow2.ice (off + (kj + 1))
     have gl:=hrow2.lt
     have hR2:=Lib.hid (hrow2.swap' hal.out.1 hal.out.2)
     have hI2 : Hid (I ((wr.setCell ⟨g,off + (kj + 1),none⟩ (pv t)).setCell ⟨g,off + kj,none⟩ (pv y)).drew):=H.out.2.1.drew _ (H.out.2.1.set _ _ _ (H.out.2.1.set _ _ _ hIw))
     have t1 : ((kj : Int) + 1).toNat = kj + 1:=by omega
     have l1 : (kj : Int) + 1 < n:=by have:=HL.out;omega
     have l2 : (kj : Int) < n:=by have:=HL.out;omega
     have l3 : (0 : Int) ≤ (kj : Int) + 1:=by omega
     have HV:=Lib.hid hv1
     clear ht hv1 hv2 hrow hrow2 hIw hlt
     go_wp2_with fail
     go_region
     go_wp2_with fail
     go_roundw
     case rel => exact ⟨kj,d',by simp,hdk.out,by omega,by omega,by have:=hR2.out;rw [HV.out];simpa using this,hI2.out⟩
     case measure => simp [intOf] <;> omega
    ·have hki : ¬ (i : Int) < (kk : Int):=by omega
     have R2:=Lib.hid (And.intro hrow hIw)
     have HK:=Lib.hid (And.intro hk1 hk2)
     clear hrow hIw
     go_wp2_with fail
     go_end0
     have hd2 : d = i - a:=by have:=HN.out;have:=hd.out;omega
     refine ⟨rfl,⟨u.take d ++ y :: u.drop d,?_,?_,by have:=R2.out.1;simpa using this⟩,R2.out.2⟩
     ·refine List.perm_middle.trans ?_
      rw [List.take_append_drop]
      exact (List.perm_append_singleton y u).symm
     ·refine SortL.ins_right H.out.2.2.2.2.1 (by rw [List.take_append_drop];exact H.out.2.2.2.2.2.2) (fun z hz => ?_) (fun z hz => ?_)
      ·obtain ⟨t,ht⟩:=List.getElem?_of_mem hz
       rw [List.getElem?_take] at ht
       split at ht
       ·exact hh.out.1 t z (by omega) ht
       ·cases ht
      ·obtain ⟨t,ht⟩:=List.getElem?_of_mem hz
       rw [List.getElem?_drop] at ht
       exact hh.out.2 (d + t) z (by omega) ht
def jlQ (I : World → Prop) (g off : Nat) (p a b q : List Nat) (w : World) : Prop:=RowAt w g off (p ++ a ++ b ++ q) ∧ I w
theorem jeD {I : World → Prop} {g off : Nat} {cf : Nat → Nat → Int} (ho : SortL.Swo (ltC cf)) {p q u v u1 u2 v1 v2 z1 z2 : List Nat} {w : World} (eu : u = u1 ++ u2) (ev : v = v1 ++ v2) (hu : SortL.Sorted (ltC cf) u) (hv : SortL.Sorted (ltC cf) v) (h1 : SortL.Sorted (ltC cf) z1) (h2 : SortL.Sorted (ltC cf) z2) (p1 : z1.Perm (u1 ++ v1)) (p2 : z2.Perm (u2 ++ v2))
  (hc : ∀ x ∈ u1,∀ y ∈ v2,ltC cf y x = false) (hd : ∀ y ∈ v1,∀ x ∈ u2,ltC cf y x = true) (hr : RowAt w g off (p ++ z1 ++ z2 ++ q)) (hi : I w) : jeb I g off cf p (u ++ v) q (.returned (.tuple #[])) w:=by
 subst eu ev
 refine ⟨rfl,⟨z1 ++ z2,?_,SortL.glue ho hu hv h1 h2 p1 p2 hc hd,by rw [← List.append_assoc];exact hr⟩,hi⟩
 refine (p1.append p2).trans ?_
 simp only [List.append_assoc]
 refine List.Perm.append_left u1 ?_
 rw [← List.append_assoc, ← List.append_assoc]
 exact List.Perm.append_right v2 List.perm_append_comm
theorem halves {cf : Nat → Nat → Int} (ho : SortL.Swo (ltC cf)) {u v : List Nat} (hu : SortL.Sorted (ltC cf) u) (hv : SortL.Sorted (ltC cf) v) {i j : Nat}
  (h1 : i = 0 ∨ v.length ≤ j ∨ ∃ x y,u[i - 1]? = some x ∧ v[j]? = some y ∧ ltC cf y x = false) (h2 : u.length ≤ i ∨ j = 0 ∨ ∃ x y,u[i]? = some x ∧ v[j - 1]? = some y ∧ ltC cf y x = true) :
  (∀ x ∈ u.take i,∀ y ∈ v.drop j,ltC cf y x = false) ∧ ∀ y ∈ v.take j,∀ x ∈ u.drop i,ltC cf y x = true:=by
 constructor
 ·intro x hx y hy
  obtain ⟨s,hs⟩:=List.getElem?_of_mem hx
  obtain ⟨t,ht⟩:=List.getElem?_of_mem hy
  rw [List.getElem?_take] at hs
  rw [List.getElem?_drop] at ht
  split at hs
  ·rename_i hsi
   have hl:=(List.getElem?_eq_some_iff.1 ht).1
   rcases h1 with h1 | h1 | ⟨x',y',hx',hy',hc⟩
   ·omega
   ·omega
   ·have q1:=SortL.sorted_le ho hu (show s ≤ i - 1 by omega) hs hx'
    have q2:=SortL.sorted_le ho hv (show j ≤ j + t by omega) hy' ht
    exact ho.le_trans q1 (ho.le_trans hc q2)
  ·cases hs
 ·intro y hy x hx
  obtain ⟨s,hs⟩:=List.getElem?_of_mem hy
  obtain ⟨t,ht⟩:=List.getElem?_of_mem hx
  rw [List.getElem?_take] at hs
  rw [List.getElem?_drop] at ht
  split at hs
  ·rename_i hsj
   have hl:=(List.getElem?_eq_some_iff.1 ht).1
   rcases h2 with h2 | h2 | ⟨x',y',hx',hy',hc⟩
   ·omega
   ·omega
   ·have q1:=SortL.sorted_le ho hv (show s ≤ j - 1 by omega) hs hy'
    have q2:=SortL.sorted_le ho hu (show i ≤ i + t by omega) hx' ht
    exact ho.lt_le (ho.le_lt q1 hc) q2
  ·cases hs
set_option maxHeartbeats 12800000
theorem jgT (I : World → Prop) (g off n cap b : Nat) (S : Nat → Prop) (cf : Nat → Nat → Int) (ho : SortL.Swo (ltC cf)) (hI : Inv g I) (hC : Cmp I g b S cf) (hb : n ≤ 1000000) (hcap : n ≤ cap) (p q u v : List Nat) (w : World) (hu : SortL.Sorted (ltC cf) u) (hv : SortL.Sorted (ltC cf) v) (hul : 2 ≤ u.length) (hvl : 2 ≤ v.length) (hS : ∀ z ∈ u ++ v,S z) (h : RowAt w g off (p ++ u ++ v ++ q)) (hn : (p ++ u ++ v ++ q).length = n) (hi : I w)
  (IH : ∀ (p q u' v' : List Nat) (w : World),u'.length + v'.length < u.length + v.length → u' ≠ [] → v' ≠ [] → SortL.Sorted (ltC cf) u' → SortL.Sorted (ltC cf) v' → (∀ z ∈ u' ++ v',S z) → RowAt w g off (p ++ u' ++ v' ++ q) → (p ++ u' ++ v' ++ q).length = n → I w → ∀ (a0 m0 e0 : Int),a0 = p.length → m0 = (p.length + u'.length : Nat) → e0 = (p.length + u'.length + v'.length : Nat) →
   Calls Tryz.prog 196 #[.slice (some ⟨g,off,none⟩) n cap, .int .i64 a0, .int .i64 m0, .int .i64 e0,cmpV b] w (jeb I g off cf p (u' ++ v') q))
  (a0 m0 e0 : Int) (ea : a0 = p.length) (em : m0 = (p.length + u.length : Nat)) (ee : e0 = (p.length + u.length + v.length : Nat)) :
  Calls Tryz.prog 196 #[.slice (some ⟨g,off,none⟩) n cap, .int .i64 a0, .int .i64 m0, .int .i64 e0,cmpV b] w (jeb I g off cf p (u ++ v) q):=by
 obtain ⟨a,ha⟩ : ∃ a,Hid (p.length = a):=⟨_,rfl⟩
 obtain ⟨m,hm⟩ : ∃ m,Hid (p.length + u.length = m):=⟨_,rfl⟩
 obtain ⟨el,hel⟩ : ∃ el,Hid (p.length + u.length + v.length = el):=⟨_,rfl⟩
 have ea' : a0 = (a : Int):=by rw [ea,ha.out]
 have em' : m0 = (m : Int):=by rw [em,hm.out]
 have ee' : e0 = (el : Int):=by rw [ee,hel.out]
 subst ea' em' ee'
 have HN : Hid (el + q.length = n ∧ a + u.length = m ∧ m + v.length = el):=by
  unfold Hid
  have h1:=ha.out
  have h2:=hel.out
  have h3:=hm.out
  simp only [List.length_append] at hn
  omega
 have H:=Lib.hid (And.intro h (And.intro hI (And.intro hi (And.intro hC (And.intro ho (And.intro hS (And.intro hu hv)))))))
 have HI:=Lib.hid IH
 have hb2 : el ≤ n:=by have:=HN.out;omega
 have hb3 : a + 2 ≤ m:=by have:=HN.out;omega
 have hb4 : m + 2 ≤ el:=by have:=HN.out;omega
 have hq : ((m : Int) - a == 1) = false:=by simp only [beq_eq_false_iff_ne,ne_eq];omega
 have hq2 : ((el : Int) - m == 1) = false:=by simp only [beq_eq_false_iff_ne,ne_eq];omega
 obtain ⟨mid,hmid⟩ : ∃ mid,Hid (mid = (a + el) / 2):=⟨_,rfl⟩
 have hmd1 : 2 * mid ≤ a + el:=by have:=hmid.out;omega
 have hmd2 : a + el < 2 * mid + 2:=by have:=hmid.out;omega
 have e1 : ((a : Int) + el) / 2 = (mid : Int):=by have:=hmid.out;omega
 obtain ⟨P,hP⟩ : ∃ P,Hid (P + 1 = mid + m):=⟨mid + m - 1,by unfold Hid;omega⟩
 have e2 : (mid : Int) + m - 1 = P:=by have:=hP.out;omega
 have hn0:=Lib.hid hn
 obtain ⟨st,r0,hst⟩ : ∃ st r0 : Nat,Hid ((mid < m → st + el = mid + m ∧ r0 = mid) ∧ (m ≤ mid → st = a ∧ r0 = m)):=by
  rcases Nat.lt_or_ge mid m with q | q
  ·exact ⟨mid + m - el,mid,fun _ => ⟨by omega,rfl⟩,fun q' => by omega⟩
  ·exact ⟨a,m,fun q' => by omega,fun _ => ⟨rfl,rfl⟩⟩
 have hst1 : a ≤ st ∧ st ≤ r0 ∧ r0 ≤ m ∧ r0 ≤ mid ∧ mid + m ≤ st + el:=by
  have:=hst.out
  rcases Nat.lt_or_ge mid m with q | q
  ·have:=this.1 q;omega
  ·have:=this.2 q;omega
 obtain ⟨s1,s2,s3,s4,s5⟩:=hst1
 have hrow0:=Lib.hid (And.intro h hi)
 clear h hI hi hC ho hS hn ea em ee hu hv hul hvl IH
 by_cases hmm : mid < m
 all_goals
  first
  | (have e6 : (mid : Int) + m - el = (st : Int):=by have:=(hst.out.1 hmm).1;omega
     have hmi : (mid : Int) < m:=by omega
     have hr0 : r0 = mid:=(hst.out.1 hmm).2
     have HR:=Lib.hid hr0
     clear hr0)
  | (have hmi : ¬ (mid : Int) < m:=by omega
     have hr0 : st = a ∧ r0 = m:=hst.out.2 (by omega)
     have HR:=Lib.hid hr0
     clear hr0)
  clear hmm
  go_enter Tryz.func196,Tryz.ntmps196
  go_wp2_with fail
  go_loopw [20,21] (fun sv rv wr => ∃ s' r' : Nat,sv = .int .i64 s' ∧ rv = .int .i64 r' ∧ st ≤ s' ∧ s' ≤ r' ∧ r' ≤ r0 ∧ Hid ((s' = st ∨ ∃ x y,u[s' - 1 - a]? = some x ∧ v[P - (s' - 1) - m]? = some y ∧ ltC cf y x = false) ∧ (r' = r0 ∨ ∃ x y,u[r' - a]? = some x ∧ v[P - r' - m]? = some y ∧ ltC cf y x = true)) ∧ RowAt wr g off (p ++ u ++ v ++ q) ∧ I wr) (fun sv rv _ => (intOf rv).toNat - (intOf sv).toNat)
  case atStart =>
   first
   | exact ⟨st,r0,rfl,by rw [HR.out],Nat.le_refl _,s2,Nat.le_refl _,⟨.inl rfl, .inl rfl⟩,hrow0.out.1,hrow0.out.2⟩
   | exact ⟨st,r0,by rw [HR.out.1],by rw [HR.out.2],Nat.le_refl _,s2,Nat.le_refl _,⟨.inl rfl, .inl rfl⟩,hrow0.out.1,hrow0.out.2⟩
  case round =>
   obtain ⟨s,r,rfl,rfl,h1,h2,h3,hh,hrow,hIw⟩:=hrel
   by_cases hlt : s < r
   ·have hij : (s : Int) < r:=by omega
    obtain ⟨c,hcd⟩ : ∃ c,c = (s + r) / 2:=⟨_,rfl⟩
    have hm1 : s ≤ c:=by omega
    have hm2 : c < r:=by omega
    have e7 : ((s : Int) + r) / 2 = (c : Int):=by omega
    obtain ⟨d,hd⟩ : ∃ d,Hid (d + c = P):=⟨P - c,by have:=hP.out;unfold Hid;omega⟩
    have e8 : (P : Int) - c = (d : Int):=by have:=hd.out;omega
    have hdm : m ≤ d ∧ d < el:=by have:=hd.out;have:=hP.out;omega
    obtain ⟨hd1,hd2⟩:=hdm
    obtain ⟨x,hx⟩ : ∃ x,u[c - a]? = some x:=⟨_,List.getElem?_eq_getElem (by have:=HN.out;omega)⟩
    obtain ⟨y,hy⟩ : ∃ y,v[d - m]? = some y:=⟨_,List.getElem?_eq_getElem (by have:=HN.out;omega)⟩
    have hsx : S x:=H.out.2.2.2.2.2.1 x (by simp [List.mem_of_getElem? hx])
    have hsy : S y:=H.out.2.2.2.2.2.1 y (by simp [List.mem_of_getElem? hy])
    have hrx : (p ++ u ++ v ++ q)[c]? = some x:=by
     have h4:=ha.out
     have h6:=(List.getElem?_eq_some_iff.1 hx).1
     rw [List.append_assoc,List.append_assoc,List.getElem?_append_right (by omega),List.getElem?_append_left (by omega),h4]
     exact hx
    have hry : (p ++ u ++ v ++ q)[d]? = some y:=by
     have h4 : (p ++ u).length = m:=by have:=hm.out;simp;omega
     have h6:=(List.getElem?_eq_some_iff.1 hy).1
     rw [List.append_assoc,List.getElem?_append_right (by omega),h4,List.getElem?_append_left (by omega)]
     exact hy
    have R1:=Lib.hid (And.intro hrow (And.intro hsx (And.intro hsy (And.intro hx hy))))
    obtain ⟨cs,hcs,hcv⟩:=hrow
    have hId:=H.out.2.1.drew _ hIw
    have q0 : ∀ i : RowW I g cs,i.W.cell? ⟨g,off + c,none⟩ = some (.pointer (some ⟨x,0,none⟩)):=fun i => RowW.cell hcv hrx i
    have q1 : ∀ i : RowW I g cs,i.W.cell? ⟨g,off + d,none⟩ = some (.pointer (some ⟨y,0,none⟩)):=fun i => RowW.cell hcv hry i
    have l1 : (c : Int) < n:=by omega
    have l2 : (d : Int) < n:=by omega
    have l3 : (c : Int) ≤ P:=by have:=hd.out;omega
    have e9 : IntKind.i64.wrap (d : Int) = (d : Int):=IntWalk.i64_in _ (by omega)
    have e10 : IntKind.i64.wrap ((P : Int) - c) = (d : Int):=by rw [e8];exact e9
    have HC:=Lib.hid hcs
    have HH:=Lib.hid (And.intro hm1 hm2)
    clear hIw hcv hrx hry hsx hsy hx hy hcd hlt
    go_wp2_with fail
    haveI : Nonempty (RowW I g cs):=⟨⟨_,hId,hcs⟩⟩
    refine jay I g cs (by kernel_rfl) (by kernel_rfl) hId hcs ?_
    repeat (go_big_quiet_step ((go_at_call 142;rename_i i;exact H.out.2.2.2.1.of i R1.out.2.2.1 R1.out.2.1)))
    refine wpQuiet_nil ?_
    intro w2 hw'
    obtain ⟨i2,hw''⟩:=hw'
    have hi2 : I w2:=hw'' ▸ i2.inv
    have hr2 : w2.heap[g]? = some (.cells cs TpT (0,0)):=hw'' ▸ i2.row
    clear hw''
    have R2 : Hid (RowAt w2 g off (p ++ u ++ v ++ q) ∧ I w2):=⟨R1.out.1.keep (hr2.trans HC.out.symm),hi2⟩
    clear hcs hId q0 q1 hr2 hi2 i2 e7 e8 e9 e10
    go_wp2_with fail
    ·have hcm : (!decide (cf y x < 0)) = true:=by assumption
     have HCM : Hid (ltC cf y x = false):=by unfold Hid;simpa using hcm
     go_roundw
     case rel =>
      refine ⟨c + 1,r,by simp,rfl,by omega,by omega,by omega,⟨.inr ⟨x,y,by rw [Nat.add_sub_cancel];exact R1.out.2.2.2.1,?_,HCM.out⟩,hh.out.2⟩,R2.out⟩
      rw [Nat.add_sub_cancel]
      have e : P - c - m = d - m:=by have:=hd.out;omega
      rw [e]
      exact R1.out.2.2.2.2
     case measure => simp [intOf] <;> omega
    ·have hcm : (!decide (cf y x < 0)) = false:=by assumption
     have HCM : Hid (ltC cf y x = true):=by unfold Hid;simpa using hcm
     go_roundw
     case rel =>
      refine ⟨s,c,rfl,rfl,by omega,by omega,by omega,⟨hh.out.1, .inr ⟨x,y,R1.out.2.2.2.1,?_,HCM.out⟩⟩,R2.out⟩
      have e : P - c - m = d - m:=by have:=hd.out;omega
      rw [e]
      exact R1.out.2.2.2.2
     case measure => simp [intOf] <;> omega
   ·obtain rfl : s = r:=by omega
    have hij : ¬ (s : Int) < s:=by omega
    have R:=Lib.hid (And.intro hrow hIw)
    obtain ⟨E,hE⟩ : ∃ E,Hid (E + s = mid + m):=⟨mid + m - s,by unfold Hid;omega⟩
    have e11 : (mid : Int) + m - s = E:=by have:=hE.out;omega
    have hE1 : m ≤ E ∧ E ≤ el ∧ mid ≤ E ∧ a ≤ s ∧ s ≤ m ∧ s ≤ mid:=by have:=hE.out;omega
    obtain ⟨k1,k2,k3,k4,k5,k6⟩:=hE1
    obtain ⟨u1,hu1⟩ : ∃ u1,Hid (u.take (s - a) = u1):=⟨_,rfl⟩
    obtain ⟨u2,hu2⟩ : ∃ u2,Hid (u.drop (s - a) = u2):=⟨_,rfl⟩
    obtain ⟨v1,hv1⟩ : ∃ v1,Hid (v.take (E - m) = v1):=⟨_,rfl⟩
    obtain ⟨v2,hv2⟩ : ∃ v2,Hid (v.drop (E - m) = v2):=⟨_,rfl⟩
    have hl : Hid (u1.length = s - a ∧ u2.length = m - s ∧ v1.length = E - m ∧ v2.length = el - E):=by
     rw [← hu1.out, ← hu2.out, ← hv1.out, ← hv2.out]
     have:=HN.out
     unfold Hid
     simp only [List.length_take,List.length_drop]
     omega
    have huv : Hid (u = u1 ++ u2 ∧ v = v1 ++ v2):=by
     rw [← hu1.out, ← hu2.out, ← hv1.out, ← hv2.out]
     exact ⟨(List.take_append_drop _ _).symm,(List.take_append_drop _ _).symm⟩
    have hal : Hid ((∀ x ∈ u1,∀ y ∈ v2,ltC cf y x = false) ∧ ∀ y ∈ v1,∀ x ∈ u2,ltC cf y x = true):=by
     rw [← hu1.out, ← hu2.out, ← hv1.out, ← hv2.out]
     refine halves H.out.2.2.2.2.1 H.out.2.2.2.2.2.2.1 H.out.2.2.2.2.2.2.2 ?_ ?_
     ·rcases hh.out.1 with q1 | ⟨x,y,q1,q2,q3⟩
      ·have q2:=hst.out
       have q3:=HN.out
       have q4:=hE.out
       rcases Nat.lt_or_ge mid m with q | q
       ·have:=q2.1 q;exact .inr (.inl (by omega))
       ·have:=q2.2 q;exact .inl (by omega)
      ·rcases Nat.eq_zero_or_pos (s - a) with q4 | q4
       ·exact .inl q4
       ·refine .inr (.inr ⟨x,y,?_,?_,q3⟩)
        ·have e : s - a - 1 = s - 1 - a:=by omega
         rw [e];exact q1
        ·have e : E - m = P - (s - 1) - m:=by have:=hE.out;have:=hP.out;omega
         rw [e];exact q2
     ·rcases hh.out.2 with q1 | ⟨x,y,q1,q2,q3⟩
      ·have q2:=hst.out
       have q3:=HN.out
       have q4:=hE.out
       rcases Nat.lt_or_ge mid m with q | q
       ·have:=q2.1 q;exact .inr (.inl (by omega))
       ·have:=q2.2 q;exact .inl (by omega)
      ·refine .inr (.inr ⟨x,y,q1,?_,q3⟩)
       have e : E - m - 1 = P - s - m:=by have:=hE.out;have:=hP.out;omega
       rw [e];exact q2
    have hsu : Hid (SortL.Sorted (ltC cf) u1 ∧ SortL.Sorted (ltC cf) u2 ∧ SortL.Sorted (ltC cf) v1 ∧ SortL.Sorted (ltC cf) v2):=by
     have q1:=H.out.2.2.2.2.2.2.1
     have q2:=H.out.2.2.2.2.2.2.2
     rw [huv.out.1] at q1
     rw [huv.out.2] at q2
     have q3:=SortL.sorted_append.1 q1
     have q4:=SortL.sorted_append.1 q2
     exact ⟨q3.1,q3.2.1,q4.1,q4.2.1⟩
    have hSS : Hid ((∀ z ∈ u1 ++ v1,S z) ∧ ∀ z ∈ u2 ++ v2,S z):=by
     have q1:=H.out.2.2.2.2.2.1
     rw [huv.out.1,huv.out.2] at q1
     constructor
     ·intro z hz
      refine q1 z ?_
      rcases List.mem_append.1 hz with hz | hz <;> simp [hz]
     ·intro z hz
      refine q1 z ?_
      rcases List.mem_append.1 hz with hz | hz <;> simp [hz]
    have hrw : Hid (RowAt wr g off (p ++ u1 ++ u2 ++ v1 ++ (v2 ++ q)) ∧ (p ++ u1 ++ u2 ++ v1 ++ (v2 ++ q)).length = n):=by
     have q1:=R.out.1
     have q2:=hn0.out
     rw [huv.out.1,huv.out.2] at q1 q2
     constructor
     ·simpa using q1
     ·simp only [List.length_append] at q2 ⊢
      omega
    clear hrow hIw hlt
    have hA : (s < m ∧ m < E) ∨ ¬ s < m ∨ (s < m ∧ ¬ m < E):=by omega
    rcases hA with ⟨c1,c2⟩ | c1 | ⟨c1,c2⟩
    all_goals
     first
     | (have d1 : (s : Int) < m:=by omega
        have d2 : (m : Int) < E:=by omega
        go_wp2_with fail
        refine (jjH I g off n cap H.out.2.1 (p ++ u1) u2 v1 (v2 ++ q) _ _ (List.length_pos_iff.1 (by have:=hl.out;omega)) (List.length_pos_iff.1 (by have:=hl.out;omega)) hrw.out.1 hrw.out.2 hcap hb R.out.2 _ _ _ (by have:=hl.out;have:=ha.out;simp only [List.length_append];omega) (by have:=hl.out;have:=ha.out;simp only [List.length_append];omega) (by have:=hl.out;have:=ha.out;simp only [List.length_append];omega)).mono ?_
        rintro e w2 ⟨rfl,hr2,hi2⟩
        have TA : Hid (jlQ I g off p (u1 ++ v1) (u2 ++ v2) q w2):=⟨by simpa using hr2,hi2⟩
        clear hr2 hi2)
     | (have d1 : (s : Int) < m:=by omega
        have d2 : ¬ (m : Int) < E:=by omega
        have TA : Hid (jlQ I g off p (u1 ++ v1) (u2 ++ v2) q wr):=by
         have e : v1 = []:=List.length_eq_zero_iff.1 (by have:=hl.out;omega)
         have q1:=hrw.out.1
         rw [e] at q1 ⊢
         exact ⟨by simpa using q1,R.out.2⟩)
     | (have d1 : ¬ (s : Int) < m:=by omega
        have TA : Hid (jlQ I g off p (u1 ++ v1) (u2 ++ v2) q wr):=by
         have e : u2 = []:=List.length_eq_zero_iff.1 (by have:=hl.out;omega)
         have q1:=hrw.out.1
         rw [e] at q1 ⊢
         exact ⟨by simpa using q1,R.out.2⟩)
     have hB : (a < s ∧ s < mid) ∨ ¬ a < s ∨ (a < s ∧ ¬ s < mid):=by omega
     rcases hB with ⟨c3,c4⟩ | c3 | ⟨c3,c4⟩
     all_goals
      first
      | (have d3 : (a : Int) < s:=by omega
         have d4 : (s : Int) < mid:=by omega
         go_wp2_with fail
         refine (HI.out p (u2 ++ v2 ++ q) u1 v1 _ (by have:=hl.out;have:=HN.out;omega) (List.length_pos_iff.1 (by have:=hl.out;omega)) (List.length_pos_iff.1 (by have:=hl.out;have:=hE.out;omega)) hsu.out.1 hsu.out.2.2.1 hSS.out.1 (by have:=TA.out.1;simpa using this) (by have:=hrw.out.2;simp only [List.length_append] at this ⊢; omega) TA.out.2 _ _ _ (by have:=ha.out;omega) (by have:=hl.out;have:=ha.out;omega) (by have:=hl.out;have:=ha.out;have:=hE.out;omega)).mono ?_
         rintro e w3 ⟨rfl,⟨z1,hz1,hz2,hz3⟩,hi3⟩
         have TB : Hid (z1.Perm (u1 ++ v1) ∧ SortL.Sorted (ltC cf) z1 ∧ RowAt w3 g off (p ++ z1 ++ (u2 ++ v2) ++ q) ∧ I w3):=⟨hz1,hz2,by simpa using hz3,hi3⟩
         clear hz1 hz2 hz3 hi3)
      | (have d3 : (a : Int) < s:=by omega
         have d4 : ¬ (s : Int) < mid:=by omega
         obtain ⟨z1,TB⟩ : ∃ z1,Hid (z1.Perm (u1 ++ v1) ∧ SortL.Sorted (ltC cf) z1 ∧ RowAt _ g off (p ++ z1 ++ (u2 ++ v2) ++ q) ∧ I _):=⟨u1 ++ v1,List.Perm.refl _,by
          have e : v1 = []:=List.length_eq_zero_iff.1 (by have:=hl.out;have:=hE.out;omega)
          rw [e,List.append_nil]
          exact hsu.out.1,TA.out.1,TA.out.2⟩)
      | (have d3 : ¬ (a : Int) < s:=by omega
         obtain ⟨z1,TB⟩ : ∃ z1,Hid (z1.Perm (u1 ++ v1) ∧ SortL.Sorted (ltC cf) z1 ∧ RowAt _ g off (p ++ z1 ++ (u2 ++ v2) ++ q) ∧ I _):=⟨u1 ++ v1,List.Perm.refl _,by
          have e : u1 = []:=List.length_eq_zero_iff.1 (by have:=hl.out;omega)
          rw [e,List.nil_append]
          exact hsu.out.2.2.1,TA.out.1,TA.out.2⟩)
      have hzl : Hid (z1.length = (s - a) + (E - m)):=by
       have q5:=TB.out.1.length_eq
       have q6:=hl.out
       unfold Hid
       simp only [List.length_append] at q5
       omega
      have hC2 : (mid < E ∧ E < el) ∨ ¬ mid < E ∨ (mid < E ∧ ¬ E < el):=by omega
      rcases hC2 with ⟨c5,c6⟩ | c5 | ⟨c5,c6⟩
      ·first
       | (exfalso;omega)
       | (have d5 : (mid : Int) < E:=by omega
          have d6 : (E : Int) < el:=by omega
          go_wp2_with fail
          refine (HI.out (p ++ z1) q u2 v2 _ (by have:=hl.out;have:=HN.out;omega) (List.length_pos_iff.1 (by have:=hl.out;have:=hE.out;omega)) (List.length_pos_iff.1 (by have:=hl.out;omega)) hsu.out.2.1 hsu.out.2.2.2 hSS.out.2 (by have:=TB.out.2.2.1;simpa using this) (by have q5:=hrw.out.2;have:=hl.out;have:=hzl.out;simp only [List.length_append] at q5 ⊢; omega) TB.out.2.2.2 _ _ _ (by have:=ha.out;have:=hzl.out;have:=hE.out;simp only [List.length_append];omega) (by have:=ha.out;have:=hzl.out;have:=hE.out;have:=hl.out;simp only [List.length_append];omega) (by have:=ha.out;have:=hzl.out;have:=hE.out;have:=hl.out;simp only [List.length_append];omega)).mono ?_
          rintro e w4 ⟨rfl,⟨z2,hz1,hz2,hz3⟩,hi3⟩
          have TC:=Lib.hid (And.intro hz1 (And.intro hz2 (And.intro hz3 hi3)))
          clear hz1 hz2 hz3 hi3
          go_wp2_with fail
          go_end0
          exact jeD H.out.2.2.2.2.1 huv.out.1 huv.out.2 H.out.2.2.2.2.2.2.1 H.out.2.2.2.2.2.2.2 TB.out.2.1 TC.out.2.1 TB.out.1 TC.out.1 hal.out.1 hal.out.2 TC.out.2.2.1 TC.out.2.2.2)
      ·first
       | (exfalso;omega)
       | (have d5 : ¬ (mid : Int) < E:=by omega
          have e : u2 = []:=List.length_eq_zero_iff.1 (by have:=hl.out;have:=hE.out;omega)
          have TC : Hid (SortL.Sorted (ltC cf) (u2 ++ v2)):=by rw [e,List.nil_append];exact hsu.out.2.2.2
          clear e
          go_wp2_with fail
          go_end0
          exact jeD H.out.2.2.2.2.1 huv.out.1 huv.out.2 H.out.2.2.2.2.2.2.1 H.out.2.2.2.2.2.2.2 TB.out.2.1 TC.out TB.out.1 (List.Perm.refl _) hal.out.1 hal.out.2 TB.out.2.2.1 TB.out.2.2.2)
      ·first
       | (exfalso;omega)
       | (have d5 : (mid : Int) < E:=by omega
          have d6 : ¬ (E : Int) < el:=by omega
          have e : v2 = []:=List.length_eq_zero_iff.1 (by have:=hl.out;omega)
          have TC : Hid (SortL.Sorted (ltC cf) (u2 ++ v2)):=by rw [e,List.append_nil];exact hsu.out.2.1
          clear e
          go_wp2_with fail
          go_end0
          exact jeD H.out.2.2.2.2.1 huv.out.1 huv.out.2 H.out.2.2.2.2.2.2.1 H.out.2.2.2.2.2.2.2 TB.out.2.1 TC.out TB.out.1 (List.Perm.refl _) hal.out.1 hal.out.2 TB.out.2.2.1 TB.out.2.2.2)
end Go.Proofs.YtiaepldmgighbaaGreatDoor
