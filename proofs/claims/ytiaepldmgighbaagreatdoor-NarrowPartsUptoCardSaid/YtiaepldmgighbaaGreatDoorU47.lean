import Derived.Test.YtiaepldmgighbaaGreatDoorU41
namespace Go.Proofs.YtiaepldmgighbaaGreatDoor
open Go.RowKit
set_option linter.unusedSimpArgs false
set_option linter.unusedVariables false
theorem Ty.wide_parts (k n : Int) (nm : ByteArray) (ps : List Ty) (ns : List ByteArray) (ms : List Bool) : jaF (ps.map Ty.wide) + jaF (ns.map (·.size)) + 6 * nm.size ≤ (Ty.mk k n nm ps ns ms).wide:=by rw [Ty.wide_mk];omega
set_option maxRecDepth 100000
set_option maxHeartbeats 3200000
theorem jim (n : Int) (nm : ByteArray) (ps : List Ty) (ns : List ByteArray) (ms : List Bool) (hw : (Ty.mk 16 n nm ps ns ms).wide ≤ 1000000000000000) (hp : ∀ p ∈ ps,jbq p) : jbq (.mk 16 n nm ps ns ms):=by
 intro B us w h hB
 unfold jbB
 rw [jcg (by omega) (by omega)]
 obtain ⟨pa,cap,na,ncap,ma,mcap,rfl,hs⟩:=h.see
 have hwp:=Ty.wide_parts 16 n nm ps ns ms
 rw [show jap 16 n nm (ps.map fun p => (p.kind,dt p)) ns ms = jav ⟨#[32,124,32]⟩ (ps.map fun p => jaK p.kind (dt p)) by
  rw [show jap 16 n nm (ps.map fun p => (p.kind,dt p)) ns ms = jav ⟨#[32,124,32]⟩ ((ps.map fun p => (p.kind,dt p)).map fun x => jaK x.1 x.2) from rfl,List.map_map];rfl]
 have HT:=Lib.hid (And.intro hp (And.intro hs.parts hB))
 have HTS : Hid (∀ j,(jcc ⟨#[32,124,32]⟩ (ps.map fun p => jaK p.kind (dt p)) j).size ≤ 1000000000000000):=fun j => by
  have h1:=jcS ⟨#[32,124,32]⟩ (ps.map fun p => jaK p.kind (dt p)) j
  have h2:=jfN (ps.map fun p => (p.kind,dt p))
  have h3:=jco ps hs.parts.nm
  rw [List.map_map] at h1 h3
  rw [List.map_map,List.map_map,List.map_map] at h2
  simp only [Function.comp_def] at h1 h2 h3
  have e : (⟨#[32,124,32]⟩ : ByteArray).size = 3:=rfl
  rw [e] at h1
  omega
 have HPZ : Hid (∀ (j : Nat) (p : Ty),ps[j]? = some p → (jaK p.kind (dt p)).size ≤ 1000000000000002 ∧ p.wide ≤ 1000000000000000):=fun j p hj => by
  have hm:=List.mem_of_getElem? hj
  have h1:=jcH (hs.parts.nm p hm)
  have h2:=Nat.le_trans (Ty.wide_part (k:=16) (n:=n) (nm:=nm) (ns:=ns) (ms:=ms) hm) hw
  have h3:=jaU [15] p.kind (dt p)
  unfold jaK
  omega
 rw [← jdy,List.length_map]
 obtain ⟨J,hJ⟩ : ∃ J : Nat → ByteArray,Hid (jcc ⟨#[32,124,32]⟩ (ps.map fun p => jaK p.kind (dt p)) = J):=⟨_,rfl⟩
 rw [hJ.out] at HTS ⊢
 have HN : Hid ((∀ p,ps[0]? = some p → J 1 = jaK p.kind (dt p)) ∧ ∀ j p,ps[j]? = some p → 0 < j → J (j + 1) = J j ++ ⟨#[32,124,32]⟩ ++ jaK p.kind (dt p)):=by
  rw [← hJ.out]
  exact ⟨fun p h => jdx _ (by rw [List.getElem?_map,h];rfl),fun j p h h0 => jcT _ (by rw [List.getElem?_map,h];rfl) h0⟩
 have HZ : Hid (J 0 = ⟨#[]⟩):=by rw [← hJ.out];exact jfX _ _
 obtain ⟨lp,hlp⟩ : ∃ l,Hid (ps.length = l):=⟨_,rfl⟩
 obtain ⟨ln,hln⟩ : ∃ l,Hid (ns.length = l):=⟨_,rfl⟩
 obtain ⟨lm,hlm⟩ : ∃ l,Hid (ms.length = l):=⟨_,rfl⟩
 have hl : lp ≤ 2000000:=by have:=hs.lp;rw [hlp.out] at this;exact this
 have hc : lp ≤ cap:=by have:=hs.cp;rw [hlp.out] at this;exact this
 rw [hlp.out,hln.out,hlm.out]
 clear h hs hp hw hwp hB
 (go_enter Tryz.func42,Tryz.ntmps42;go_upto_region 1 with (fail);refine ja4 fun A2 W2 hA2 hW2 => ?_;have hu0 : Hid (Up w W2):=(by subst hW2;exact uq);obtain ⟨q,hq⟩ : ∃ q,Hid (w.heap.size = q):=⟨_,rfl⟩;have HQ:=Lib.hid (show W2.heap[q]? = some (.cells #[.int .i64 _, .int .i64 n, .string nm, .slice pa lp cap, .slice na ln ncap, .slice ma lm mcap] RefT (0,0)) by subst hW2;rw [← hq.out];exact jaa _ _ _ rfl);rw [hq.out] at hA2;clear hW2;subst hA2;have s0:=HQ.out;obtain ⟨q0,p0,q1,p1,q2,p2,q3,p3,q4,p4,q5,p5,q9⟩:=uc6 s0;clear s0)
 go_wp2_with fail
 go_loopw [8,9] (fun s i wr => ∃ (j : Nat),j ≤ lp ∧ i = .int .i64 j ∧ s = .string (J j) ∧ Up W2 wr) (fun _ i _ => lp - (intOf i).toNat)
 case atStart => exact ⟨0,Nat.zero_le _,rfl,by rw [HZ.out],uq⟩
 case round =>
  obtain ⟨j,hj,rfl,rfl,hup⟩:=hrel
  have hupw:=hu0.out.trans hup
  have HQr:=Lib.hid (hup.get HQ.out)
  have x3:=ja1 HQr.out 3
  have xl:=ja0 HQr.out
  simp only [gQa,gQz,gQs] at x3
  by_cases hlt : j < lp
  ·have hji : (j : Int) < lp:=by omega
   obtain ⟨p,hp⟩ : ∃ p,ps[j]? = some p:=⟨_,List.getElem?_eq_getElem (by rw [hlp.out];exact hlt)⟩
   obtain ⟨b,off,u0,u1,u2,u3,u4,u5,rfl,hb,c0,c1,c2,c3,c4,c5,ht⟩:=HT.out.2.1.later hupw HT.out.2.2 j p hp
   have hbl:=Nat.lt_of_lt_of_le hb (Nat.le_trans HT.out.2.2 hupw.size)
   have hxz:=HPZ.out j p hp
   have HX:=Lib.hid (fun W (hW : Up wr W) => jcI p (HT.out.1 p (List.mem_of_getElem? hp)) hxz.2 B _ W (ht.low (hW.below (Nat.le_trans HT.out.2.2 hupw.size))) (Nat.le_trans (Nat.le_trans HT.out.2.2 hupw.size) hW.size))
   have hsz:=HTS.out j
   have hn1:=HN.out.1 p
   have hn2:=HN.out.2 j p hp
   have HPp:=Lib.hid hp
   obtain ⟨tx,htx⟩ : ∃ tx,Hid (jaK p.kind (dt p) = tx):=⟨_,rfl⟩
   rw [htx.out] at HX hxz hn1 hn2
   obtain ⟨s,hs⟩ : ∃ s,Hid (J j = s):=⟨_,rfl⟩
   rw [hs.out] at hsz hn2 ⊢
   have z1 : ¬ 9223372036854775807 < s.size + 3:=by omega
   have z2 : ¬ 9223372036854775807 < s.size + 3 + tx.size:=by omega
   have z3 : ¬ 9223372036854775807 < s.size + tx.size:=by omega
   have HNX:=Lib.hid (And.intro hn1 hn2)
   clear ht hp hn1 hn2 hxz hsz hlt hupw
   by_cases h0 : j = 0
   ·subst h0
    simp only [Nat.zero_mul,Nat.add_zero] at c0 c1 c2 c3 c4 c5
    have hss : s = ⟨#[]⟩:=by rw [← hs.out,HZ.out]
    subst hss
    go_wp2_with (first | (go_at_call 83;refine (HX.out _ uq).mono ?_;rintro e w2 ⟨rfl,hu2⟩))
    all_goals exact ⟨⟨1,by omega,rfl,by rw [HNX.out.1 HPp.out,nilB],hup.trans hu2⟩,by simp [intOf];omega⟩
   ·have h0i : (0 : Int) < j:=by omega
    go_wp2_with (first | (go_at_call 83;refine (HX.out _ uq).mono ?_;rintro e w2 ⟨rfl,hu2⟩))
    all_goals exact ⟨⟨j + 1,by omega,by simp,by rw [HNX.out.2 (by omega)],hup.trans hu2⟩,by simp [intOf];omega⟩
  ·obtain rfl : j = lp:=by omega
   go_wp2_with fail
   all_goals go_ret
   all_goals exact ⟨rfl,hupw⟩
set_option maxHeartbeats 6400000
theorem jlz (n : Int) (nm : ByteArray) (ps : List Ty) (ns : List ByteArray) (ms : List Bool) (hw : (Ty.mk 17 n nm ps ns ms).wide ≤ 1000000000000000) (hp : ∀ p ∈ ps,jbq p) : jbq (.mk 17 n nm ps ns ms):=by
 intro B us w h hB
 unfold jbB
 rw [jcg (by omega) (by omega)]
 obtain ⟨pa,cap,na,ncap,ma,mcap,rfl,hs⟩:=h.see
 have hwp:=Ty.wide_parts 17 n nm ps ns ms
 obtain ⟨ds,hdd⟩ : ∃ ds,Hid (numS n = ds):=⟨_,rfl⟩
 have hdig:=Lib.hid (fun W => show Calls Tryz.prog 80 #[.int .i64 n] W fun e w' => e = .returned (.string ds) ∧ Up W w' from by have:=jiI n hs.n1 hs.n2 W;rw [← hdd.out];exact this)
 have hds : ds.size ≤ 24:=by have:=jbx n hs.n1 hs.n2;rw [hdd.out] at this;exact this
 have HL:=Lib.hid (fun W (hW : Up w W) => jlD ps hp (by omega) hs.lp B cap pa W (hs.parts.later hW hB) hs.cp (Nat.le_trans hB hW.size))
 obtain ⟨lx,hlx⟩ : ∃ lx,Hid (jav ⟨#[44,32]⟩ (ps.map dt) = lx):=⟨_,rfl⟩
 have hlz : lx.size ≤ 1000000000000000:=by
  rw [← hlx.out]
  have h1:=jbe ⟨#[44,32]⟩ (ps.map dt)
  have h2:=jeU (ps.map fun p => (p.kind,dt p))
  have h3:=jco ps hs.parts.nm
  rw [List.map_map] at h1 h3
  rw [List.map_map,List.map_map,List.map_map] at h2
  simp only [Function.comp_def] at h1 h2 h3
  have e : (⟨#[44,32]⟩ : ByteArray).size = 2:=rfl
  rw [e] at h1
  omega
 have hnz:=hs.nmz
 rw [hlx.out] at HL
 have htx : jap 17 n nm (ps.map fun p => (p.kind,dt p)) ns ms = if ps = [] then nm ++ ⟨#[35]⟩ ++ ds else nm ++ ⟨#[35]⟩ ++ ds ++ ⟨#[60]⟩ ++ lx ++ ⟨#[62]⟩:=by
  rw [← hlx.out, ← hdd.out]
  rw [show jap 17 n nm (ps.map fun p => (p.kind,dt p)) ns ms = if (ps.map fun p => (p.kind,dt p)) = [] then jbn nm n else jbn nm n ++ ⟨#[60]⟩ ++ jav ⟨#[44,32]⟩ ((ps.map fun p => (p.kind,dt p)).map (·.2)) ++ ⟨#[62]⟩ from rfl,List.map_map]
  cases ps with
  | nil => rw [if_pos (by rfl),if_pos rfl];rfl
  | cons p r => rw [if_neg (by simp),if_neg (by simp)];rfl
 have z1 : ¬ 9223372036854775807 < nm.size + 1:=by omega
 have z2 : ¬ 9223372036854775807 < nm.size + 1 + ds.size:=by omega
 have z3 : ¬ 9223372036854775807 < nm.size + 1 + ds.size + 1:=by omega
 have z4 : ¬ 9223372036854775807 < nm.size + 1 + ds.size + 1 + lx.size:=by omega
 have z5 : ¬ 9223372036854775807 < nm.size + 1 + ds.size + 1 + lx.size + 1:=by omega
 have hc:=hs.cp
 have hl:=hs.lp
 obtain ⟨ln,hln⟩ : ∃ l,Hid (ns.length = l):=⟨_,rfl⟩
 obtain ⟨lm,hlm⟩ : ∃ l,Hid (ms.length = l):=⟨_,rfl⟩
 rw [hln.out,hlm.out]
 clear h hs hp hw hwp
 by_cases h0 : ps = []
 ·rw [htx,if_pos h0]
  obtain ⟨lp,hlp⟩ : ∃ l,Hid (ps.length = l):=⟨_,rfl⟩
  rw [hlp.out] at hc hl HL ⊢
  have hl0 : Hid (lp = 0):=by unfold Hid;rw [← hlp.out,h0];rfl
  clear h0 htx hlp
  (go_enter Tryz.func42,Tryz.ntmps42;go_upto_region 1 with (fail);refine ja4 fun A2 W2 hA2 hW2 => ?_;have hu0 : Hid (Up w W2):=(by subst hW2;exact uq);obtain ⟨q,hq⟩ : ∃ q,Hid (w.heap.size = q):=⟨_,rfl⟩;have HQ:=Lib.hid (show W2.heap[q]? = some (.cells #[.int .i64 _, .int .i64 n, .string nm, .slice pa lp cap, .slice na ln ncap, .slice ma lm mcap] RefT (0,0)) by subst hW2;rw [← hq.out];exact jaa _ _ _ rfl);rw [hq.out] at hA2;clear hW2;subst hA2;have s0:=HQ.out;obtain ⟨q0,p0,q1,p1,q2,p2,q3,p3,q4,p4,q5,p5,q9⟩:=uc6 s0;clear s0)
  have hl0:=hl0.out
  subst hl0
  go_wp2_with fail
  go_region_law (first | (go_simp;go_at_call 80;refine (hdig.out _).mono ?_;rintro e w2 ⟨rfl,hu2⟩;have s1:=(show Up W2 w2 from uq).get HQ.out;obtain ⟨q0,p0,q1,p1,q2,p2,q3,p3,q4,p4,q5,p5,q9⟩:=uc6 s1;clear s1))
  all_goals go_wp2_with fail
  all_goals go_ret
  all_goals exact ⟨rfl,hu0.out.trans (Up.trans (Up.drew (Up.refl _)) hu2)⟩
 ·rw [htx,if_neg h0]
  have hl0 : 0 < ps.length:=List.length_pos_iff.2 h0
  obtain ⟨lp,hlp⟩ : ∃ l,Hid (ps.length = l):=⟨_,rfl⟩
  rw [hlp.out] at hc hl HL hl0 ⊢
  have hl1 : (0 : Int) < lp:=by omega
  clear h0 htx hlp
  (go_enter Tryz.func42,Tryz.ntmps42;go_upto_region 1 with (fail);refine ja4 fun A2 W2 hA2 hW2 => ?_;have hu0 : Hid (Up w W2):=(by subst hW2;exact uq);obtain ⟨q,hq⟩ : ∃ q,Hid (w.heap.size = q):=⟨_,rfl⟩;have HQ:=Lib.hid (show W2.heap[q]? = some (.cells #[.int .i64 _, .int .i64 n, .string nm, .slice pa lp cap, .slice na ln ncap, .slice ma lm mcap] RefT (0,0)) by subst hW2;rw [← hq.out];exact jaa _ _ _ rfl);rw [hq.out] at hA2;clear hW2;subst hA2;have s0:=HQ.out;obtain ⟨q0,p0,q1,p1,q2,p2,q3,p3,q4,p4,q5,p5,q9⟩:=uc6 s0;clear s0)
  go_wp2_with fail
  go_region_law (first | (go_simp;go_at_call 80;refine (hdig.out _).mono ?_;rintro e w2 ⟨rfl,hu2⟩;have s1:=(show Up W2 w2 from uq).get HQ.out;obtain ⟨q0,p0,q1,p1,q2,p2,q3,p3,q4,p4,q5,p5,q9⟩:=uc6 s1;clear s1))
  all_goals go_wp2_with (first | (go_at_call 84;refine (HL.out _ (hu0.out.trans uq)).mono ?_;rintro e w3 ⟨rfl,hu3⟩))
  all_goals go_ret
  all_goals exact ⟨rfl,hu0.out.trans ((Up.trans (Up.drew (Up.refl _)) hu2).trans hu3)⟩
theorem jeR : ∀ (ts : List (Int × ByteArray)) (ns : List ByteArray) (ms : List Bool) (j : Nat) (x : Int × ByteArray) (s : ByteArray) (m : Bool),ts[j]? = some x → ns[j]? = some s → ms[j]? = some m → (jaC ts ns ms)[j]? = some (s ++ jds m ++ ⟨#[58,32]⟩ ++ x.2)
 | [],_,_,j,x,s,m,h,_,_ => by simp at h
 | _ :: _,[],_,j,x,s,m,_,h,_ => by simp at h
 | _ :: _,_ :: _,[],j,x,s,m,_,_,h => by simp at h
 | x :: ts,s :: ns,m :: ms,0,x',s',m',h1,h2,h3 => by
   simp only [gQz,Option.some.injEq] at h1 h2 h3
   subst h1 h2 h3
   rfl
 | x :: ts,s :: ns,m :: ms,j + 1,x',s',m',h1,h2,h3 => by
   simp only [gQs] at h1 h2 h3
   rw [jaC,gQs]
   exact jeR ts ns ms j x' s' m' h1 h2 h3
theorem je6 : ∀ (ts : List (Int × ByteArray)) (ns : List ByteArray) (ms : List Bool),ts.length ≤ ns.length → ts.length ≤ ms.length → (jaC ts ns ms).length = ts.length
 | [],_,_,_,_ => by simp [jaC]
 | _ :: _,[],_,h,_ => by simp at h
 | _ :: _,_ :: _,[],_,h => by simp at h
 | x :: ts,s :: ns,m :: ms,h1,h2 => by
   rw [jaC,List.length_cons,List.length_cons,je6 ts ns ms (by simpa using h1) (by simpa using h2)]
theorem jlA (n : Int) (nm : ByteArray) (ps : List Ty) (ns : List ByteArray) (ms : List Bool) (hw : (Ty.mk 14 n nm ps ns ms).wide ≤ 1000000000000000) (hp : ∀ p ∈ ps,jbq p) (hn1 : ps.length ≤ ns.length) (hn2 : ps.length ≤ ms.length) : jbq (.mk 14 n nm ps ns ms):=by
 intro B us w h hB
 unfold jbB
 rw [jcg (by omega) (by omega)]
 obtain ⟨pa,cap,na,ncap,ma,mcap,rfl,hs⟩:=h.see
 have hwp:=Ty.wide_mk 14 n nm ps ns ms
 have HT:=Lib.hid (And.intro hp (And.intro hs hB))
 obtain ⟨L,hL⟩ : ∃ L,Hid (jaC (ps.map fun p => (p.kind,dt p)) ns ms = L):=⟨_,rfl⟩
 have HLA : Hid (∀ (j : Nat) (p : Ty) (s : ByteArray) (m : Bool),ps[j]? = some p → ns[j]? = some s → ms[j]? = some m → L[j]? = some (s ++ jds m ++ ⟨#[58,32]⟩ ++ dt p)):=fun j p s m h1 h2 h3 => by
  rw [← hL.out]
  exact jeR _ ns ms j (p.kind,dt p) s m (by rw [List.getElem?_map,h1];rfl) h2 h3
 have hLl : L.length = ps.length:=by
  rw [← hL.out,je6 _ _ _ (by rw [List.length_map];exact hn1) (by rw [List.length_map];exact hn2),List.length_map]
 rw [show jap 14 n nm (ps.map fun p => (p.kind,dt p)) ns ms = ⟨#[123]⟩ ++ jav ⟨#[59,32]⟩ L ++ ⟨#[125]⟩ by rw [← hL.out];rfl]
 have hTS : ∀ j,(jcc ⟨#[59,32]⟩ L j).size ≤ 1000000000000000:=fun j => by
  have h1:=jcS ⟨#[59,32]⟩ L j
  have h2:=jcA (ps.map fun p => (p.kind,dt p)) ns ms
  have h3:=jco ps hs.parts.nm
  rw [hL.out] at h2
  have e : (⟨#[59,32]⟩ : ByteArray).size = 2:=rfl
  rw [e] at h1
  omega
 have HPZ : Hid (∀ (j : Nat) (p : Ty),ps[j]? = some p → (dt p).size ≤ 1000000000000000):=fun j p hj => by
  have hm:=List.mem_of_getElem? hj
  have h1:=jcH (hs.parts.nm p hm)
  have h2:=Nat.le_trans (Ty.wide_part (k:=14) (n:=n) (nm:=nm) (ns:=ns) (ms:=ms) hm) hw
  omega
 obtain ⟨J,hJ⟩ : ∃ J : Nat → ByteArray,Hid ((fun j => ⟨#[123]⟩ ++ jcc ⟨#[59,32]⟩ L j) = J):=⟨_,rfl⟩
 have HTS : Hid (∀ j,(J j).size ≤ 1000000000000001):=fun j => by
  rw [← hJ.out]
  have:=hTS j
  have e : (⟨#[123]⟩ : ByteArray).size = 1:=rfl
  simp only [ByteArray.size_append]
  omega
 rw [← jdy,hLl]
 rw [show ⟨#[123]⟩ ++ jcc ⟨#[59,32]⟩ L ps.length = J ps.length by rw [← hJ.out]]
 have HN : Hid ((∀ x,L[0]? = some x → J 1 = ⟨#[123]⟩ ++ x) ∧ ∀ j x,L[j]? = some x → 0 < j → J (j + 1) = J j ++ ⟨#[59,32]⟩ ++ x):=by
  rw [← hJ.out]
  exact ⟨fun p h => by simp only [jdx _ h],fun j x h h0 => by simp only [jcT _ h h0,ByteArray.append_assoc]⟩
 have HZ : Hid (J 0 = ⟨#[123]⟩):=by rw [← hJ.out];rfl
 obtain ⟨lp,hlp⟩ : ∃ l,Hid (ps.length = l):=⟨_,rfl⟩
 obtain ⟨ln,hln⟩ : ∃ l,Hid (ns.length = l):=⟨_,rfl⟩
 obtain ⟨lm,hlm⟩ : ∃ l,Hid (ms.length = l):=⟨_,rfl⟩
 have hl : lp ≤ 2000000:=by have:=hs.lp;rw [hlp.out] at this;exact this
 have hc : lp ≤ cap:=by have:=hs.cp;rw [hlp.out] at this;exact this
 rw [hlp.out,hln.out] at hn1
 rw [hlp.out,hlm.out] at hn2
 have hcn : ln ≤ ncap:=by have:=hs.cn;rw [hln.out] at this;exact this
 have hcm : lm ≤ mcap:=by have:=hs.cm;rw [hlm.out] at this;exact this
 rw [hlp.out,hln.out,hlm.out]
 clear h hs hp hw hwp hB hTS hLl
 (go_enter Tryz.func42,Tryz.ntmps42;go_upto_region 1 with (fail);refine ja4 fun A2 W2 hA2 hW2 => ?_;have hu0 : Hid (Up w W2):=(by subst hW2;exact uq);obtain ⟨q,hq⟩ : ∃ q,Hid (w.heap.size = q):=⟨_,rfl⟩;have HQ:=Lib.hid (show W2.heap[q]? = some (.cells #[.int .i64 _, .int .i64 n, .string nm, .slice pa lp cap, .slice na ln ncap, .slice ma lm mcap] RefT (0,0)) by subst hW2;rw [← hq.out];exact jaa _ _ _ rfl);rw [hq.out] at hA2;clear hW2;subst hA2;have s0:=HQ.out;obtain ⟨q0,p0,q1,p1,q2,p2,q3,p3,q4,p4,q5,p5,q9⟩:=uc6 s0;clear s0)
 go_wp2_with fail
 go_loopw [3,4] (fun s i wr => ∃ (j : Nat),j ≤ lp ∧ i = .int .i64 j ∧ s = .string (J j) ∧ Up W2 wr) (fun _ i _ => lp - (intOf i).toNat)
 case atStart => exact ⟨0,Nat.zero_le _,rfl,by rw [HZ.out],uq⟩
 case round =>
  obtain ⟨j,hj,rfl,rfl,hup⟩:=hrel
  have hupw:=hu0.out.trans hup
  have HQr:=Lib.hid (hup.get HQ.out)
  have x3:=ja1 HQr.out 3
  have x4:=ja1 HQr.out 4
  have x5:=ja1 HQr.out 5
  have xl:=ja0 HQr.out
  simp only [gQa,gQz,gQs] at x3 x4 x5
  by_cases hlt : j < lp
  ·have hji : (j : Int) < lp:=by omega
   have hjn : (j : Int) < ln:=by omega
   have hjm : (j : Int) < lm:=by omega
   obtain ⟨p,hp⟩ : ∃ p,ps[j]? = some p:=⟨_,List.getElem?_eq_getElem (by rw [hlp.out];exact hlt)⟩
   obtain ⟨nj,hnj⟩ : ∃ p,ns[j]? = some p:=⟨_,List.getElem?_eq_getElem (by rw [hln.out];omega)⟩
   obtain ⟨mj,hmj⟩ : ∃ p,ms[j]? = some p:=⟨_,List.getElem?_eq_getElem (by rw [hlm.out];omega)⟩
   have hsw:=HT.out.2.1.later hupw HT.out.2.2
   obtain ⟨b,off,u0,u1,u2,u3,u4,u5,rfl,hb,c0,c1,c2,c3,c4,c5,ht⟩:=hsw.part j p hp
   obtain ⟨bn,offn,rfl,hbn,cn⟩:=hsw.name j nj hnj
   obtain ⟨bm,offm,rfl,hbm,cm⟩:=hsw.mark j mj hmj
   have hnz:=hsw.nsz nj (List.mem_of_getElem? hnj)
   have hBr:=Nat.le_trans HT.out.2.2 hupw.size
   have hbl:=Nat.lt_of_lt_of_le hb hBr
   have hbln:=Nat.lt_of_lt_of_le hbn hBr
   have hblm:=Nat.lt_of_lt_of_le hbm hBr
   have hxz:=HPZ.out j p hp
   have HX:=Lib.hid (fun W (hW : Up wr W) => HT.out.1 p (List.mem_of_getElem? hp) B _ W (ht.low (hW.below hBr)) (Nat.le_trans hBr hW.size))
   have hsz:=HTS.out j
   have hla:=HLA.out j p nj mj hp hnj hmj
   have HN1 : Hid (j = 0 → J 1 = ⟨#[123]⟩ ++ (nj ++ jds mj ++ ⟨#[58,32]⟩ ++ dt p)):=fun e => HN.out.1 _ (e ▸ hla)
   have HN2 : Hid (0 < j → J (j + 1) = J j ++ ⟨#[59,32]⟩ ++ (nj ++ jds mj ++ ⟨#[58,32]⟩ ++ dt p)):=fun e => HN.out.2 j _ hla e
   unfold jbB at HX
   obtain ⟨tx,htx⟩ : ∃ tx,Hid (dt p = tx):=⟨_,rfl⟩
   rw [htx.out] at HX hxz HN1 HN2
   obtain ⟨s,hs⟩ : ∃ s,Hid (J j = s):=⟨_,rfl⟩
   rw [hs.out] at hsz HN2 ⊢
   have z1 : ¬ 9223372036854775807 < s.size + 2:=by omega
   have z2 : ¬ 9223372036854775807 < s.size + 2 + nj.size:=by omega
   have z3 : ¬ 9223372036854775807 < s.size + nj.size:=by omega
   have z4 : ¬ 9223372036854775807 < s.size + 2 + nj.size + 1:=by omega
   have z5 : ¬ 9223372036854775807 < s.size + nj.size + 1:=by omega
   have z6 : ¬ 9223372036854775807 < s.size + 2 + nj.size + 1 + 2:=by omega
   have z7 : ¬ 9223372036854775807 < s.size + nj.size + 1 + 2:=by omega
   have z8 : ¬ 9223372036854775807 < s.size + 2 + nj.size + 2:=by omega
   have z9 : ¬ 9223372036854775807 < s.size + nj.size + 2:=by omega
   have za : ¬ 9223372036854775807 < s.size + 2 + nj.size + 1 + 2 + tx.size:=by omega
   have zb : ¬ 9223372036854775807 < s.size + nj.size + 1 + 2 + tx.size:=by omega
   have zc : ¬ 9223372036854775807 < s.size + 2 + nj.size + 2 + tx.size:=by omega
   have zd : ¬ 9223372036854775807 < s.size + nj.size + 2 + tx.size:=by omega
   clear ht hp hnj hmj hsw hla hxz hsz hlt hupw hnz
   by_cases h0 : j = 0
   ·subst h0
    have hss : Hid (s = ⟨#[123]⟩):=by unfold Hid;rw [← hs.out,HZ.out]
    simp only [Nat.zero_mul,Nat.add_zero] at c0 c1 c2 c3 c4 c5 cn cm
    have HN3:=HN1.out rfl
    rw [← hss.out] at HN3
    have HN3:=Lib.hid HN3
    cases mj
    all_goals go_wp2_with (first | (go_at_call 42;refine (HX.out _ uq).mono ?_;rintro e w2 ⟨rfl,hu2⟩))
    all_goals exact ⟨⟨1,by omega,rfl,by rw [HN3.out];simp only [jds,Bool.false_eq_true, ↓reduceIte,ByteArray.append_assoc,nilB],hup.trans hu2⟩,by simp [intOf];omega⟩
   ·have h0i : (0 : Int) < j:=by omega
    have HN3:=Lib.hid (HN2.out (by omega))
    cases mj
    all_goals go_wp2_with (first | (go_at_call 42;refine (HX.out _ uq).mono ?_;rintro e w2 ⟨rfl,hu2⟩))
    all_goals exact ⟨⟨j + 1,by omega,by simp,by rw [HN3.out];simp only [jds,Bool.false_eq_true, ↓reduceIte,ByteArray.append_assoc,nilB],hup.trans hu2⟩,by simp [intOf];omega⟩
  ·obtain rfl : j = lp:=by omega
   have hsz:=HTS.out j
   have z1 : ¬ 9223372036854775807 < (J j).size + 1:=by omega
   go_wp2_with fail
   all_goals go_ret
   all_goals exact ⟨rfl,hupw⟩
theorem jfO : ∀ (ts : List (Int × ByteArray)) (ms : List Bool) (j : Nat) (x : Int × ByteArray) (m : Bool),ts[j]? = some x → ms[j]? = some m → (jaM ts ms)[j]? = some (if m = true then jas [15,16] x.1 x.2 ++ ⟨#[63]⟩ else x.2)
 | [],_,j,x,m,h,_ => by simp at h
 | _ :: _,[],j,x,m,_,h => by simp at h
 | x :: ts,m :: ms,0,x',m',h1,h3 => by
   simp only [gQz,Option.some.injEq] at h1 h3
   subst h1 h3
   rfl
 | x :: ts,m :: ms,j + 1,x',m',h1,h3 => by
   simp only [gQs] at h1 h3
   rw [jaM,gQs]
   exact jfO ts ms j x' m' h1 h3
theorem jeM : ∀ (ts : List (Int × ByteArray)) (ms : List Bool),ts.length ≤ ms.length → (jaM ts ms).length = ts.length
 | [],_,_ => by simp [jaM]
 | _ :: _,[],h => by simp at h
 | x :: ts,m :: ms,h1 => by
   rw [jaM,List.length_cons,List.length_cons,jeM ts ms (by simpa using h1)]
theorem jlB (n : Int) (nm : ByteArray) (ps : List Ty) (ns : List ByteArray) (ms : List Bool) (hw : (Ty.mk 15 n nm ps ns ms).wide ≤ 1000000000000000) (hp : ∀ p ∈ ps,jbq p) (h0 : ps ≠ []) (hn2 : ps.length ≤ ms.length + 1) : jbq (.mk 15 n nm ps ns ms):=by
 intro B us w h hB
 unfold jbB
 rw [jcg (by omega) (by omega)]
 obtain ⟨pa,cap,na,ncap,ma,mcap,rfl,hs⟩:=h.see
 have hwp:=Ty.wide_mk 15 n nm ps ns ms
 have HT:=Lib.hid (And.intro hp (And.intro hs hB))
 obtain ⟨L,hL⟩ : ∃ L,Hid (jaM (ps.map fun p => (p.kind,dt p)).dropLast ms = L):=⟨_,rfl⟩
 have HLA : Hid (∀ (j : Nat) (p : Ty) (m : Bool),j + 1 < ps.length → ps[j]? = some p → ms[j]? = some m → L[j]? = some (if m = true then jas [15,16] p.kind (dt p) ++ ⟨#[63]⟩ else dt p)):=fun j p m hj h1 h3 => by
  rw [← hL.out]
  exact jfO _ ms j (p.kind,dt p) m (by rw [List.getElem?_dropLast,List.length_map,if_pos (by omega),List.getElem?_map,h1];rfl) h3
 have hlen : 0 < ps.length:=List.length_pos_iff.2 h0
 have hLl : L.length = ps.length - 1:=by
  rw [← hL.out,jeM _ _ (by rw [List.length_dropLast,List.length_map];omega),List.length_dropLast,List.length_map]
 obtain ⟨pz,hpz⟩ : ∃ pz,ps[ps.length - 1]? = some pz:=⟨_,List.getElem?_eq_getElem (by omega)⟩
 have hlast : (ps.map fun p => (p.kind,dt p)).getLastD (0,⟨#[]⟩) = (pz.kind,dt pz):=by
  rw [List.getLastD_eq_getLast?,List.getLast?_eq_getElem?,List.length_map,List.getElem?_map,hpz]
  rfl
 rw [show jap 15 n nm (ps.map fun p => (p.kind,dt p)) ns ms = ⟨#[40]⟩ ++ jav ⟨#[44,32]⟩ L ++ ⟨#[41,32,61,62,32]⟩ ++ dt pz by
  rw [← hL.out,show jap 15 n nm (ps.map fun p => (p.kind,dt p)) ns ms = ⟨#[40]⟩ ++ jav ⟨#[44,32]⟩ (jaM (ps.map fun p => (p.kind,dt p)).dropLast ms) ++ ⟨#[41,32,61,62,32]⟩ ++ ((ps.map fun p => (p.kind,dt p)).getLastD (0,⟨#[]⟩)).2 from rfl,hlast]]
 have hTS : ∀ j,(jcc ⟨#[44,32]⟩ L j).size ≤ 1000000000000000:=fun j => by
  have h1:=jcS ⟨#[44,32]⟩ L j
  have h2:=jd8 (ps.map fun p => (p.kind,dt p)).dropLast ms
  have h3:=jco ps hs.parts.nm
  have h4:=jhn (ps.map fun p => (p.kind,dt p))
  rw [hL.out] at h2
  have e : (⟨#[44,32]⟩ : ByteArray).size = 2:=rfl
  rw [e] at h1
  omega
 have HPZ : Hid (∀ (j : Nat) (p : Ty),ps[j]? = some p → (dt p).size ≤ 1000000000000000 ∧ p.wide ≤ 1000000000000000):=fun j p hj => by
  have hm:=List.mem_of_getElem? hj
  have h1:=jcH (hs.parts.nm p hm)
  have h2:=Nat.le_trans (Ty.wide_part (k:=15) (n:=n) (nm:=nm) (ns:=ns) (ms:=ms) hm) hw
  omega
 obtain ⟨J,hJ⟩ : ∃ J : Nat → ByteArray,Hid ((fun j => ⟨#[40]⟩ ++ jcc ⟨#[44,32]⟩ L j) = J):=⟨_,rfl⟩
 have HTS : Hid (∀ j,(J j).size ≤ 1000000000000001):=fun j => by
  rw [← hJ.out]
  have:=hTS j
  have e : (⟨#[40]⟩ : ByteArray).size = 1:=rfl
  simp only [ByteArray.size_append]
  omega
 rw [← jdy,hLl]
 rw [show ⟨#[40]⟩ ++ jcc ⟨#[44,32]⟩ L (ps.length - 1) = J (ps.length - 1) by rw [← hJ.out]]
 have HN : Hid ((∀ x,L[0]? = some x → J 1 = ⟨#[40]⟩ ++ x) ∧ ∀ j x,L[j]? = some x → 0 < j → J (j + 1) = J j ++ ⟨#[44,32]⟩ ++ x):=by
  rw [← hJ.out]
  exact ⟨fun p h => by simp only [jdx _ h],fun j x h h0 => by simp only [jcT _ h h0,ByteArray.append_assoc]⟩
 have HZ : Hid (J 0 = ⟨#[40]⟩):=by rw [← hJ.out];rfl
 have HPL:=Lib.hid hpz
 obtain ⟨lp,hlp⟩ : ∃ l,Hid (ps.length = l + 1):=⟨ps.length - 1,by unfold Hid;omega⟩
 obtain ⟨ln,hln⟩ : ∃ l,Hid (ns.length = l):=⟨_,rfl⟩
 obtain ⟨lm,hlm⟩ : ∃ l,Hid (ms.length = l):=⟨_,rfl⟩
 have hl : lp + 1 ≤ 2000000:=by have:=hs.lp;rw [hlp.out] at this;exact this
 have hc : lp + 1 ≤ cap:=by have:=hs.cp;rw [hlp.out] at this;exact this
 rw [hlp.out,hlm.out] at hn2
 have hcn : ln ≤ ncap:=by have:=hs.cn;rw [hln.out] at this;exact this
 have hcm : lm ≤ mcap:=by have:=hs.cm;rw [hlm.out] at this;exact this
 rw [hlp.out,Nat.add_sub_cancel] at HPL
 rw [hlp.out,hln.out,hlm.out,Nat.add_sub_cancel]
 obtain ⟨lq,hlq⟩ : ∃ l,Hid (lp + 1 = l):=⟨_,rfl⟩
 have hlq2 : (lq : Int) - 1 = lp:=by have:=hlq.out;omega
 have hlq3 : (lp : Int) < lq:=by omega
 rw [hlq.out] at hc ⊢
 clear h hs hp hw hwp hB hTS hLl h0 hlen hpz hlast
 obtain ⟨tz,htz⟩ : ∃ tz,Hid (dt pz = tz):=⟨_,rfl⟩
 rw [htz.out]
 go_enter Tryz.func42,Tryz.ntmps42
 go_upto_region 1 with (fail)
 refine ja4 fun A2 W2 hA2 hW2 => ?_
 have hu0 : Hid (Up w W2):=by subst hW2;exact uq
 obtain ⟨q,hq⟩ : ∃ q,Hid (w.heap.size = q):=⟨_,rfl⟩
 have HQ:=Lib.hid (show W2.heap[q]? = some (.cells #[.int .i64 _, .int .i64 n, .string nm, .slice pa lq cap, .slice na ln ncap, .slice ma lm mcap] RefT (0,0)) by subst hW2;rw [← hq.out];exact jaa _ _ _ rfl)
 rw [hq.out] at hA2
 clear hW2
 subst hA2
 have s0:=HQ.out
 obtain ⟨q0,p0,q1,p1,q2,p2,q3,p3,q4,p4,q5,p5,q9⟩:=uc6 s0;clear s0
 go_wp2_with fail
 go_loopw [6,7] (fun s i wr => ∃ (j : Nat),j ≤ lp ∧ i = .int .i64 j ∧ s = .string (J j) ∧ Up W2 wr) (fun _ i _ => lp - (intOf i).toNat)
 case atStart => exact ⟨0,Nat.zero_le _,rfl,by rw [HZ.out],uq⟩
 case round =>
  obtain ⟨j,hj,rfl,rfl,hup⟩:=hrel
  have hupw:=hu0.out.trans hup
  have HQr:=Lib.hid (hup.get HQ.out)
  have x3:=ja1 HQr.out 3
  have x5:=ja1 HQr.out 5
  have xl:=ja0 HQr.out
  simp only [gQa,gQz,gQs] at x3 x5
  by_cases hlt : j < lp
  ·have hji : (j : Int) < lp:=by omega
   have hjq : (j : Int) < lq:=by omega
   have hjm : (j : Int) < lm:=by omega
   obtain ⟨p,hp⟩ : ∃ p,ps[j]? = some p:=⟨_,List.getElem?_eq_getElem (by rw [hlp.out];omega)⟩
   obtain ⟨mj,hmj⟩ : ∃ p,ms[j]? = some p:=⟨_,List.getElem?_eq_getElem (by rw [hlm.out];omega)⟩
   have hsw:=HT.out.2.1.later hupw HT.out.2.2
   obtain ⟨b,off,u0,u1,u2,u3,u4,u5,rfl,hb,c0,c1,c2,c3,c4,c5,ht⟩:=hsw.part j p hp
   obtain ⟨bm,offm,rfl,hbm,cm⟩:=hsw.mark j mj hmj
   have hBr:=Nat.le_trans HT.out.2.2 hupw.size
   have hbl:=Nat.lt_of_lt_of_le hb hBr
   have hblm:=Nat.lt_of_lt_of_le hbm hBr
   have hxz:=HPZ.out j p hp
   have HX:=Lib.hid (fun W (hW : Up wr W) => HT.out.1 p (List.mem_of_getElem? hp) B _ W (ht.low (hW.below hBr)) (Nat.le_trans hBr hW.size))
   have HXR:=Lib.hid (fun W (hW : Up wr W) => jg2 p (HT.out.1 p (List.mem_of_getElem? hp)) hxz.2 B _ W (ht.low (hW.below hBr)) (Nat.le_trans hBr hW.size))
   have hsz:=HTS.out j
   have hla:=HLA.out j p mj (by rw [hlp.out];omega) hp hmj
   have HN1 : Hid (j = 0 → J 1 = ⟨#[40]⟩ ++ (if mj = true then jas [15,16] p.kind (dt p) ++ ⟨#[63]⟩ else dt p)):=fun e => HN.out.1 _ (e ▸ hla)
   have HN2 : Hid (0 < j → J (j + 1) = J j ++ ⟨#[44,32]⟩ ++ (if mj = true then jas [15,16] p.kind (dt p) ++ ⟨#[63]⟩ else dt p)):=fun e => HN.out.2 j _ hla e
   unfold jbB at HX
   have hrz:=jaU [15,16] p.kind (dt p)
   obtain ⟨rx,hrx⟩ : ∃ rx,Hid (jas [15,16] p.kind (dt p) = rx):=⟨_,rfl⟩
   rw [hrx.out] at HXR hrz HN1 HN2
   obtain ⟨tx,htx⟩ : ∃ tx,Hid (dt p = tx):=⟨_,rfl⟩
   rw [htx.out] at HX hxz hrz HN1 HN2
   obtain ⟨s,hs⟩ : ∃ s,Hid (J j = s):=⟨_,rfl⟩
   rw [hs.out] at hsz HN2 ⊢
   have z1 : ¬ 9223372036854775807 < s.size + 2:=by omega
   have z2 : ¬ 9223372036854775807 < s.size + 2 + rx.size:=by omega
   have z3 : ¬ 9223372036854775807 < s.size + rx.size:=by omega
   have z4 : ¬ 9223372036854775807 < s.size + 2 + rx.size + 1:=by omega
   have z5 : ¬ 9223372036854775807 < s.size + rx.size + 1:=by omega
   have z6 : ¬ 9223372036854775807 < s.size + 2 + tx.size:=by omega
   have z7 : ¬ 9223372036854775807 < s.size + tx.size:=by omega
   clear ht hp hmj hsw hla hxz hsz hlt hupw hrz
   by_cases h0 : j = 0
   ·subst h0
    have hss : Hid (s = ⟨#[40]⟩):=by unfold Hid;rw [← hs.out,HZ.out]
    simp only [Nat.zero_mul,Nat.add_zero] at c0 c1 c2 c3 c4 c5 cm
    have HN3:=HN1.out rfl
    rw [← hss.out] at HN3
    have HN3:=Lib.hid HN3
    cases mj
    all_goals go_wp2_with (first | (go_at_call 42;refine (HX.out _ uq).mono ?_;rintro e w2 ⟨rfl,hu2⟩) | (go_at_call 82;refine (HXR.out _ uq).mono ?_;rintro e w2 ⟨rfl,hu2⟩))
    all_goals exact ⟨⟨1,by omega,rfl,by rw [HN3.out];simp only [Bool.false_eq_true, ↓reduceIte,ByteArray.append_assoc,nilB],hup.trans hu2⟩,by simp [intOf];omega⟩
   ·have h0i : (0 : Int) < j:=by omega
    have HN3:=Lib.hid (HN2.out (by omega))
    cases mj
    all_goals go_wp2_with (first | (go_at_call 42;refine (HX.out _ uq).mono ?_;rintro e w2 ⟨rfl,hu2⟩) | (go_at_call 82;refine (HXR.out _ uq).mono ?_;rintro e w2 ⟨rfl,hu2⟩))
    all_goals exact ⟨⟨j + 1,by omega,by simp,by rw [HN3.out];simp only [Bool.false_eq_true, ↓reduceIte,ByteArray.append_assoc,nilB],hup.trans hu2⟩,by simp [intOf];omega⟩
  ·obtain rfl : j = lp:=by omega
   have hsz:=HTS.out j
   have hsw:=HT.out.2.1.later hupw HT.out.2.2
   obtain ⟨b,off,u0,u1,u2,u3,u4,u5,rfl,hb,c0,c1,c2,c3,c4,c5,ht⟩:=hsw.part j pz HPL.out
   have hBr:=Nat.le_trans HT.out.2.2 hupw.size
   have hbl:=Nat.lt_of_lt_of_le hb hBr
   have hxz:=HPZ.out j pz HPL.out
   have HX:=Lib.hid (fun W (hW : Up wr W) => HT.out.1 pz (List.mem_of_getElem? HPL.out) B _ W (ht.low (hW.below hBr)) (Nat.le_trans hBr hW.size))
   unfold jbB at HX
   rw [htz.out] at HX hxz
   have z1 : ¬ 9223372036854775807 < (J j).size + 5:=by omega
   have z2 : ¬ 9223372036854775807 < (J j).size + 5 + tz.size:=by omega
   clear ht hsw hxz hsz hlt
   go_wp2_with (first | (go_at_call 42;refine (HX.out _ uq).mono ?_;rintro e w2 ⟨rfl,hu2⟩))
   all_goals go_ret
   all_goals exact ⟨rfl,hupw.trans hu2⟩
end Go.Proofs.YtiaepldmgighbaaGreatDoor
