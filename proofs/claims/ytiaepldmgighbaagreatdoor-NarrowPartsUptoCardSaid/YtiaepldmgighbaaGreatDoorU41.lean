import Derived.Test.YtiaepldmgighbaaGreatDoorU40
import Derived.Test.YtiaepldmgighbaaGreatDoorU07
import Derived.Test.YtiaepldmgighbaaGreatDoorU35
namespace Go.Proofs.YtiaepldmgighbaaGreatDoor
open Go.ChangeShapes Go.WideShapes Go.ChangeAt Go.RowKit
set_option linter.unusedSimpArgs false
set_option linter.unusedVariables false
set_option maxRecDepth 100000
abbrev RefT : TypeId:=33
inductive TIs (B : Nat) (w : World) : List Value → Ty → Prop
 | mk {k n : Int} {nm : ByteArray} {pa : Option Addr} {cap : Nat} {nv mv : Value} {ps : List Ty} {ns : List ByteArray} {ms : List Bool} (us : List (List Value))
   (hn1 : -9223372036854775808 ≤ n) (hn2 : n ≤ 9223372036854775807) (hnm : nm.size ≤ 2000000)
   (hnv : RowV (fun x => x < B) w nv (ns.map .string)) (hln : ns.length ≤ 2000000) (hsm : ∀ s ∈ ns,s.size ≤ 2000000)
   (hmv : RowV (fun x => x < B) w mv (ms.map .bool)) (hlm : ms.length ≤ 2000000)
   (hl : us.length = ps.length) (hpl : ps.length ≤ 2000000) (hpc : ps.length ≤ cap)
   (hc : ∀ (j : Nat) (u : List Value),us[j]? = some u → ∃ b off,pa = some ⟨b,off,none⟩ ∧ b < B ∧ u.length = 6 ∧ ∀ i,i < 6 → w.cell? ⟨b,off + j * 6 + i,none⟩ = u[i]?)
   (hq : ∀ (j : Nat) (u : List Value) (p : Ty),us[j]? = some u → ps[j]? = some p → TIs B w u p) :
   TIs B w [.int .i64 k, .int .i64 n, .string nm, .slice pa ps.length cap,nv,mv] (.mk k n nm ps ns ms)
theorem RowV.below {B : Nat} {w w' : World} {v : Value} {us : List Value} (h : RowV (fun x => x < B) w v us) (k : Below B w w') : RowV (fun x => x < B) w' v us:=by
 obtain ⟨T,h⟩:=h
 refine ⟨T,h.keep fun g cs fz h1 h2 => ⟨h1,?_⟩⟩
 rw [k.block g h1]
 exact h2
theorem TIs.low {B : Nat} {w w' : World} {us : List Value} {t : Ty} (h : TIs B w us t) (k : Below B w w') : TIs B w' us t:=by
 induction h with
 | mk us hn1 hn2 hnm hnv hln hsm hmv hlm hl hpl hpc hc hq ih =>
   refine TIs.mk us hn1 hn2 hnm (hnv.below k) hln hsm (hmv.below k) hlm hl hpl hpc (fun j u hj => ?_) ih
   obtain ⟨b,off,h1,h2,h3,h4⟩:=hc j u hj
   exact ⟨b,off,h1,h2,h3,fun i hi => (Below.cell (p:=⟨b,_,none⟩) k h2).trans (h4 i hi)⟩
theorem Memo.below {S : Nat → Prop} {B : Nat} {w w' : World} (k : Memo S B w w') (h : B ≤ w.heap.size) : Below B w w':=⟨k.os,k.tape,k.output,k.size,fun i hi => k.low i hi (Nat.lt_of_lt_of_le hi h)⟩
theorem Up.below {B : Nat} {w w' : World} (k : Up w w') (h : B ≤ w.heap.size) : Below B w w':=Below.mono k h
theorem jg3 {w : World} {b o : Nat} {v : Value} (h : w.cell? ⟨b,o,none⟩ = some v) : ∃ cs T f,w.heap[b]? = some (.cells cs T f) ∧ cs[o]? = some v:=by
 unfold World.cell? at h
 revert h
 cases hb : w.heap[b]? with
 | none => simp
 | some o' =>
   cases o' with
   | cells cs T f => intro h;exact ⟨cs,T,f,rfl,by simpa using h⟩
   | _ => simp
theorem jkP {w : World} {a : Option Addr} {cap : Nat} {us : List Value} (hc : us.length ≤ cap) (hb : us.length ≤ 1000000000) (h : ∀ (j : Nat) (u : Value),us[j]? = some u → ∃ b off,a = some ⟨b,off,none⟩ ∧ w.cell? ⟨b,off + j,none⟩ = some u) :
  RowV (fun x => x < w.heap.size) w (.slice a us.length cap) us:=by
 cases us with
 | nil => exact ⟨StrT,a,cap,rfl,hc,hb,fun j u hj => by simp at hj⟩
 | cons u0 us =>
   obtain ⟨b,off,rfl,h0⟩:=h 0 u0 rfl
   obtain ⟨cs,T,f,h1,h2⟩:=jg3 h0
   refine ⟨T,_,cap,rfl,hc,hb,fun j u hj => ⟨b,off,cs,f,rfl,ja0 h1,h1,?_⟩⟩
   obtain ⟨b',off',e,hj'⟩:=h j u hj
   injection e with e
   injection e with e1 e2 _
   subst e1 e2
   rw [ja1 h1] at hj'
   exact hj'
section
variable {H : Type} {enc : TypeId × Value → H}
theorem jjg {l : List (DataW H)} {d : DataW H} (h : d ∈ l) : Rows.uptoBulk d ≤ Rows.uptoBulkAll l:=by
 induction l with
 | nil => cases h
 | cons x r ih =>
   rw [Rows.uptoBulkAll]
   rcases List.mem_cons.1 h with rfl | h
   ·omega
   ·have:=ih h;omega
theorem jmX (d : DataW H) : 1 ≤ Rows.uptoBulk d:=by
 cases d with
 | lit l => cases l <;> simp only [Rows.uptoBulk] <;> omega
 | _ => simp only [Rows.uptoBulk] <;> omega
theorem jgz (l : List (DataW H)) : l.length ≤ Rows.uptoBulkAll l:=by
 induction l with
 | nil => simp
 | cons x r ih =>
   rw [Rows.uptoBulkAll]
   have:=jmX x
   simp only [List.length_cons]
   omega
theorem jeO {W : World} {sp : Nat → Bool} {fuel : Nat} {t e : TypeId} {k : Nat} {cs : List Value} {x : DataW H × List MemPlace} (ht : Tryz.prog.underlying t = some (.slice e)) (hk : Tryz.prog.cellsOf e = k) (hk0 : 0 < k)
  (h : DataW.trod enc Tryz.prog W 0 sp true fuel t cs = some x) :
  ∃ (a : Option Addr) (l c : Nat) (ys : List (DataW H × List MemPlace)),cs = [.slice a l c] ∧ l ≤ c ∧ ys.length = l ∧ Rows.uptoBulkAll (ys.map (·.1)) + 1 ≤ Rows.uptoBulk x.1 ∧
    ∀ (i : Nat) (y : DataW H × List MemPlace),ys[i]? = some y → ∃ b off us m,a = some ⟨b,off,none⟩ ∧ b < W.heap.size ∧ us.length = k ∧ (∀ j,j < k → W.cell? ⟨b,off + i * k + j,none⟩ = us[j]?) ∧ m < fuel ∧ DataW.trod enc Tryz.prog W 0 sp true m e us = some y:=by
 rcases DataW.trod_slice ht h with ⟨rfl,rfl⟩ | ⟨a0,len,cap,elems,rest,n,rfl,rfl,rfl,_,hl,hm,hlen,hel,_,_⟩
 ·exact ⟨none,0,0,[],rfl,Nat.le_refl _,rfl,by simp [Rows.uptoBulk,Rows.uptoBulkAll],fun i y hi => by simp at hi⟩
 have hspot : 0 < len → a0.spot = none:=fun h0 => by
  obtain ⟨y0,hy0⟩ : ∃ y,elems[0]? = some y:=⟨_,List.getElem?_eq_getElem (by omega)⟩
  have h1:=hel 0 h0
  rw [hy0,Option.bind_eq_some_iff] at h1
  obtain ⟨cs0,hcs0,_⟩:=h1
  rw [hk] at hcs0
  obtain ⟨_,hcl0,hcell0⟩:=World.cells?_some hcs0
  have h2:=hcell0 0 hk0
  rw [List.getElem?_eq_getElem (by omega)] at h2
  simpa [Addr.add] using World.cell?_spot h2
 refine ⟨some a0,len,cap,elems,rfl,hl,hlen,by simp only [Rows.uptoBulk];omega,fun i y hy => ?_⟩
 have hi : i < len:=by rw [← hlen];exact (List.getElem?_eq_some_iff.1 hy).1
 have h1:=hel i hi
 rw [hy,Option.bind_eq_some_iff] at h1
 obtain ⟨cs,hcs,hty⟩:=h1
 rw [hk] at hcs
 obtain ⟨_,hcl,hcell⟩:=World.cells?_some hcs
 have hblk:=World.cells?_block hcs hk0
 have hsp:=hspot (by omega)
 obtain ⟨b,off,spot⟩:=a0
 simp only at hsp
 subst hsp
 rw [Go.WideShapes.add_plain] at hblk
 refine ⟨b,off,cs,n,rfl,hblk,hcl,fun j hj => ?_,by omega,hty⟩
 have h2:=hcell j hj
 rw [Go.WideShapes.add_plain,Go.WideShapes.add_plain] at h2
 exact h2
theorem jeV {α : Type} {P : Nat → α → Prop} : ∀ (n : Nat),(∀ i,i < n → ∃ x,P i x) → ∃ l : List α,l.length = n ∧ ∀ i x,l[i]? = some x → P i x
 | 0,_ => ⟨[],rfl,fun i x h => by simp at h⟩
 | n + 1,h => by
   obtain ⟨l,h1,h2⟩:=jeV n (fun i hi => h i (by omega))
   obtain ⟨x,hx⟩:=h n (by omega)
   refine ⟨l ++ [x],by simp [h1],fun i y hy => ?_⟩
   rcases Nat.lt_or_ge i n with hi | hi
   ·rw [List.getElem?_append_left (by omega)] at hy
    exact h2 i y hy
   ·have hil:=(List.getElem?_eq_some_iff.1 hy).1
    simp only [List.length_append,List.length_singleton] at hil
    obtain rfl : i = n:=by omega
    rw [List.getElem?_append_right (by omega),h1,Nat.sub_self] at hy
    simp only [gQz,Option.some.injEq] at hy
    subst hy
    exact hx
theorem jjU {W : World} {sp : Nat → Bool} {fuel : Nat} {cs : List Value} {x : DataW H × List MemPlace} (h : DataW.trod enc Tryz.prog W 0 sp true fuel 30 cs = some x) (hb : Rows.uptoBulk x.1 ≤ 1048576) :
  ∃ (v : Value) (ns : List ByteArray),cs = [v] ∧ RowV (fun y => y < W.heap.size) W v (ns.map .string) ∧ ns.length ≤ 2000000 ∧ ∀ s ∈ ns,s.size ≤ 2000000:=by
 obtain ⟨a,l,c,ys,rfl,h1,h2,h3,h6⟩:=jeO Tryz.underlying30 jnq (by decide) h
 have hl:=jgz (ys.map (·.1))
 rw [List.length_map] at hl
 obtain ⟨ns,hnl,hat⟩:=jeV (P:=fun i (s : ByteArray) => ∃ b off,a = some ⟨b,off,none⟩ ∧ W.cell? ⟨b,off + i,none⟩ = some (.string s) ∧ s.size ≤ 2000000) l (fun i hi => by
  obtain ⟨y,hy⟩ : ∃ y,ys[i]? = some y:=⟨_,List.getElem?_eq_getElem (by omega)⟩
  obtain ⟨b,off,us,m,q1,q2,q3,q4,_,q5⟩:=h6 i y hy
  obtain ⟨s,rfl,rfl,_⟩:=DataW.trod_string Tryz.underlying9 q5
  have q8:=q4 0 (by decide)
  rw [Nat.mul_one,Nat.add_zero] at q8
  have q9:=jjg (List.mem_map.2 ⟨_,List.mem_of_getElem? hy,rfl⟩ : (DataW.lit (.string s.data.toList) : DataW H) ∈ ys.map (·.1))
  have q10 : Rows.uptoBulk (DataW.lit (.string s.data.toList) : DataW H) = s.data.toList.length + 1:=by simp only [Rows.uptoBulk]
  have q11 : s.data.toList.length = s.size:=by simp
  exact ⟨s,b,off,q1,by simpa using q8,by omega⟩)
 refine ⟨.slice a l c,ns,rfl,?_,by omega,fun s hs => ?_⟩
 ·have q:=jkP (w:=W) (a:=a) (cap:=c) (us:=ns.map .string) (by rw [List.length_map];omega) (by rw [List.length_map];omega) (fun j u hj => by
   rw [List.getElem?_map] at hj
   cases hs : ns[j]? with
   | none => rw [hs] at hj;cases hj
   | some s =>
     rw [hs] at hj
     cases hj
     obtain ⟨b,off,r1,r2,_⟩:=hat j s hs
     exact ⟨b,off,r1,r2⟩)
  rw [List.length_map,hnl] at q
  exact q
 ·obtain ⟨i,hi⟩:=List.getElem?_of_mem hs
  obtain ⟨_,_,_,_,r⟩:=hat i s hi
  exact r
theorem jic {W : World} {sp : Nat → Bool} {fuel : Nat} {cs : List Value} {x : DataW H × List MemPlace} (h : DataW.trod enc Tryz.prog W 0 sp true fuel 31 cs = some x) (hb : Rows.uptoBulk x.1 ≤ 1048576) :
  ∃ (v : Value) (ms : List Bool),cs = [v] ∧ RowV (fun y => y < W.heap.size) W v (ms.map .bool) ∧ ms.length ≤ 2000000:=by
 obtain ⟨a,l,c,ys,rfl,h1,h2,h3,h6⟩:=jeO Tryz.underlying31 cellsB (by decide) h
 have hl:=jgz (ys.map (·.1))
 rw [List.length_map] at hl
 obtain ⟨ms,hnl,hat⟩:=jeV (P:=fun i (s : Bool) => ∃ b off,a = some ⟨b,off,none⟩ ∧ W.cell? ⟨b,off + i,none⟩ = some (.bool s)) l (fun i hi => by
  obtain ⟨y,hy⟩ : ∃ y,ys[i]? = some y:=⟨_,List.getElem?_eq_getElem (by omega)⟩
  obtain ⟨b,off,us,m,q1,q2,q3,q4,_,q5⟩:=h6 i y hy
  obtain ⟨s,rfl,rfl⟩:=DataW.trod_bool Tryz.underlying4 q5
  have q8:=q4 0 (by decide)
  rw [Nat.mul_one,Nat.add_zero] at q8
  exact ⟨s,b,off,q1,by simpa using q8⟩)
 refine ⟨.slice a l c,ms,rfl,?_,by omega⟩
 have q:=jkP (w:=W) (a:=a) (cap:=c) (us:=ms.map .bool) (by rw [List.length_map];omega) (by rw [List.length_map];omega) (fun j u hj => by
  rw [List.getElem?_map] at hj
  cases hs : ms[j]? with
  | none => rw [hs] at hj;cases hj
  | some s =>
    rw [hs] at hj
    cases hj
    obtain ⟨b,off,r1,r2⟩:=hat j s hs
    exact ⟨b,off,r1,r2⟩)
 rw [List.length_map,hnl] at q
 exact q
theorem jeB : ∀ (l : List (List Value × Ty)) (ys : List (DataW H × List MemPlace)),l.length = ys.length → (∀ (i : Nat) (x : List Value × Ty) (y : DataW H × List MemPlace),l[i]? = some x → ys[i]? = some y → x.2.nodes ≤ Rows.uptoBulk y.1) → ((l.map (·.2)).map Ty.nodes).sum ≤ Rows.uptoBulkAll (ys.map (·.1))
 | [],[],_,_ => by simp [Rows.uptoBulkAll]
 | [],_ :: _,h,_ => by simp at h
 | _ :: _,[],h,_ => by simp at h
 | x :: l,y :: ys,h,k => by
   have h1:=jeB l ys (by simpa using h) (fun i x y q1 q2 => k (i + 1) x y (by simpa using q1) (by simpa using q2))
   have h2:=k 0 x y rfl rfl
   simp only [List.map_cons,List.sum_cons,Rows.uptoBulkAll]
   simp only [List.map_map] at h1 ⊢
   omega
theorem jje : Tryz.prog.cellsOf RefT = 6:=by kernel_rfl
theorem jmU : Tryz.prog.cellsOf 29 = 1:=by kernel_rfl
theorem jmT : Tryz.prog.cellsOf 30 = 1:=by kernel_rfl
theorem jmV : Tryz.prog.cellsOf 31 = 1:=by kernel_rfl
theorem jnh {W : World} {sp : Nat → Bool} : ∀ (fuel : Nat) (cs : List Value) (x : DataW H × List MemPlace),DataW.trod enc Tryz.prog W 0 sp true fuel RefT cs = some x → Rows.uptoBulk x.1 ≤ 1048576 → ∃ t,TIs W.heap.size W cs t ∧ t.nodes ≤ Rows.uptoBulk x.1:=by
 intro fuel
 induction fuel using Nat.strongRecOn with
 | _ fuel ih =>
 intro cs x h hb
 obtain ⟨xs,m,rfl,hx,hcl,hxl,hf⟩:=DataW.trod_struct Tryz.underlying33 h
 rw [jje] at hcl
 match cs,hcl,xs,hxl with
 | [c0,c1,c2,c3,c4,c5],_,[x0,x1,x2,x3,x4,x5],_ =>
   have f0 : DataW.trod enc Tryz.prog W 0 sp true m 3 ((([c0,c1,c2,c3,c4,c5] : List Value).drop 0).take (Tryz.prog.cellsOf 3)) = some x0:=hf 0 _ rfl
   rw [jnr] at f0
   have f1 : DataW.trod enc Tryz.prog W 0 sp true m 3 ((([c0,c1,c2,c3,c4,c5] : List Value).drop 1).take (Tryz.prog.cellsOf 3)) = some x1:=hf 1 _ rfl
   rw [jnr] at f1
   have f2 : DataW.trod enc Tryz.prog W 0 sp true m 9 ((([c0,c1,c2,c3,c4,c5] : List Value).drop 2).take (Tryz.prog.cellsOf 9)) = some x2:=hf 2 _ rfl
   rw [jnq] at f2
   have f3 : DataW.trod enc Tryz.prog W 0 sp true m 29 ((([c0,c1,c2,c3,c4,c5] : List Value).drop 3).take (Tryz.prog.cellsOf 29)) = some x3:=hf 3 _ rfl
   rw [jmU] at f3
   have f4 : DataW.trod enc Tryz.prog W 0 sp true m 30 ((([c0,c1,c2,c3,c4,c5] : List Value).drop 4).take (Tryz.prog.cellsOf 30)) = some x4:=hf 4 _ rfl
   rw [jmT] at f4
   have f5 : DataW.trod enc Tryz.prog W 0 sp true m 31 ((([c0,c1,c2,c3,c4,c5] : List Value).drop 5).take (Tryz.prog.cellsOf 31)) = some x5:=hf 5 _ rfl
   rw [jmV] at f5
   simp only [List.drop,List.take] at f0 f1 f2 f3 f4 f5
   have hbx : Rows.uptoBulk x.1 = Rows.uptoBulk x0.1 + (Rows.uptoBulk x1.1 + (Rows.uptoBulk x2.1 + (Rows.uptoBulk x3.1 + (Rows.uptoBulk x4.1 + (Rows.uptoBulk x5.1 + 0))))) + 1:=by
    rw [hx]
    simp only [Rows.uptoBulk,Rows.uptoBulkAll,List.map_cons,List.map_nil]
   obtain ⟨k,e0,_,_⟩:=DataW.trod_int Tryz.underlying3 f0
   obtain ⟨n,e1,_,hnw⟩:=DataW.trod_int Tryz.underlying3 f1
   obtain ⟨nm,e2,hnm,_⟩:=DataW.trod_string Tryz.underlying9 f2
   obtain ⟨a,l,c,ys,e3,h1,h2,h3,h6⟩:=jeO Tryz.underlying29 jje (by decide) f3
   obtain ⟨nv,ns,e4,hnv,hln,hsm⟩:=jjU f4 (by omega)
   obtain ⟨mv,ms,e5,hmv,hlm⟩:=jic f5 (by omega)
   simp only [List.cons.injEq,and_true] at e0 e1 e2 e3 e4 e5
   subst e0 e1 e2 e3 e4 e5
   have hnb:=bounds_i64 hnw
   have hnz : nm.size + 1 ≤ Rows.uptoBulk x2.1:=by
    rw [hnm]
    show _ ≤ Rows.uptoBulk (DataW.lit (.string nm.data.toList) : DataW H)
    have q10 : Rows.uptoBulk (DataW.lit (.string nm.data.toList) : DataW H) = nm.data.toList.length + 1:=by simp only [Rows.uptoBulk]
    have q11 : nm.data.toList.length = nm.size:=by simp
    omega
   have hl:=jgz (ys.map (·.1))
   rw [List.length_map] at hl
   obtain ⟨L,hLl,hL⟩:=jeV (P:=fun i (z : List Value × Ty) => ∃ b off y,ys[i]? = some y ∧ a = some ⟨b,off,none⟩ ∧ b < W.heap.size ∧ z.1.length = 6 ∧ (∀ j,j < 6 → W.cell? ⟨b,off + i * 6 + j,none⟩ = z.1[j]?) ∧ TIs W.heap.size W z.1 z.2 ∧ z.2.nodes ≤ Rows.uptoBulk y.1) l (fun i hi => by
    obtain ⟨y,hy⟩ : ∃ y,ys[i]? = some y:=⟨_,List.getElem?_eq_getElem (by omega)⟩
    obtain ⟨b,off,us,m',q1,q2,q3,q4,q6,q5⟩:=h6 i y hy
    have q9:=jjg (List.mem_map.2 ⟨_,List.mem_of_getElem? hy,rfl⟩ : y.1 ∈ ys.map (·.1))
    obtain ⟨t,ht,hn⟩:=ih m' (by omega) us y q5 (by omega)
    exact ⟨(us,t),b,off,y,hy,q1,q2,q3,q4,ht,hn⟩)
   have hps : (L.map (·.2)).length = l:=by rw [List.length_map,hLl]
   have hsum:=jeB L ys (by omega) (fun i x y q1 q2 => by
    obtain ⟨_,_,y',r1,_,_,_,_,_,r7⟩:=hL i x q1
    rw [q2] at r1
    cases r1
    exact r7)
   refine ⟨.mk k n nm (L.map (·.2)) ns ms,?_,?_⟩
   ·have q:=TIs.mk (B:=W.heap.size) (w:=W) (k:=k) (n:=n) (nm:=nm) (pa:=a) (cap:=c) (nv:=c4) (mv:=c5) (ps:=L.map (·.2)) (ns:=ns) (ms:=ms) (L.map (·.1)) hnb.1 hnb.2 (by omega) hnv hln hsm hmv hlm (by simp) (by omega) (by omega) (fun j u hj => by
     rw [List.getElem?_map] at hj
     cases hz : L[j]? with
     | none => rw [hz] at hj;cases hj
     | some z =>
       rw [hz] at hj
       cases hj
       obtain ⟨b,off,_,_,r1,r2,r3,r4,_,_⟩:=hL j z hz
       exact ⟨b,off,r1,r2,r3,r4⟩) (fun j u p hj hp => by
     rw [List.getElem?_map] at hj hp
     cases hz : L[j]? with
     | none => rw [hz] at hj;cases hj
     | some z =>
       rw [hz] at hj hp
       cases hj
       cases hp
       obtain ⟨_,_,_,_,_,_,_,_,r5,_⟩:=hL j z hz
       exact r5)
    rw [hps] at q
    exact q
   ·rw [Ty.nodes_mk]
    omega
end
end Go.Proofs.YtiaepldmgighbaaGreatDoor
namespace Go.Proofs.YtiaepldmgighbaaGreatDoor
open Go.RowKit
set_option linter.unusedSimpArgs false
set_option linter.unusedVariables false
theorem TIs.six {B : Nat} {w : World} {us : List Value} {t : Ty} (h : TIs B w us t) : ∃ u0 u1 u2 u3 u4 u5,us = [u0,u1,u2,u3,u4,u5]:=by
 cases h
 exact ⟨_,_,_,_,_,_,rfl⟩
theorem jcP {B : Nat} {w : World} {pa : Option Addr} {ps : List Ty} {us : List (List Value)} (hl : us.length = ps.length)
  (hc : ∀ (j : Nat) (u : List Value),us[j]? = some u → ∃ b off,pa = some ⟨b,off,none⟩ ∧ b < B ∧ u.length = 6 ∧ ∀ i,i < 6 → w.cell? ⟨b,off + j * 6 + i,none⟩ = u[i]?)
  (hq : ∀ (j : Nat) (u : List Value) (p : Ty),us[j]? = some u → ps[j]? = some p → TIs B w u p) {j : Nat} (hj : j < ps.length) :
  ∃ p b off u0 u1 u2 u3 u4 u5,ps[j]? = some p ∧ pa = some ⟨b,off,none⟩ ∧ b < B ∧ w.cell? ⟨b,off + j * 6,none⟩ = some u0 ∧ w.cell? ⟨b,off + j * 6 + 1,none⟩ = some u1 ∧ w.cell? ⟨b,off + j * 6 + 2,none⟩ = some u2 ∧ w.cell? ⟨b,off + j * 6 + 3,none⟩ = some u3 ∧ w.cell? ⟨b,off + j * 6 + 4,none⟩ = some u4 ∧ w.cell? ⟨b,off + j * 6 + 5,none⟩ = some u5 ∧ TIs B w [u0,u1,u2,u3,u4,u5] p:=by
 obtain ⟨u,hu⟩ : ∃ u,us[j]? = some u:=⟨_,List.getElem?_eq_getElem (by omega)⟩
 obtain ⟨p,hp⟩ : ∃ p,ps[j]? = some p:=⟨_,List.getElem?_eq_getElem hj⟩
 obtain ⟨b,off,h1,h2,_,h4⟩:=hc j u hu
 have ht:=hq j u p hu hp
 obtain ⟨u0,u1,u2,u3,u4,u5,rfl⟩:=ht.six
 exact ⟨p,b,off,u0,u1,u2,u3,u4,u5,hp,h1,h2,h4 0 (by decide),h4 1 (by decide),h4 2 (by decide),h4 3 (by decide),h4 4 (by decide),h4 5 (by decide),ht⟩
def sumN (l : List Ty) : Nat:=(l.map Ty.nodes).sum
theorem jdi {l : List Ty} {j : Nat} {p : Ty} (h : l[j]? = some p) : sumN (l.take (j + 1)) = sumN (l.take j) + p.nodes:=by
 unfold sumN
 rw [List.take_add_one,h]
 simp
theorem jbV (l : List Ty) (j : Nat) : sumN (l.take j) ≤ sumN l:=by
 unfold sumN
 rw [← List.take_append_drop j l,List.map_append,List.sum_append,List.take_append_drop]
 omega
def SizeR (t : Ty) (w : World) (e : Ending) (w' : World) : Prop := ∃ r : Nat,e = .returned (.int .i64 r) ∧ r ≤ t.nodes ∧ (r ≤ 500 → r = t.nodes) ∧ Up w w'
set_option maxRecDepth 100000
set_option maxHeartbeats 3200000
theorem jn3 (B : Nat) : ∀ (m : Nat) (t : Ty) (us : List Value) (w : World),t.nodes ≤ m → TIs B w us t → B ≤ w.heap.size → t.nodes ≤ 2000000 → Calls Tryz.prog 52 #[.agg us.toArray] w (SizeR t w):=by
 intro m
 induction m with
 | zero => intro t us w h;have:=t.nodes_pos;omega
 | succ m ih =>
   intro t us w hm h hB hn
   cases h with
   | @mk k n nm pa cap nv mv ps ns ms us hn1 hn2 hnm hnv hln hsm hmv hlm hl hpl hpc hc hq =>
     have hsum : Hid ((Ty.mk k n nm ps ns ms).nodes = 1 + sumN ps):=Ty.nodes_mk _ _ _ _ _ _
     have HP:=Lib.hid (fun (j : Nat) (hj : j < ps.length) => jcP hl hc hq hj)
     have IH:=Lib.hid ih
     have HB:=Lib.hid (And.intro hB (And.intro hm hn))
     obtain ⟨na,ncap,rfl,_,_⟩:=hnv.form
     obtain ⟨ma,mcap,rfl,_,_⟩:=hmv.form
     obtain ⟨nl,hnl⟩ : ∃ nl,Hid ((ns.map Value.string).length = nl):=⟨_,rfl⟩
     obtain ⟨ml,hml⟩ : ∃ ml,Hid ((ms.map Value.bool).length = ml):=⟨_,rfl⟩
     rw [hnl.out,hml.out]
     clear ih hm hB hn hl hc hq hn1 hn2 hnm hnv hln hsm hmv hlm hnl hml
     go_enter Tryz.func52,Tryz.ntmps52
     go_wp2_with fail
     refine ja4 fun A2 W2 hA2 hW2 => ?_
     have hu0 : Hid (Up w W2):=by subst hW2;exact uq
     obtain ⟨q,hq⟩ : ∃ q,Hid (w.heap.size = q):=⟨_,rfl⟩
     have HQ : Hid (W2.heap[q]? = some (.cells #[.int .i64 k, .int .i64 n, .string nm, .slice pa ps.length cap, .slice na nl ncap, .slice ma ml mcap] RefT (0,0))):=by subst hW2;rw [← hq.out];exact jaa _ _ _ rfl
     rw [hq.out] at hA2
     clear hW2
     subst hA2
     go_loopw [3,4] (fun v i wr => ∃ (j r : Nat),j ≤ ps.length ∧ i = .int .i64 j ∧ v = .int .i64 r ∧ Hid (r ≤ 1 + sumN (ps.take j) ∧ (r ≤ 500 → r = 1 + sumN (ps.take j))) ∧ Up W2 wr) (fun _ i _ => ps.length - (intOf i).toNat)
     case atStart => exact ⟨0,1,Nat.zero_le _,rfl,rfl,⟨by simp [sumN],fun _ => by simp [sumN]⟩,Up.refl _⟩
     case round =>
      obtain ⟨j,r,hj,rfl,rfl,hX,hup2⟩:=hrel
      have HU:=Lib.hid (hu0.out.trans hup2)
      have HQr:=Lib.hid (hup2.get HQ.out)
      have x3:=ja1 HQr.out 3
      have xl:=ja0 HQr.out
      simp only [gQa,gQz,gQs] at x3
      by_cases hlt : j < ps.length
      ·have hji : (j : Int) < ps.length:=by omega
       by_cases h5 : r ≤ 500
       ·have h5i : (r : Int) ≤ 500:=by omega
        obtain ⟨p,b,off,u0,u1,u2,u3,u4,u5,hp,rfl,hb,c0,c1,c2,c3,c4,c5,ht⟩:=HP.out j hlt
        have hbw:=Nat.lt_of_lt_of_le hb HB.out.1
        have c0:=(HU.out.cells _ _ hbw).trans c0
        have c1:=(HU.out.cells _ _ hbw).trans c1
        have c2:=(HU.out.cells _ _ hbw).trans c2
        have c3:=(HU.out.cells _ _ hbw).trans c3
        have c4:=(HU.out.cells _ _ hbw).trans c4
        have c5:=(HU.out.cells _ _ hbw).trans c5
        have hbl:=Nat.lt_of_lt_of_le hbw HU.out.size
        have hpn : Hid (sumN (ps.take (j + 1)) = sumN (ps.take j) + p.nodes ∧ sumN (ps.take (j + 1)) ≤ sumN ps):=⟨jdi hp,jbV _ _⟩
        have HT:=Lib.hid (fun W (hW : Up w W) => IH.out p [u0,u1,u2,u3,u4,u5] W (by have:=hpn.out;have:=HB.out;have:=hsum.out;omega) (ht.low (hW.below HB.out.1)) (Nat.le_trans HB.out.1 hW.size) (by have:=hpn.out;have:=HB.out;have:=hsum.out;omega))
        clear hp ht hlt
        go_wp2_with (first | (go_at_call 52;refine (HT.out _ (HU.out.trans (show Up wr _ from uq))).mono ?_;rintro e w2 ⟨r2,rfl,hr1,hr2,hu2⟩;have HR:=Lib.hid (And.intro hr1 hr2);have hr3 : (r2 : Int) ≤ 2000000:=(by have:=hpn.out;have:=HB.out;have:=hsum.out;omega);clear hr1 hr2))
        exact ⟨⟨j + 1,r + r2,by omega,by simp,by simp,⟨by have:=hpn.out;have:=HR.out;have:=hX.out;omega,fun h => by have:=hpn.out;have:=HR.out;have:=hX.out;omega⟩,uq⟩,by simp [intOf];omega⟩
       ·have h5i : ¬ (r : Int) ≤ 500:=by omega
        have HX:=Lib.hid (And.intro hX h5)
        clear hX hlt
        go_wp2_with fail
        go_ret
        exact ⟨r,rfl,by have:=HX.out.1.out;have:=jbV ps j;have:=hsum.out;omega,fun h => absurd h HX.out.2,HU.out.trans uq⟩
      ·obtain rfl : j = ps.length:=by omega
       have HX : Hid (r ≤ 1 + sumN ps ∧ (r ≤ 500 → r = 1 + sumN ps)):=by have:=hX.out;rw [List.take_length] at this;exact this
       clear hX hlt
       go_wp2_with fail
       all_goals go_ret
       all_goals exact ⟨r,rfl,by have:=HX.out;have:=hsum.out;omega,fun h => by have:=HX.out;have:=hsum.out;omega,HU.out.trans uq⟩
theorem jcC (B : Nat) (t : Ty) (us : List Value) (w : World) (h : TIs B w us t) (hB : B ≤ w.heap.size) (hn : t.nodes ≤ 2000000) : Calls Tryz.prog 28 #[.agg us.toArray] w fun e w' => ∃ b : Bool,e = .returned (.bool b) ∧ (b = false → t.nodes ≤ 60) ∧ Up w w':=by
 obtain ⟨u0,u1,u2,u3,u4,u5,rfl⟩:=h.six
 have HS:=Lib.hid (fun W (hW : Up w W) => jn3 B _ t _ W (Nat.le_refl _) (h.low (hW.below hB)) (Nat.le_trans hB hW.size) hn)
 have HN:=Lib.hid hn
 clear h hB hn
 go_enter Tryz.func28,Tryz.ntmps28
 go_wp2_with (first | (go_at_call 52;refine (HS.out _ (show Up w _ from uq)).mono ?_;rintro e w2 ⟨r,rfl,hr1,hr2,hu2⟩;have HR:=Lib.hid (And.intro hr1 hr2);clear hr1 hr2))
 go_ret
 refine ⟨_,rfl,fun e => ?_,uq⟩
 have:=HR.out
 simp only [decide_eq_false_iff_not] at e
 omega
theorem jcj {α : Type} (sep x : List α) : ∀ (a : List α) (r : List (List α)),((a :: r ++ [x]).intersperse sep).flatten = ((a :: r).intersperse sep).flatten ++ sep ++ x
 | a,[] => by simp [List.intersperse]
 | a,b :: r => by
   have ih:=jcj sep x b r
   rw [List.cons_append,List.cons_append] at *
   simp only [List.intersperse,List.flatten_cons] at ih ⊢
   rw [ih]
   simp [List.append_assoc]
theorem jfY (sep : ByteArray) (l : List ByteArray) (x : ByteArray) : jav sep (l ++ [x]) = if l = [] then x else jav sep l ++ sep ++ x:=by
 cases l with
 | nil =>
   rw [if_pos rfl]
   simp [jav,Lib.join,List.intercalate]
 | cons a r =>
   rw [if_neg (by simp)]
   unfold jav Lib.join List.intercalate
   rw [List.map_append,List.map_cons,List.map_cons,List.map_nil]
   have h:=jcj sep.data.toList x.data.toList a.data.toList (r.map (·.data.toList))
   rw [h]
   apply ByteArray.ext
   apply Array.ext'
   simp [ByteArray.data_append]
def dK (k n : Int) (nm : ByteArray) (ts : List (Int × ByteArray)) (ns : List ByteArray) (ms : List Bool) : ByteArray:=if 1 ≤ k ∧ k ≤ 23 then jap k n nm ts ns ms else ⟨#[]⟩
mutual
def dt : Ty → ByteArray
 | .mk k n nm ps ns ms => dK k n nm (dts ps) ns ms
def dts : List Ty → List (Int × ByteArray)
 | [] => []
 | p :: r => (p.kind,dt p) :: dts r
end
theorem jno : ∀ ps : List Ty,dts ps = ps.map fun p => (p.kind,dt p)
 | [] => rfl
 | p :: r => by rw [dts,jno r];rfl
theorem jom (k n : Int) (nm : ByteArray) (ps : List Ty) (ns : List ByteArray) (ms : List Bool) : dt (.mk k n nm ps ns ms) = dK k n nm (ps.map fun p => (p.kind,dt p)) ns ms:=by rw [dt,jno]
theorem jcg {k n : Int} {nm : ByteArray} {ps : List Ty} {ns : List ByteArray} {ms : List Bool} (h1 : 1 ≤ k) (h2 : k ≤ 23) : dt (.mk k n nm ps ns ms) = jap k n nm (ps.map fun p => (p.kind,dt p)) ns ms:=by rw [jom,dK,if_pos ⟨h1,h2⟩]
inductive Kn : Ty → Prop
 | mk {k n : Int} {nm : ByteArray} {ps : List Ty} {ns : List ByteArray} {ms : List Bool} (h1 : 1 ≤ k) (h2 : k ≤ 23) (hp : ∀ p ∈ ps,Kn p) : Kn (.mk k n nm ps ns ms)
theorem Kn.part {k n : Int} {nm : ByteArray} {ps : List Ty} {ns : List ByteArray} {ms : List Bool} (h : Kn (.mk k n nm ps ns ms)) : (1 ≤ k ∧ k ≤ 23) ∧ ∀ p ∈ ps,Kn p:=by cases h with | mk h1 h2 hp => exact ⟨⟨h1,h2⟩,hp⟩
theorem Kn.dt {t : Ty} (h : Kn t) : dt t = t.text:=by
 induction h with
 | mk h1 h2 hp ih =>
   rw [jcg h1 h2,Ty.text_mk]
   congr 1
   exact List.map_congr_left fun p hp => by rw [ih p hp]
theorem jd6 {f g : Ty → Nat} : ∀ (l : List Ty),(∀ p ∈ l,f p ≤ g p) → jaF (l.map f) ≤ jaF (l.map g)
 | [],_ => Nat.le_refl _
 | x :: r,h => by
   have h1:=h x (by simp)
   have h2:=jd6 r fun p hp => h p (by simp [hp])
   simp only [List.map_cons,jax]
   omega
inductive Nm : Ty → Prop
 | mk {k n : Int} {nm : ByteArray} {ps : List Ty} {ns : List ByteArray} {ms : List Bool} (h1 : -9223372036854775808 ≤ n) (h2 : n ≤ 9223372036854775807) (hp : ∀ p ∈ ps,Nm p) : Nm (.mk k n nm ps ns ms)
theorem TIs.nm {B : Nat} {w : World} {us : List Value} {t : Ty} (h : TIs B w us t) : Nm t:=by
 induction h with
 | mk us hn1 hn2 hnm hnv hln hsm hmv hlm hl hpl hpc hc hq ih =>
   refine .mk hn1 hn2 fun p hp => ?_
   obtain ⟨j,hj⟩:=List.getElem?_of_mem hp
   obtain ⟨u,hu⟩ : ∃ u,us[j]? = some u:=⟨_,List.getElem?_eq_getElem (by rw [hl];exact (List.getElem?_eq_some_iff.1 hj).1)⟩
   exact ih j u p hu hj
theorem jcH {t : Ty} (h : Nm t) : (dt t).size ≤ t.wide:=by
 induction h with
 | @mk k n nm ps ns ms h1 h2 hp ih =>
   rw [jom,Ty.wide_mk]
   unfold dK
   split
   ·have q1:=jfD k n nm (ps.map fun p => (p.kind,Go.Proofs.YtiaepldmgighbaaGreatDoor.dt p)) ns ms h1 h2
    have q2:=jd6 (f:=fun p => (Go.Proofs.YtiaepldmgighbaaGreatDoor.dt p).size) (g:=Ty.wide) ps ih
    rw [List.map_map] at q1
    simp only [Function.comp_def] at q1
    omega
   ·exact Nat.zero_le _
inductive Snd : Ty → Prop
 | mk {k n : Int} {nm : ByteArray} {ps : List Ty} {ns : List ByteArray} {ms : List Bool} (h1 : k = 13 ∨ k = 20 ∨ k = 15 → ps ≠ []) (h2 : k = 14 → ps.length ≤ ns.length ∧ ps.length ≤ ms.length) (h3 : k = 15 → ps.length ≤ ms.length + 1) (hp : ∀ p ∈ ps,Snd p) : Snd (.mk k n nm ps ns ms)
def jbB (t : Ty) (w : World) (e : Ending) (w' : World) : Prop:=e = .returned (.string (dt t)) ∧ Up w w'
def jbq (t : Ty) : Prop := ∀ (B : Nat) (us : List Value) (w : World),TIs B w us t → B ≤ w.heap.size → Calls Tryz.prog 42 #[.agg us.toArray] w (jbB t w)
set_option maxRecDepth 100000
set_option maxHeartbeats 3200000
theorem jg2 (t : Ty) (h : jbq t) (hw : t.wide ≤ 1000000000000000) (B : Nat) (us : List Value) (w : World) (ht : TIs B w us t) (hB : B ≤ w.heap.size) :
  Calls Tryz.prog 82 #[.agg us.toArray] w fun e w' => e = .returned (.string (jas [15,16] t.kind (dt t))) ∧ Up w w':=by
 have HT:=Lib.hid (fun W (hW : Up w W) => h B us W (ht.low (hW.below hB)) (Nat.le_trans hB hW.size))
 have hsz : ((dt t).size : Int) ≤ 1000000000000000:=by have:=jcH ht.nm;omega
 obtain ⟨u0,u1,u2,u3,u4,u5,rfl⟩:=ht.six
 have hk0 : u0 = .int .i64 t.kind:=by cases ht;rfl
 subst hk0
 obtain ⟨k,hk⟩ : ∃ k,Hid (t.kind = k):=⟨_,rfl⟩
 unfold jbB at HT
 obtain ⟨tx,htx⟩ : ∃ x,Hid (dt t = x):=⟨_,rfl⟩
 rw [hk.out,htx.out] at HT
 rw [hk.out,htx.out]
 rw [htx.out] at hsz
 clear h ht
 have hc : (k == 15) = true ∨ ((k == 15) = false ∧ (k == 16) = true) ∨ ((k == 15) = false ∧ (k == 16) = false):=by
  cases h1 : (k == 15) <;> cases h2 : (k == 16) <;> simp
 rcases hc with q | ⟨q,q2⟩ | ⟨q,q2⟩
 ·have er : jas [15,16] k tx = ⟨#[40]⟩ ++ tx ++ ⟨#[41]⟩:=by unfold jas;rw [if_pos (by simp at q;simp [q])]
  rw [er]
  clear er
  go_enter Tryz.func82,Tryz.ntmps82
  go_wp2_with (first | (go_at_call 42;refine (HT.out _ (show Up w _ from uq)).mono ?_;rintro e w2 ⟨rfl,hu2⟩))
  all_goals go_ret
  all_goals exact ⟨rfl,uq⟩
 ·have er : jas [15,16] k tx = ⟨#[40]⟩ ++ tx ++ ⟨#[41]⟩:=by unfold jas;rw [if_pos (by simp at q2;simp [q2])]
  rw [er]
  clear er
  go_enter Tryz.func82,Tryz.ntmps82
  go_wp2_with (first | (go_at_call 42;refine (HT.out _ (show Up w _ from uq)).mono ?_;rintro e w2 ⟨rfl,hu2⟩))
  all_goals go_ret
  all_goals exact ⟨rfl,uq⟩
 ·have er : jas [15,16] k tx = tx:=by unfold jas;rw [if_neg (by simp at q q2;simp [q,q2])]
  rw [er]
  clear er
  go_enter Tryz.func82,Tryz.ntmps82
  go_wp2_with (first | (go_at_call 42;refine (HT.out _ (show Up w _ from uq)).mono ?_;rintro e w2 ⟨rfl,hu2⟩))
  all_goals go_ret
  all_goals exact ⟨rfl,uq⟩
theorem jcI (t : Ty) (h : jbq t) (hw : t.wide ≤ 1000000000000000) (B : Nat) (us : List Value) (w : World) (ht : TIs B w us t) (hB : B ≤ w.heap.size) :
  Calls Tryz.prog 83 #[.agg us.toArray] w fun e w' => e = .returned (.string (jaK t.kind (dt t))) ∧ Up w w':=by
 have HT:=Lib.hid (fun W (hW : Up w W) => h B us W (ht.low (hW.below hB)) (Nat.le_trans hB hW.size))
 have hsz : ((dt t).size : Int) ≤ 1000000000000000:=by have:=jcH ht.nm;omega
 obtain ⟨u0,u1,u2,u3,u4,u5,rfl⟩:=ht.six
 have hk0 : u0 = .int .i64 t.kind:=by cases ht;rfl
 subst hk0
 obtain ⟨k,hk⟩ : ∃ k,Hid (t.kind = k):=⟨_,rfl⟩
 unfold jbB at HT
 obtain ⟨tx,htx⟩ : ∃ x,Hid (dt t = x):=⟨_,rfl⟩
 rw [hk.out,htx.out] at HT
 rw [hk.out,htx.out]
 rw [htx.out] at hsz
 clear h ht
 have hc : (k == 15) = true ∨ (k == 15) = false:=by cases h1 : (k == 15) <;> simp
 rcases hc with q | q
 ·have er : jaK k tx = ⟨#[40]⟩ ++ tx ++ ⟨#[41]⟩:=by unfold jaK jas;rw [if_pos (by simp at q;simp [q])]
  rw [er]
  clear er
  go_enter Tryz.func83,Tryz.ntmps83
  go_wp2_with (first | (go_at_call 42;refine (HT.out _ (show Up w _ from uq)).mono ?_;rintro e w2 ⟨rfl,hu2⟩))
  all_goals go_ret
  all_goals exact ⟨rfl,uq⟩
 ·have er : jaK k tx = tx:=by unfold jaK jas;rw [if_neg (by simp at q;simp [q])]
  rw [er]
  clear er
  go_enter Tryz.func83,Tryz.ntmps83
  go_wp2_with (first | (go_at_call 42;refine (HT.out _ (show Up w _ from uq)).mono ?_;rintro e w2 ⟨rfl,hu2⟩))
  all_goals go_ret
  all_goals exact ⟨rfl,uq⟩
structure Seen (B : Nat) (w : World) (n : Int) (nm : ByteArray) (ps : List Ty) (ns : List ByteArray) (ms : List Bool) (pa : Option Addr) (cap : Nat) (na : Option Addr) (ncap : Nat) (ma : Option Addr) (mcap : Nat) : Prop where
 n1 : -9223372036854775808 ≤ n
 n2 : n ≤ 9223372036854775807
 nmz : nm.size ≤ 2000000
 lp : ps.length ≤ 2000000
 ln : ns.length ≤ 2000000
 lm : ms.length ≤ 2000000
 cp : ps.length ≤ cap
 cn : ns.length ≤ ncap
 cm : ms.length ≤ mcap
 nsz : ∀ s ∈ ns,s.size ≤ 2000000
 part : ∀ (j : Nat) (p : Ty),ps[j]? = some p → ∃ b off u0 u1 u2 u3 u4 u5,pa = some ⟨b,off,none⟩ ∧ b < B ∧ w.cell? ⟨b,off + j * 6,none⟩ = some u0 ∧ w.cell? ⟨b,off + j * 6 + 1,none⟩ = some u1 ∧ w.cell? ⟨b,off + j * 6 + 2,none⟩ = some u2 ∧ w.cell? ⟨b,off + j * 6 + 3,none⟩ = some u3 ∧ w.cell? ⟨b,off + j * 6 + 4,none⟩ = some u4 ∧ w.cell? ⟨b,off + j * 6 + 5,none⟩ = some u5 ∧ TIs B w [u0,u1,u2,u3,u4,u5] p
 name : ∀ (j : Nat) (s : ByteArray),ns[j]? = some s → ∃ b off,na = some ⟨b,off,none⟩ ∧ b < B ∧ w.cell? ⟨b,off + j,none⟩ = some (.string s)
 mark : ∀ (j : Nat) (m : Bool),ms[j]? = some m → ∃ b off,ma = some ⟨b,off,none⟩ ∧ b < B ∧ w.cell? ⟨b,off + j,none⟩ = some (.bool m)
theorem TIs.see {B : Nat} {w : World} {us : List Value} {k n : Int} {nm : ByteArray} {ps : List Ty} {ns : List ByteArray} {ms : List Bool} (h : TIs B w us (.mk k n nm ps ns ms)) :
  ∃ pa cap na ncap ma mcap,us = [.int .i64 k, .int .i64 n, .string nm, .slice pa ps.length cap, .slice na ns.length ncap, .slice ma ms.length mcap] ∧ Seen B w n nm ps ns ms pa cap na ncap ma mcap:=by
 cases h with
 | @mk _ _ _ pa cap nv mv _ _ _ us hn1 hn2 hnm hnv hln hsm hmv hlm hl hpl hpc hc hq =>
   obtain ⟨na,ncap,rfl,hnc,_⟩:=hnv.form
   obtain ⟨ma,mcap,rfl,hmc,_⟩:=hmv.form
   rw [List.length_map] at hnc hmc
   refine ⟨pa,cap,na,ncap,ma,mcap,by rw [List.length_map,List.length_map],⟨hn1,hn2,hnm,hpl,hln,hlm,hpc,hnc,hmc,hsm,fun j p hp => ?_,fun j s hs => ?_,fun j m hm => ?_⟩⟩
   ·have hj:=(List.getElem?_eq_some_iff.1 hp).1
    obtain ⟨p',b,off,u0,u1,u2,u3,u4,u5,hp',q⟩:=jcP hl hc hq hj
    rw [hp] at hp'
    cases hp'
    exact ⟨b,off,u0,u1,u2,u3,u4,u5,q⟩
   ·obtain ⟨T,a,c,e,_,_,h3⟩:=hnv
    obtain ⟨g,off,cs,fz,q1,q2,q3,q4⟩:=h3 j (.string s) (by rw [List.getElem?_map,hs];rfl)
    injection e with e _ _
    exact ⟨g,off,e.trans q1,q2,(ja1 q3 _).trans q4⟩
   ·obtain ⟨T,a,c,e,_,_,h3⟩:=hmv
    obtain ⟨g,off,cs,fz,q1,q2,q3,q4⟩:=h3 j (.bool m) (by rw [List.getElem?_map,hm];rfl)
    injection e with e _ _
    exact ⟨g,off,e.trans q1,q2,(ja1 q3 _).trans q4⟩
theorem Seen.later {B : Nat} {w W : World} {n : Int} {nm : ByteArray} {ps : List Ty} {ns : List ByteArray} {ms : List Bool} {pa : Option Addr} {cap : Nat} {na : Option Addr} {ncap : Nat} {ma : Option Addr} {mcap : Nat} (h : Seen B w n nm ps ns ms pa cap na ncap ma mcap) (k : Up w W) (hB : B ≤ w.heap.size) : Seen B W n nm ps ns ms pa cap na ncap ma mcap:=by
 refine ⟨h.n1,h.n2,h.nmz,h.lp,h.ln,h.lm,h.cp,h.cn,h.cm,h.nsz,fun j p hp => ?_,fun j s hs => ?_,fun j m hm => ?_⟩
 ·obtain ⟨b,off,u0,u1,u2,u3,u4,u5,e,hb,c0,c1,c2,c3,c4,c5,ht⟩:=h.part j p hp
  have hb':=Nat.lt_of_lt_of_le hb hB
  exact ⟨b,off,u0,u1,u2,u3,u4,u5,e,hb,(k.cells _ _ hb').trans c0,(k.cells _ _ hb').trans c1,(k.cells _ _ hb').trans c2,(k.cells _ _ hb').trans c3,(k.cells _ _ hb').trans c4,(k.cells _ _ hb').trans c5,ht.low (k.below hB)⟩
 ·obtain ⟨b,off,e,hb,c⟩:=h.name j s hs
  exact ⟨b,off,e,hb,(k.cells _ _ (Nat.lt_of_lt_of_le hb hB)).trans c⟩
 ·obtain ⟨b,off,e,hb,c⟩:=h.mark j m hm
  exact ⟨b,off,e,hb,(k.cells _ _ (Nat.lt_of_lt_of_le hb hB)).trans c⟩
theorem Ty.wide_part {k n : Int} {nm : ByteArray} {ps : List Ty} {ns : List ByteArray} {ms : List Bool} {p : Ty} (h : p ∈ ps) : p.wide ≤ (Ty.mk k n nm ps ns ms).wide:=by
 rw [Ty.wide_mk]
 have : ∀ l : List Ty,p ∈ l → p.wide ≤ jaF (l.map Ty.wide):=by
  intro l
  induction l with
  | nil => intro h;cases h
  | cons x r ih =>
    intro h
    rw [List.map_cons,jax]
    rcases List.mem_cons.1 h with rfl | h
    ·omega
    ·have:=ih h;omega
 have:=this ps h
 omega
abbrev jly : Array Value := #[.string ⟨#[]⟩, .string ⟨#[97,110,121]⟩, .string ⟨#[117,110,107,110,111,119,110]⟩, .string ⟨#[110,101,118,101,114]⟩, .string ⟨#[118,111,105,100]⟩, .string ⟨#[117,110,100,101,102,105,110,101,100]⟩, .string ⟨#[110,117,108,108]⟩, .string ⟨#[110,117,109,98,101,114]⟩, .string ⟨#[115,116,114,105,110,103]⟩, .string ⟨#[116,114,117,101]⟩, .string ⟨#[102,97,108,115,101]⟩]
theorem jk6 (w : World) : Calls Tryz.prog 85 #[] w fun e w' => ∃ b,e = .returned (.slice (some ⟨b,0,none⟩) 11 11) ∧ w'.heap[b]? = some (.cells jly 9 (0,0)) ∧ w.heap.size ≤ b ∧ Up w w':=by
 go_enter Tryz.func85,Tryz.ntmps85
 go_wp2_with fail
 go_ret
 exact ⟨w.heap.size,rfl,ja9 _ _,Nat.le_refl _,uq⟩
theorem jk7 (k : Int) (h1 : 1 ≤ k) (h2 : k ≤ 10) : jly[k.toNat]? = some (.string (jaw k)):=by
 have hk : k = 1 ∨ k = 2 ∨ k = 3 ∨ k = 4 ∨ k = 5 ∨ k = 6 ∨ k = 7 ∨ k = 8 ∨ k = 9 ∨ k = 10:=by omega
 rcases hk with rfl | rfl | rfl | rfl | rfl | rfl | rfl | rfl | rfl | rfl <;> rfl
theorem jk8 (k n : Int) (nm : ByteArray) (ps : List Ty) (ns : List ByteArray) (ms : List Bool) (hk : k < 11 ∨ 23 < k) : jbq (.mk k n nm ps ns ms):=by
 intro B us w h hB
 unfold jbB
 rw [jom]
 obtain ⟨pa,cap,na,ncap,ma,mcap,rfl,hs⟩:=h.see
 clear h hs
 generalize ps.length = lp
 generalize ns.length = ln
 generalize ms.length = lm
 have e11 : (k == 11) = false:=by simp;omega
 have e12 : (k == 12) = false:=by simp;omega
 have e13 : (k == 13) = false:=by simp;omega
 have e14 : (k == 14) = false:=by simp;omega
 have e15 : (k == 15) = false:=by simp;omega
 have e16 : (k == 16) = false:=by simp;omega
 have e17 : (k == 17) = false:=by simp;omega
 have e18 : (k == 18) = false:=by simp;omega
 have e19 : (k == 19) = false:=by simp;omega
 have e20 : (k == 20) = false:=by simp;omega
 have e21 : (k == 21) = false:=by simp;omega
 have e22 : (k == 22) = false:=by simp;omega
 have e23 : (k == 23) = false:=by simp;omega
 by_cases hw : 1 ≤ k ∧ k ≤ 10
 ·have HK:=Lib.hid hw
  have htx : dK k n nm (ps.map fun p => (p.kind,dt p)) ns ms = jaw k:=by
   unfold dK jap
   rw [if_pos ⟨hw.1,by omega⟩]
   iterate 13 rw [if_neg (by omega)]
  rw [htx]
  have k0 : (0 : Int) ≤ k:=by omega
  have k1 : k < 11:=by omega
  have k2 : ¬ k < 1:=by omega
  have k3 : ¬ 10 < k:=by omega
  obtain ⟨tx,htx⟩ : ∃ tx,Hid (jaw k = tx):=⟨_,rfl⟩
  rw [htx.out]
  clear hk hw
  go_enter Tryz.func42,Tryz.ntmps42
  go_wp2_with fail
  have HB:=Lib.hid (show (w.alloc (.cells #[.int .i64 k, .int .i64 n, .string nm, .slice pa lp cap, .slice na ln ncap, .slice ma lm mcap] 33)).heap[w.heap.size]? = _ from ja9 _ _)
  go_region_law (first | (go_simp;go_at_call 85;refine (jk6 _).mono ?_;rintro e w3 ⟨b,rfl,hb,hbl,hu3⟩;have y0:=(ja1 hb k.toNat).trans (jk7 k HK.out.1 HK.out.2);rw [htx.out] at y0;have yl:=ja0 hb;have s0:=(Up.trans (Up.drew (Up.refl _)) hu3).get HB.out;obtain ⟨q0,p0,q1,p1,q2,p2,q3,p3,q4,p4,q5,p5,q9⟩:=uc6 s0;clear s0))
  all_goals go_wp2_with fail
  all_goals go_ret
  all_goals exact ⟨rfl,Up.trans (show Up w _ from Up.drew (Up.alloc (Up.refl w) _)) hu3⟩
 ·have htx : dK k n nm (ps.map fun p => (p.kind,dt p)) ns ms = ⟨#[]⟩:=by unfold dK;rw [if_neg (by omega)]
  rw [htx]
  by_cases h1 : k < 1
  ·clear hk hw htx
   go_enter Tryz.func42,Tryz.ntmps42
   go_wp2_with fail
   go_ret
   exact ⟨rfl,uq⟩
  ·have h2 : 10 < k:=by omega
   clear hk hw htx
   go_enter Tryz.func42,Tryz.ntmps42
   go_wp2_with fail
   go_ret
   exact ⟨rfl,uq⟩
theorem jin (k n : Int) (nm : ByteArray) (p : Ty) (ps : List Ty) (ns : List ByteArray) (ms : List Bool) (hk : k = 13 ∨ k = 20) (hw : (Ty.mk k n nm (p :: ps) ns ms).wide ≤ 1000000000000000) (hp : jbq p) : jbq (.mk k n nm (p :: ps) ns ms):=by
 intro B us w h hB
 unfold jbB
 rw [jcg (by omega) (by omega)]
 obtain ⟨pa,cap,na,ncap,ma,mcap,rfl,hs⟩:=h.see
 have hpw : p.wide ≤ 1000000000000000:=Nat.le_trans (Ty.wide_part (List.mem_cons_self)) hw
 obtain ⟨b,off,u0,u1,u2,u3,u4,u5,hpe,hb,c0,c1,c2,c3,c4,c5,ht⟩:=hs.part 0 p rfl
 have HTX:=Lib.hid (fun W (hW : Up w W) => hp B _ W (ht.low (hW.below hB)) (Nat.le_trans hB hW.size))
 have HRD:=Lib.hid (fun W (hW : Up w W) => jg2 p hp hpw B _ W (ht.low (hW.below hB)) (Nat.le_trans hB hW.size))
 have hz:=jcH ht.nm
 have hnmz:=hs.nmz
 obtain ⟨lp,hlp⟩ : ∃ l,Hid ((p :: ps).length = l):=⟨_,rfl⟩
 have hlp1 : 0 < lp:=by have:=hlp.out;simp at this;omega
 have hlp2 : lp ≤ cap:=by have:=hs.cp;rw [hlp.out] at this;exact this
 rw [hlp.out]
 have hbl : b < w.heap.size:=Nat.lt_of_lt_of_le hb hB
 generalize ns.length = ln
 generalize ms.length = lm
 rw [Nat.zero_mul,Nat.add_zero] at c0 c1 c2 c3 c4 c5
 have C:=Lib.hid (And.intro c0 (And.intro c1 (And.intro c2 (And.intro c3 (And.intro c4 c5)))))
 clear h hs ht c0 c1 c2 c3 c4 c5 hw
 obtain ⟨tx,htx⟩ : ∃ tx,Hid (dt p = tx):=⟨_,rfl⟩
 unfold jbB at HTX
 rcases hk with rfl | rfl
 ·rw [show jap 13 n nm ((p :: ps).map fun p => (p.kind,dt p)) ns ms = jas [15,16] p.kind (dt p) ++ ⟨#[91,93]⟩ from rfl]
  obtain ⟨rx,hrx⟩ : ∃ rx,Hid (jas [15,16] p.kind (dt p) = rx):=⟨_,rfl⟩
  have hrz : rx.size ≤ 1000000000000002:=by have:=jaU [15,16] p.kind (dt p);rw [hrx.out] at this;omega
  rw [hrx.out] at HRD ⊢
  have z1 : ¬ 9223372036854775807 < rx.size + 2:=by omega
  clear hz hpw hp hnmz hrz HTX
  have HPE:=Lib.hid hpe
  clear hpe
  (go_enter Tryz.func42,Tryz.ntmps42;go_upto_region 1 with (fail);refine ja4 fun A2 W2 hA2 hW2 => ?_;have hu0 : Hid (Up w W2):=(by subst hW2;exact uq);obtain ⟨q,hq⟩ : ∃ q,Hid (w.heap.size = q):=⟨_,rfl⟩;have HQ:=Lib.hid (show W2.heap[q]? = some (.cells #[.int .i64 _, .int .i64 n, .string nm, .slice pa lp cap, .slice na ln ncap, .slice ma lm mcap] RefT (0,0)) by subst hW2;rw [← hq.out];exact jaa _ _ _ rfl);rw [hq.out] at hA2;clear hW2;subst hA2;have s0:=HQ.out;obtain ⟨q0,p0,q1,p1,q2,p2,q3,p3,q4,p4,q5,p5,q9⟩:=uc6 s0;clear s0)
  have hpe:=HPE.out
  subst hpe
  have c0:=(hu0.out.cells _ _ hbl).trans C.out.1;have c1:=(hu0.out.cells _ _ hbl).trans C.out.2.1;have c2:=(hu0.out.cells _ _ hbl).trans C.out.2.2.1;have c3:=(hu0.out.cells _ _ hbl).trans C.out.2.2.2.1;have c4:=(hu0.out.cells _ _ hbl).trans C.out.2.2.2.2.1;have c5:=(hu0.out.cells _ _ hbl).trans C.out.2.2.2.2.2
  have hbl2:=Nat.lt_of_lt_of_le hbl hu0.out.size
  go_wp2_with (first | (go_at_call 82;refine (HRD.out _ (hu0.out.trans uq)).mono ?_;rintro e w2 ⟨rfl,hu2⟩))
  all_goals go_ret
  all_goals exact ⟨rfl,hu0.out.trans hu2⟩
 ·rw [show jap 20 n nm ((p :: ps).map fun p => (p.kind,dt p)) ns ms = dt p ++ ⟨#[46]⟩ ++ nm from rfl]
  rw [htx.out] at HTX hz ⊢
  have z1 : ¬ 9223372036854775807 < tx.size + 1:=by omega
  have z2 : ¬ 9223372036854775807 < tx.size + 1 + nm.size:=by omega
  clear hz hpw hp hnmz HRD
  have HPE:=Lib.hid hpe
  clear hpe
  (go_enter Tryz.func42,Tryz.ntmps42;go_upto_region 1 with (fail);refine ja4 fun A2 W2 hA2 hW2 => ?_;have hu0 : Hid (Up w W2):=(by subst hW2;exact uq);obtain ⟨q,hq⟩ : ∃ q,Hid (w.heap.size = q):=⟨_,rfl⟩;have HQ:=Lib.hid (show W2.heap[q]? = some (.cells #[.int .i64 _, .int .i64 n, .string nm, .slice pa lp cap, .slice na ln ncap, .slice ma lm mcap] RefT (0,0)) by subst hW2;rw [← hq.out];exact jaa _ _ _ rfl);rw [hq.out] at hA2;clear hW2;subst hA2;have s0:=HQ.out;obtain ⟨q0,p0,q1,p1,q2,p2,q3,p3,q4,p4,q5,p5,q9⟩:=uc6 s0;clear s0)
  have hpe:=HPE.out
  subst hpe
  have c0:=(hu0.out.cells _ _ hbl).trans C.out.1;have c1:=(hu0.out.cells _ _ hbl).trans C.out.2.1;have c2:=(hu0.out.cells _ _ hbl).trans C.out.2.2.1;have c3:=(hu0.out.cells _ _ hbl).trans C.out.2.2.2.1;have c4:=(hu0.out.cells _ _ hbl).trans C.out.2.2.2.2.1;have c5:=(hu0.out.cells _ _ hbl).trans C.out.2.2.2.2.2
  have hbl2:=Nat.lt_of_lt_of_le hbl hu0.out.size
  go_wp2_with fail
  go_region_law (first | (go_simp;go_at_call 42;refine (HTX.out _ (hu0.out.trans (Up.drew (Up.refl _)))).mono ?_;rintro e w2 ⟨rfl,hu2⟩;have s1:=(show Up W2 w2 from uq).get HQ.out;obtain ⟨q0,p0,q1,p1,q2,p2,q3,p3,q4,p4,q5,p5,q9⟩:=uc6 s1;clear s1))
  all_goals go_wp2_with fail
  all_goals go_ret
  all_goals exact ⟨rfl,hu0.out.trans (Up.trans (Up.drew (Up.refl _)) hu2)⟩
def jcc (sep : ByteArray) (l : List ByteArray) (j : Nat) : ByteArray:=jav sep (l.take j)
theorem nilB (x : ByteArray) : (⟨#[]⟩ : ByteArray) ++ x = x:=by apply ByteArray.ext;simp [ByteArray.data_append]
theorem jfX (sep : ByteArray) (l : List ByteArray) : jcc sep l 0 = ⟨#[]⟩:=rfl
theorem jdx (sep : ByteArray) {l : List ByteArray} {x : ByteArray} (h : l[0]? = some x) : jcc sep l 1 = x:=by
 cases l with
 | nil => simp at h
 | cons y r =>
   simp only [gQz,Option.some.injEq] at h
   subst h
   unfold jcc
   rw [show (y :: r).take 1 = [] ++ [y] from rfl,jfY,if_pos rfl]
theorem jcT (sep : ByteArray) {l : List ByteArray} {j : Nat} {x : ByteArray} (h : l[j]? = some x) (h0 : 0 < j) : jcc sep l (j + 1) = jcc sep l j ++ sep ++ x:=by
 unfold jcc
 have hl:=(List.getElem?_eq_some_iff.1 h).1
 rw [List.take_add_one,h,Option.toList_some,jfY,if_neg]
 intro e
 have hq : (l.take j).length = j:=by rw [List.length_take];omega
 rw [e,List.length_nil] at hq
 omega
theorem jdy (sep : ByteArray) (l : List ByteArray) : jcc sep l l.length = jav sep l:=by unfold jcc;rw [List.take_length]
theorem jcS (sep : ByteArray) (l : List ByteArray) (j : Nat) : (jcc sep l j).size ≤ (l.map fun x => x.size + sep.size).sum:=by
 refine Nat.le_trans (jbe sep _) ?_
 conv => rhs;rw [← List.take_append_drop j l]
 rw [List.map_append,List.sum_append]
 omega
theorem jco (ps : List Ty) (h : ∀ p ∈ ps,Nm p) : jaF ((ps.map fun p => (p.kind,dt p)).map (·.2.size)) ≤ jaF (ps.map Ty.wide):=by
 rw [List.map_map]
 exact jd6 (f:=fun p => (dt p).size) (g:=Ty.wide) ps fun p hp => jcH (h p hp)
def PartsAt (B : Nat) (w : World) (ps : List Ty) (pa : Option Addr) : Prop := ∀ (j : Nat) (p : Ty),ps[j]? = some p → ∃ b off u0 u1 u2 u3 u4 u5,pa = some ⟨b,off,none⟩ ∧ b < B ∧ w.cell? ⟨b,off + j * 6,none⟩ = some u0 ∧ w.cell? ⟨b,off + j * 6 + 1,none⟩ = some u1 ∧ w.cell? ⟨b,off + j * 6 + 2,none⟩ = some u2 ∧ w.cell? ⟨b,off + j * 6 + 3,none⟩ = some u3 ∧ w.cell? ⟨b,off + j * 6 + 4,none⟩ = some u4 ∧ w.cell? ⟨b,off + j * 6 + 5,none⟩ = some u5 ∧ TIs B w [u0,u1,u2,u3,u4,u5] p
theorem Seen.parts {B : Nat} {w : World} {n : Int} {nm : ByteArray} {ps : List Ty} {ns : List ByteArray} {ms : List Bool} {pa : Option Addr} {cap : Nat} {na : Option Addr} {ncap : Nat} {ma : Option Addr} {mcap : Nat} (h : Seen B w n nm ps ns ms pa cap na ncap ma mcap) : PartsAt B w ps pa:=h.part
theorem PartsAt.later {B : Nat} {w W : World} {ps : List Ty} {pa : Option Addr} (h : PartsAt B w ps pa) (k : Up w W) (hB : B ≤ w.heap.size) : PartsAt B W ps pa:=fun j p hp => by
 obtain ⟨b,off,u0,u1,u2,u3,u4,u5,e,hb,c0,c1,c2,c3,c4,c5,ht⟩:=h j p hp
 have hb':=Nat.lt_of_lt_of_le hb hB
 exact ⟨b,off,u0,u1,u2,u3,u4,u5,e,hb,(k.cells _ _ hb').trans c0,(k.cells _ _ hb').trans c1,(k.cells _ _ hb').trans c2,(k.cells _ _ hb').trans c3,(k.cells _ _ hb').trans c4,(k.cells _ _ hb').trans c5,ht.low (k.below hB)⟩
theorem PartsAt.nm {B : Nat} {w : World} {ps : List Ty} {pa : Option Addr} (h : PartsAt B w ps pa) : ∀ p ∈ ps,Nm p:=fun p hp => by
 obtain ⟨j,hj⟩:=List.getElem?_of_mem hp
 obtain ⟨b,off,u0,u1,u2,u3,u4,u5,e,hb,c0,c1,c2,c3,c4,c5,ht⟩:=h j p hj
 exact ht.nm
theorem jlD (ps : List Ty) (hp : ∀ p ∈ ps,jbq p) (hw : jaF (ps.map Ty.wide) ≤ 1000000000000000) (hl : ps.length ≤ 2000000) (B cap : Nat) (pa : Option Addr) (w : World) (ht : PartsAt B w ps pa) (hc : ps.length ≤ cap) (hB : B ≤ w.heap.size) :
  Calls Tryz.prog 84 #[.slice pa ps.length cap] w fun e w' => e = .returned (.string (jav ⟨#[44,32]⟩ (ps.map dt))) ∧ Up w w':=by
 have HT:=Lib.hid (And.intro hp (And.intro ht hB))
 have hts : ∀ j,(jcc ⟨#[44,32]⟩ (ps.map dt) j).size ≤ 1000000000000000:=fun j => by
  have h1:=jcS ⟨#[44,32]⟩ (ps.map dt) j
  have h2:=jeU (ps.map fun p => (p.kind,dt p))
  have h3:=jco ps ht.nm
  rw [List.map_map,List.map_map] at h2
  simp only [Function.comp_def] at h2
  rw [List.map_map] at h1
  have e : (⟨#[44,32]⟩ : ByteArray).size = 2:=rfl
  rw [e] at h1
  simp only [Function.comp_def] at h1
  rw [List.map_map] at h2 h3
  simp only [Function.comp_def] at h2 h3
  omega
 have HTS:=Lib.hid hts
 have hpz : ∀ (j : Nat) (p : Ty),ps[j]? = some p → (dt p).size ≤ 1000000000000000:=fun j p hj => by
  have hm:=List.mem_of_getElem? hj
  have h1:=jcH (ht.nm p hm)
  have h2 : p.wide ≤ jaF (ps.map Ty.wide):=by
   have:=Ty.wide_part (k:=0) (n:=0) (nm:=⟨#[]⟩) (ns := []) (ms := []) hm
   have key : ∀ l : List Ty,p ∈ l → p.wide ≤ jaF (l.map Ty.wide):=by
    intro l
    induction l with
    | nil => intro h;cases h
    | cons x r ih =>
      intro h
      rw [List.map_cons,jax]
      rcases List.mem_cons.1 h with rfl | h
      ·omega
      ·have:=ih h;omega
   exact key ps hm
  omega
 have HPZ:=Lib.hid hpz
 rw [← jdy,List.length_map]
 obtain ⟨J,hJ⟩ : ∃ J : Nat → ByteArray,Hid (jcc ⟨#[44,32]⟩ (ps.map dt) = J):=⟨_,rfl⟩
 rw [hJ.out] at HTS ⊢
 have HN : Hid ((∀ p,ps[0]? = some p → J 1 = dt p) ∧ ∀ j p,ps[j]? = some p → 0 < j → J (j + 1) = J j ++ ⟨#[44,32]⟩ ++ dt p):=by
  rw [← hJ.out]
  exact ⟨fun p h => jdx _ (by rw [List.getElem?_map,h];rfl),fun j p h h0 => jcT _ (by rw [List.getElem?_map,h];rfl) h0⟩
 have HZ : Hid (J 0 = ⟨#[]⟩):=by rw [← hJ.out];exact jfX _ _
 clear hp hw ht hB hts hpz
 obtain ⟨lp,hlp⟩ : ∃ l,Hid (ps.length = l):=⟨_,rfl⟩
 rw [hlp.out] at hl hc ⊢
 go_enter Tryz.func84,Tryz.ntmps84
 go_wp2_with fail
 go_loopw [3,4] (fun s i wr => ∃ (j : Nat),j ≤ lp ∧ i = .int .i64 j ∧ s = .string (J j) ∧ Up w wr) (fun _ i _ => lp - (intOf i).toNat)
 case atStart => exact ⟨0,Nat.zero_le _,rfl,by rw [HZ.out],uq⟩
 case round =>
  obtain ⟨j,hj,rfl,rfl,hup⟩:=hrel
  by_cases hlt : j < lp
  ·have hji : (j : Int) < lp:=by omega
   obtain ⟨p,hp⟩ : ∃ p,ps[j]? = some p:=⟨_,List.getElem?_eq_getElem (by rw [hlp.out];exact hlt)⟩
   obtain ⟨b,off,u0,u1,u2,u3,u4,u5,rfl,hb,c0,c1,c2,c3,c4,c5,ht⟩:=HT.out.2.1.later hup HT.out.2.2 j p hp
   have hbl:=Nat.lt_of_lt_of_le hb (Nat.le_trans HT.out.2.2 hup.size)
   have HX:=Lib.hid (fun W (hW : Up wr W) => HT.out.1 p (List.mem_of_getElem? hp) B _ W (ht.low (hW.below (Nat.le_trans HT.out.2.2 hup.size))) (Nat.le_trans (Nat.le_trans HT.out.2.2 hup.size) hW.size))
   have hxz:=HPZ.out j p hp
   have hsz:=HTS.out j
   have hn1:=HN.out.1 p
   have hn2:=HN.out.2 j p hp
   have HPp:=Lib.hid hp
   unfold jbB at HX
   obtain ⟨tx,htx⟩ : ∃ tx,Hid (dt p = tx):=⟨_,rfl⟩
   rw [htx.out] at HX hxz hn1 hn2
   obtain ⟨s,hs⟩ : ∃ s,Hid (J j = s):=⟨_,rfl⟩
   rw [hs.out] at hsz hn2 ⊢
   have z1 : ¬ 9223372036854775807 < s.size + 2:=by omega
   have z2 : ¬ 9223372036854775807 < s.size + 2 + tx.size:=by omega
   have z3 : ¬ 9223372036854775807 < s.size + tx.size:=by omega
   have HNX:=Lib.hid (And.intro hn1 hn2)
   clear ht hp hn1 hn2 hxz hsz hlt
   by_cases h0 : j = 0
   ·subst h0
    simp only [Nat.zero_mul,Nat.add_zero] at c0 c1 c2 c3 c4 c5
    have hss : s = ⟨#[]⟩:=by rw [← hs.out,HZ.out]
    subst hss
    go_wp2_with (first | (go_at_call 42;refine (HX.out _ uq).mono ?_;rintro e w2 ⟨rfl,hu2⟩))
    all_goals exact ⟨⟨1,by omega,rfl,by rw [HNX.out.1 HPp.out,nilB],uq⟩,by simp [intOf];omega⟩
   ·have h0i : (0 : Int) < j:=by omega
    go_wp2_with (first | (go_at_call 42;refine (HX.out _ uq).mono ?_;rintro e w2 ⟨rfl,hu2⟩))
    all_goals exact ⟨⟨j + 1,by omega,by simp,by rw [HNX.out.2 (by omega)],uq⟩,by simp [intOf];omega⟩
  ·obtain rfl : j = lp:=by omega
   go_wp2_with fail
   all_goals go_ret
   all_goals exact ⟨rfl,hup⟩
end Go.Proofs.YtiaepldmgighbaaGreatDoor
