import Derived.OrdersIn
import Derived.Test.YtiaepldmgighbaaGreatDoorU17
import Derived.Test.YtiaepldmgighbaaGreatDoorU05
namespace Go.Proofs.YtiaepldmgighbaaGreatDoor
open Go.RowKit
set_option linter.unusedSimpArgs false
def jk2 (G : Pr → Que) (ys : List Told) : List Value:=ys.flatMap fun x => (QC (G x.p) (x.v G)).toList
theorem jk1 (G : Pr → Que) (ys : List Told) (x : Told) : jk2 G (ys ++ [x]) = jk2 G ys ++ (QC (G x.p) (x.v G)).toList:=by simp [jk2,List.flatMap_append]
def ySet (Y : List (Pr × Nat)) (p : Pr) (v : Nat) : List (Pr × Nat):=match Y.findIdx? (fun x => decide (x.1 = p)) with
 | some j => Y.set j (p,v)
 | none => Y ++ [(p,v)]
theorem jdJ (Y : List (Pr × Nat)) (p : Pr) (v : Nat) : ((∀ x ∈ Y,x.1 ≠ p) ∧ ySet Y p v = Y ++ [(p,v)]) ∨ ∃ j u,Y[j]? = some (p,u) ∧ ySet Y p v = Y.set j (p,v):=by
 unfold ySet
 cases hf : Y.findIdx? fun x => decide (x.1 = p) with
 | none =>
   refine .inl ⟨fun x hx => ?_,rfl⟩
   have:=List.findIdx?_eq_none_iff.1 hf x hx
   simpa using this
 | some j =>
   obtain ⟨h1,h2,_⟩:=List.findIdx?_eq_some_iff_getElem.1 hf
   refine .inr ⟨j,Y[j].2,?_,rfl⟩
   rw [List.getElem?_eq_getElem h1]
   have h2 : Y[j].1 = p:=by simpa using h2
   rw [← h2]
theorem jfw {Y : List (Pr × Nat)} {p : Pr} {v : Nat} (hn : (Y.map (·.1)).Nodup) : ((ySet Y p v).map (·.1)).Nodup:=by
 rcases jdJ Y p v with ⟨h,e⟩ | ⟨j,u,h,e⟩
 ·rw [e,List.map_append,List.nodup_append]
  refine ⟨hn,by simp,fun x hx y hy => ?_⟩
  simp at hy
  subst hy
  obtain ⟨z,hz,rfl⟩:=List.mem_map.1 hx
  exact h z hz
 ·rw [e,List.map_set]
  have : (Y.map (·.1)).set j p = Y.map (·.1):=by
   apply List.ext_getElem?
   intro i
   rw [List.getElem?_set]
   split
   ·rename_i hi
    subst hi
    rw [List.getElem?_map,h]
    have:=(List.getElem?_eq_some_iff.1 h).1
    simp [this]
   ·rfl
  rw [this]
  exact hn
theorem jl5 {Y : List (Pr × Nat)} {p q : Pr} {v : Nat} (hn : (Y.map (·.1)).Nodup) : look (ySet Y p v) q = if q = p then v else look Y q:=by
 have hn2:=jfw (p:=p) (v:=v) hn
 rcases jdJ Y p v with ⟨h,e⟩ | ⟨j,u,h,e⟩
 ·rw [e] at hn2 ⊢
  by_cases hq : q = p
  ·subst hq
   rw [if_pos rfl]
   exact jdt (j:=Y.length) (by simp) hn2
  ·rw [if_neg hq]
   unfold look
   rw [List.find?_append]
   cases Y.find? fun x => decide (x.1 = q) with
   | some y => rfl
   | none =>
     have hq2 : ¬ p = q:=fun e => hq e.symm
     simp [hq2]
 ·rw [e] at hn2 ⊢
  have hlt:=(List.getElem?_eq_some_iff.1 h).1
  by_cases hq : q = p
  ·subst hq
   rw [if_pos rfl]
   exact jdt (j:=j) (by simp [hlt]) hn2
  ·rw [if_neg hq]
   rcases jbE Y q with hm | ⟨i,x,hi⟩
   ·rw [jeT hm,jeT]
    intro x hx
    rcases List.mem_or_eq_of_mem_set hx with q1 | q1
    ·exact hm x q1
    ·subst q1;exact fun e => hq e.symm
   ·have hij : j ≠ i:=fun e => by subst e;rw [h] at hi;cases hi;exact hq rfl
    rw [jdt hi hn,jdt (j:=i) (x:=x) (by rw [List.getElem?_set_ne hij];exact hi) hn2]
theorem YMap.store {w : World} {m : Nat} {Y : List (Pr × Nat)} (h : YMap w m Y) (p : Pr) (v : Nat) : ∃ w',(Instr.mapUpdate MpT (.map (some m)) (.agg #[.int .i64 p.1, .int .i64 p.2]) (.int .i64 v)).run Tryz.prog w = .ok () w' ∧ YMap w' m (ySet Y p v) ∧ w'.heap.size = w.heap.size ∧ (∀ b,b ≠ m → w'.heap[b]? = w.heap[b]?) ∧ w'.os = w.os ∧ w'.tape = w.tape ∧ w'.output = w.output:=by
 have hlt:=h.lt
 have hn2:=jfw (p:=p) (v:=v) h.1
 obtain ⟨es,clk,q1,q2⟩:=h.2
 rcases jdJ Y p v with ⟨hm,e⟩ | ⟨j,u,hj,e⟩
 ·obtain ⟨es',clk',r1,r2⟩:=jeN (f:=numV) q1 q2 p v hm
  exact ⟨_,r1,⟨hn2,es',clk',jbL _ _ _ hlt,by rw [e];exact r2⟩,jbK _ _ _,fun b hb => jat _ _ _ _ hb,rfl,rfl,rfl⟩
 ·obtain ⟨es',clk',r1,r2⟩:=jfq (f:=numV) q1 q2 p v u j hj h.1
  exact ⟨_,r1,⟨hn2,es',clk',jbL _ _ _ hlt,by rw [e];exact r2⟩,jbK _ _ _,fun b hb => jat _ _ _ _ hb,rfl,rfl,rfl⟩
abbrev LpT : TypeId:=86
abbrev LqT : TypeId:=87
structure RV where
 f0 : Bool
 f1 : Bool
 f2 : Bool
 f3 : Bool
 f4 : Bool
 f5 : Bool
 f6 : Bool
 f7 : Bool
 f8 : Bool
 f9 : Bool
 c54 : Nat
 c58 : Nat
 a55 : Option Addr
 k55 : Nat
 a59 : Option Addr
 k59 : Nat
structure Coll (L0 n : Nat) (lv qv : Value) (fl fq : List Value) (zp zq : Array Value) (W : World) (x : RV) (w' : World) : Prop where
 os : w'.os = W.os
 tape : w'.tape = W.tape
 output : w'.output = W.output
 size : W.heap.size ≤ w'.heap.size
 old : ∀ b,b < W.heap.size → b ≠ L0 → b ≠ L0 + 1 → lv.ownBlock ≠ some b → qv.ownBlock ≠ some b → w'.heap[b]? = W.heap[b]?
 h54 : x.f2 = true → W.heap.size ≤ x.c54 ∧ w'.heap[x.c54]? = some (.cells zp jbA (0,0))
 h58 : x.f6 = true → W.heap.size ≤ x.c58 ∧ w'.heap[x.c58]? = some (.cells zq QueT (0,0))
 lb : w'.heap[L0]? = some (.cells #[if x.f8 = true then .slice x.a55 (n + 1) x.k55 else lv] LpT (0,0))
 qb : w'.heap[L0 + 1]? = some (.cells #[if x.f9 = true then .slice x.a59 (n + 1) x.k59 else qv] LqT (0,0))
 lr : x.f3 = false → w'.ownsRow 0 jbA 2 lv n fl
 lr' : x.f3 = true → w'.ownsRow 0 jbA 2 (.slice x.a55 (n + 1) x.k55) (n + 1) (fl ++ zp.toList) ∧ ((Value.slice x.a55 (n + 1) x.k55).ownBlock = lv.ownBlock ∨ ∃ g,(Value.slice x.a55 (n + 1) x.k55).ownBlock = some g ∧ W.heap.size ≤ g)
 qr : x.f7 = false → w'.ownsRow 0 QueT 5 qv n fq
 qr' : x.f7 = true → w'.ownsRow 0 QueT 5 (.slice x.a59 (n + 1) x.k59) (n + 1) (fq ++ zq.toList) ∧ ((Value.slice x.a59 (n + 1) x.k59).ownBlock = qv.ownBlock ∨ ∃ g,(Value.slice x.a59 (n + 1) x.k59).ownBlock = some g ∧ W.heap.size ≤ g)
 dep : (x.f9 = true → x.f8 = true) ∧ (x.f8 = true → x.f7 = true ∧ x.f3 = true) ∧ (x.f7 = true → x.f6 = true ∧ x.f4 = true ∧ x.f3 = true) ∧ (x.f6 = true → x.f5 = true) ∧ (x.f3 = true → x.f0 = true ∧ x.f2 = true) ∧ (x.f2 = true → x.f1 = true)
structure Sep (L0 : Nat) (lv qv : Value) (W : World) : Prop where
 l : ∀ b,lv.ownBlock = some b → b < W.heap.size ∧ b ≠ L0 ∧ b ≠ L0 + 1 ∧ qv.ownBlock ≠ some b
 q : ∀ b,qv.ownBlock = some b → b < W.heap.size ∧ b ≠ L0 ∧ b ≠ L0 + 1
 box : L0 + 1 < W.heap.size
section
variable {L0 n : Nat} {lv qv : Value} {fl fq : List Value} {zp zq : Array Value} {W w' w7 : World} {x x' : RV}
theorem Coll.up (h : Coll L0 n lv qv fl fq zp zq W x w') (u : Up w' w7) : Coll L0 n lv qv fl fq zp zq W x w7 where
 os:=u.os.trans h.os
 tape:=u.tape.trans h.tape
 output:=u.output.trans h.output
 size:=Nat.le_trans h.size u.size
 old b h1 h2 h3 h4 h5:=(u.block b (Nat.lt_of_lt_of_le h1 h.size)).trans (h.old b h1 h2 h3 h4 h5)
 h54 f:=⟨(h.h54 f).1,u.get (h.h54 f).2⟩
 h58 f:=⟨(h.h58 f).1,u.get (h.h58 f).2⟩
 lb:=u.get h.lb
 qb:=u.get h.qb
 lr f:=ja5 (h.lr f) u
 lr' f:=⟨ja5 (h.lr' f).1 u,(h.lr' f).2⟩
 qr f:=ja5 (h.qr f) u
 qr' f:=⟨ja5 (h.qr' f).1 u,(h.qr' f).2⟩
 dep:=h.dep
theorem Coll.same (h : Coll L0 n lv qv fl fq zp zq W x w') (e : x'.f2 = x.f2 ∧ x'.f3 = x.f3 ∧ x'.f6 = x.f6 ∧ x'.f7 = x.f7 ∧ x'.f8 = x.f8 ∧ x'.f9 = x.f9 ∧ x'.c54 = x.c54 ∧ x'.c58 = x.c58 ∧ x'.a55 = x.a55 ∧ x'.k55 = x.k55 ∧ x'.a59 = x.a59 ∧ x'.k59 = x.k59)
  (hd : (x.f0 = true → x'.f0 = true) ∧ (x.f1 = true → x'.f1 = true) ∧ (x.f4 = true → x'.f4 = true) ∧ (x.f5 = true → x'.f5 = true)) : Coll L0 n lv qv fl fq zp zq W x' w':=by
 obtain ⟨e2,e3,e6,e7,e8,e9,ec,ed,ea,eb,eg,eh⟩:=e
 have d:=h.dep
 exact {
  os:=h.os
  tape:=h.tape
  output:=h.output
  size:=h.size
  old:=h.old
  h54:=by rw [e2,ec];exact h.h54
  h58:=by rw [e6,ed];exact h.h58
  lb:=by rw [e8,ea,eb];exact h.lb
  qb:=by rw [e9,eg,eh];exact h.qb
  lr:=by rw [e3];exact h.lr
  lr':=by rw [e3,ea,eb];exact h.lr'
  qr:=by rw [e7];exact h.qr
  qr':=by rw [e7,eg,eh];exact h.qr'
  dep:=by
   rw [e2,e3,e6,e7,e8,e9]
   exact ⟨d.1,d.2.1,fun f => ⟨(d.2.2.1 f).1,hd.2.2.1 (d.2.2.1 f).2.1,(d.2.2.1 f).2.2⟩,fun f => hd.2.2.2 (d.2.2.2.1 f),fun f => ⟨hd.1 (d.2.2.2.2.1 f).1,(d.2.2.2.2.1 f).2⟩,fun f => hd.2.1 (d.2.2.2.2.2 f)⟩ }
theorem Coll.set {a : Nat} {v : Value} (h : Coll L0 n lv qv fl fq zp zq W x w') (s : Sep L0 lv qv W) (f3 : x.f3 = true) (f7 : x.f7 = true) (ha : a = L0 ∨ a = L0 + 1) : (w'.setCell ⟨a,0,none⟩ v).os = W.os ∧ (w'.setCell ⟨a,0,none⟩ v).tape = W.tape ∧ (w'.setCell ⟨a,0,none⟩ v).output = W.output ∧ W.heap.size ≤ (w'.setCell ⟨a,0,none⟩ v).heap.size ∧
  (∀ b,b < W.heap.size → b ≠ L0 → b ≠ L0 + 1 → lv.ownBlock ≠ some b → qv.ownBlock ≠ some b → (w'.setCell ⟨a,0,none⟩ v).heap[b]? = W.heap[b]?) ∧ (x.f2 = true → W.heap.size ≤ x.c54 ∧ (w'.setCell ⟨a,0,none⟩ v).heap[x.c54]? = some (.cells zp jbA (0,0))) ∧ (x.f6 = true → W.heap.size ≤ x.c58 ∧ (w'.setCell ⟨a,0,none⟩ v).heap[x.c58]? = some (.cells zq QueT (0,0))) ∧
  ((w'.setCell ⟨a,0,none⟩ v).ownsRow 0 jbA 2 (.slice x.a55 (n + 1) x.k55) (n + 1) (fl ++ zp.toList) ∧ ((Value.slice x.a55 (n + 1) x.k55).ownBlock = lv.ownBlock ∨ ∃ g,(Value.slice x.a55 (n + 1) x.k55).ownBlock = some g ∧ W.heap.size ≤ g)) ∧
  ((w'.setCell ⟨a,0,none⟩ v).ownsRow 0 QueT 5 (.slice x.a59 (n + 1) x.k59) (n + 1) (fq ++ zq.toList) ∧ ((Value.slice x.a59 (n + 1) x.k59).ownBlock = qv.ownBlock ∨ ∃ g,(Value.slice x.a59 (n + 1) x.k59).ownBlock = some g ∧ W.heap.size ≤ g)):=by
 have hbx:=s.box
 have ha2 : a < W.heap.size:=by rcases ha with rfl | rfl <;> omega
 refine ⟨h.os,h.tape,h.output,by rw [jam];exact h.size,fun b h1 h2 h3 h4 h5 => by rw [ja2 (by rcases ha with rfl | rfl <;> assumption)];exact h.old b h1 h2 h3 h4 h5,fun f => ⟨(h.h54 f).1,?_⟩,fun f => ⟨(h.h58 f).1,?_⟩,⟨ja8 (h.lr' f3).1 fun b hb => ja2 (fun e => ?_) _,(h.lr' f3).2⟩,⟨ja8 (h.qr' f7).1 fun b hb => ja2 (fun e => ?_) _,(h.qr' f7).2⟩⟩
 ·rw [ja2 (by have:=(h.h54 f).1;omega)]
  exact (h.h54 f).2
 ·rw [ja2 (by have:=(h.h58 f).1;omega)]
  exact (h.h58 f).2
 ·rcases (h.lr' f3).2 with q | ⟨g,q1,q2⟩
  ·have:=s.l b (by rw [← q];exact hb)
   rcases ha with rfl | rfl
   ·exact this.2.1 e
   ·exact this.2.2.1 e
  ·rw [q1] at hb;cases hb;omega
 ·rcases (h.qr' f7).2 with q | ⟨g,q1,q2⟩
  ·have:=s.q b (by rw [← q];exact hb)
   rcases ha with rfl | rfl
   ·exact this.2.1 e
   ·exact this.2.2 e
  ·rw [q1] at hb;cases hb;omega
end
end Go.Proofs.YtiaepldmgighbaaGreatDoor
