import Derived.RangeFuncWrites
import Derived.Test.YtiaepldmgighbaaGreatDoorU03
namespace Go.Proofs.YtiaepldmgighbaaGreatDoor
open Go.RowKit
set_option linter.unusedSimpArgs false
attribute [local go_sem] Oper.semAt_some
abbrev MiT : TypeId:=161
abbrev MsT : TypeId:=100
def cnt : List (Int × Nat) → Int → Nat
 | [],_ => 0
 | (a,n) :: l,k => if a = k then n else cnt l k
theorem jgy : ∀ (l : List (Int × Nat)) (k : Int),(∀ x ∈ l,x.1 ≠ k) → cnt l k = 0
 | [],_,_ => rfl
 | (a,n) :: l,k,h => by
   rw [cnt,if_neg (h (a,n) (by simp))]
   exact jgy l k fun x hx => h x (by simp [hx])
theorem jlK : ∀ (l : List (Int × Nat)) (k : Int) (j n : Nat),l[j]? = some (k,n) → (l.map (·.1)).Nodup → cnt l k = n
 | [],_,j,_,h,_ => by simp at h
 | (a,m) :: l,k,0,n,h,_ => by simp at h;rw [cnt,if_pos h.1];exact h.2
 | (a,m) :: l,k,j + 1,n,h,hn => by
   simp only [List.map_cons,List.nodup_cons] at hn
   have h : l[j]? = some (k,n):=by simpa using h
   rw [cnt,if_neg (fun e => hn.1 (by subst e;exact List.mem_map_of_mem (f:=(·.1)) (List.mem_of_getElem? h)))]
   exact jlK l k j n h hn.2
theorem jjb : ∀ (l : List (Int × Nat)) (k : Int) (n : Nat) (k' : Int),(∀ x ∈ l,x.1 ≠ k) → cnt (l ++ [(k,n)]) k' = if k' = k then n else cnt l k'
 | [],k,n,k',_ => by
   show (if k = k' then n else 0) = if k' = k then n else 0
   simp only [eq_comm]
 | (a,m) :: l,k,n,k',h => by
   have ha : a ≠ k:=h (a,m) (by simp)
   show (if a = k' then m else cnt (l ++ [(k,n)]) k') = if k' = k then n else if a = k' then m else cnt l k'
   rw [jjb l k n k' fun x hx => h x (by simp [hx])]
   by_cases e : a = k'
   ·subst e;rw [if_pos rfl,if_neg ha,if_pos rfl]
   ·rw [if_neg e,if_neg e]
theorem jlJ : ∀ (l : List (Int × Nat)) (k : Int) (n m : Nat) (j : Nat) (k' : Int),l[j]? = some (k,m) → (l.map (·.1)).Nodup → cnt (l.set j (k,n)) k' = if k' = k then n else cnt l k'
 | [],_,_,_,j,_,h,_ => by simp at h
 | (a,b) :: l,k,n,m,0,k',h,_ => by
   simp at h
   obtain ⟨rfl,rfl⟩:=h
   show (if a = k' then n else cnt l k') = if k' = a then n else if a = k' then b else cnt l k'
   by_cases e : a = k'
   ·subst e;simp
   ·rw [if_neg e,if_neg (fun x => e x.symm),if_neg e]
 | (a,b) :: l,k,n,m,j + 1,k',h,hn => by
   simp only [List.map_cons,List.nodup_cons] at hn
   have h : l[j]? = some (k,m):=by simpa using h
   have ha : a ≠ k:=fun e => hn.1 (by subst e;exact List.mem_map_of_mem (f:=(·.1)) (List.mem_of_getElem? h))
   show (if a = k' then b else cnt (l.set j (k,n)) k') = if k' = k then n else if a = k' then b else cnt l k'
   rw [jlJ l k n m j k' h hn.2]
   by_cases e : a = k'
   ·subst e;rw [if_pos rfl,if_neg ha,if_pos rfl]
   ·rw [if_neg e,if_neg e]
def CMap (w : World) (m : Nat) (f : Int → Nat) : Prop := ∃ es clk cs,w.heap[m]? = some (.map es clk) ∧ Entries es (Value.int .i64) numV cs ∧ (cs.map (·.1)).Nodup ∧ ∀ k,cnt cs k = f k
theorem CMap.keep {w w' : World} {m : Nat} {f : Int → Nat} (h : CMap w m f) (k : w'.heap[m]? = w.heap[m]?) : CMap w' m f:=let ⟨es,clk,cs,h1,h2⟩:=h; ⟨es,clk,cs,by rw [k];exact h1,h2⟩
theorem CMap.up {w w' : World} {m : Nat} {f : Int → Nat} (h : CMap w m f) (k : Up w w') : CMap w' m f:=let ⟨es,clk,cs,h1,h2⟩:=h; ⟨es,clk,cs,k.get h1,h2⟩
theorem CMap.lt {w : World} {m : Nat} {f : Int → Nat} (h : CMap w m f) : m < w.heap.size:=let ⟨_,_,_,h1,_⟩:=h;ja0 h1
theorem CMap.look {w : World} {m : Nat} {f : Int → Nat} (h : CMap w m f) (k : Int) : (Instr.lookup MiT (.map (some m)) (.int .i64 k) false).run Tryz.prog w = .ok (.int .i64 (f k)) w:=by
 obtain ⟨es,clk,cs,h1,h2,h3,h4⟩:=h
 rw [← h4 k]
 rcases jbE cs k with hm | ⟨j,n,hj⟩
 ·rw [jgy cs k hm]
  exact (jbk (f:=numV) Tryz.underlying161 Tryz.underlying3 (jd9 .i64) (show (zeroValue 3).run Tryz.prog w = .ok (.int .i64 0) w by kernel_rfl) h1 h2 k hm).2
 ·rw [jlK cs k j n hj h3]
  exact (jaG (f:=numV) Tryz.underlying161 Tryz.underlying3 (jd9 .i64) h1 h2 k n j hj h3).2
theorem CMap.bump {w : World} {m : Nat} {f : Int → Nat} (h : CMap w m f) (k : Int) : ∃ es' clk',(Instr.mapUpdate MiT (.map (some m)) (.int .i64 k) (.int .i64 ((f k : Int) + 1))).run Tryz.prog w = .ok () (putB w m (.map es' clk')) ∧ ∀ W,W.heap[m]? = some (.map es' clk') → CMap W m (fun k' => if k' = k then f k + 1 else f k'):=by
 obtain ⟨es,clk,cs,h1,h2,h3,h4⟩:=h
 rcases jbE cs k with hm | ⟨j,n,hj⟩
 ·have e0 : f k = 0:=by rw [← h4 k,jgy cs k hm]
  obtain ⟨es',clk',hr,hE⟩:=jaP (f:=numV) Tryz.underlying161 Tryz.underlying3 (jd9 .i64) h1 h2 k (f k + 1) hm
  refine ⟨es',clk',hr,fun W hW => ⟨es',clk',_,hW,hE,?_,fun k' => ?_⟩⟩
  ·rw [List.map_append,List.nodup_append]
   refine ⟨h3,by simp,?_⟩
   intro a ha b hb e
   simp at hb
   subst hb
   subst e
   obtain ⟨x,hx,hx2⟩:=List.mem_map.1 ha
   exact hm x hx hx2
  ·rw [jjb cs k _ k' hm,h4 k']
 ·obtain ⟨es',clk',hr,hE⟩:=jdk (f:=numV) Tryz.underlying161 Tryz.underlying3 (jd9 .i64) h1 h2 k (f k + 1) n j hj h3
  refine ⟨es',clk',hr,fun W hW => ⟨es',clk',_,hW,hE,?_,fun k' => ?_⟩⟩
  ·have e : (cs.set j (k,f k + 1)).map (·.1) = cs.map (·.1):=by
    apply List.ext_getElem?
    intro i
    simp only [List.getElem?_map,List.getElem?_set]
    by_cases hij : j = i
    ·subst hij
     have hl : j < cs.length:=(List.getElem?_eq_some_iff.1 hj).1
     rw [if_pos rfl,if_pos hl,hj]
     rfl
    ·simp [hij]
   rw [e]
   exact h3
  ·rw [jlJ cs k _ n j k' hj h3,h4 k']
structure UI (kd : Nat → Int) (w : World) (no : Nat → Prop) (m3 n3 m4 n4 n5 : Nat) (xs : List Nat) (W : World) : Prop where
 up : Up w W
 b3 : W.heap[n3]? = some (.cells #[.map (some m3)] MiT (0,0))
 c3 : CMap W m3 (fun k => (xs.map kd).count k)
 b4 : W.heap[n4]? = some (.cells #[.map (some m4)] MsT (0,0))
 c4 : ∃ clk,W.heap[m4]? = some (.map #[] clk)
 row : ∃ v,W.heap[n5]? = some (.cells #[v] SlT (0,0)) ∧ W.ownsRow 0 TpT 1 v xs.length (xs.map ptrV) ∧ ∀ g,v.ownBlock = some g → w.heap.size ≤ g ∧ ¬ no g
theorem UI.on {kd : Nat → Int} {w : World} {no : Nat → Prop} {m3 n3 m4 n4 n5 : Nat} {xs : List Nat} {W W' : World} (h : UI kd w no m3 n3 m4 n4 n5 xs W) (k : Up W W') : UI kd w no m3 n3 m4 n4 n5 xs W' where
 up:=h.up.trans k
 b3:=k.get h.b3
 c3:=h.c3.up k
 b4:=k.get h.b4
 c4:=h.c4.imp fun _ q => k.get q
 row:=h.row.imp fun _ ⟨q1,q2,q3⟩ => ⟨k.get q1,ja5 q2 k,q3⟩
theorem UI.own (kd : Nat → Int) (w : World) (no : Nat → Prop) (m3 n3 m4 n4 n5 B : Nat) (hB : w.heap.size ≤ B) (h3 : m3 < B) (h4 : m4 < B) (done : List Nat) : OwnFrom B (fun (pre : List Nat) W => UI kd w no m3 n3 m4 n4 n5 (done ++ pre) W):=by
 intro s W W' row h hg hr
 refine ⟨h.up.grown hg (fun r e => Nat.le_trans hB (hr r e).1),jaI h.b3 hg hr,h.c3.keep ?_,jaI h.b4 hg hr,h.c4.imp fun _ q => ?_,?_⟩
 ·exact hg.block m3 h.c3.lt fun e => by have:=(hr m3 e.symm).1;omega
 ·rw [hg.block m4 (ja0 q) fun e => by have:=(hr m4 e.symm).1;omega];exact q
 ·obtain ⟨v,q1,q2,q3⟩:=h.row
  refine ⟨v,jaI q1 hg hr,ja8 q2 fun g hg' => ?_,q3⟩
  refine hg.block g (q2.lt g hg').2 fun e => ?_
  obtain ⟨_,o,ho,hoc⟩:=hr g e.symm
  rcases q2.2 with ⟨hv,_⟩ | ⟨g',cap,cur,hv,_,hc,_⟩
  ·rw [hv] at hg'; cases hg'
  ·rw [hv] at hg'; cases hg'; rw [hc] at ho;cases ho;cases hoc
theorem UI.weaken {kd : Nat → Int} {w : World} {no no' : Nat → Prop} {m3 n3 m4 n4 n5 : Nat} {xs : List Nat} {W : World} (h : UI kd w no m3 n3 m4 n4 n5 xs W) (k : ∀ g,w.heap.size ≤ g → g < W.heap.size → no' g → no g) : UI kd w no' m3 n3 m4 n4 n5 xs W where
 up:=h.up
 b3:=h.b3
 c3:=h.c3
 b4:=h.b4
 c4:=h.c4
 row:=h.row.imp fun _ ⟨q1,q2,q3⟩ => ⟨q1,q2,fun g hg => ⟨(q3 g hg).1,fun e => (q3 g hg).2 (k g (q3 g hg).1 (q2.lt g hg).2 e)⟩⟩
def jnl (D : Nat) : Deferred:={ target := .collected D,args := #[] }
structure Marks (B : Nat) (Ds : List Nat) (W : World) : Prop where
 nodup : Ds.Nodup
 at_ : ∀ D ∈ Ds,B ≤ D ∧ W.heap[D]? = some (.deferred (some []))
theorem Marks.none (B : Nat) (W : World) : Marks B [] W:=⟨List.nodup_nil,fun D h => by cases h⟩
theorem Marks.up {B : Nat} {Ds : List Nat} {W W' : World} (h : Marks B Ds W) (k : Up W W') : Marks B Ds W':=⟨h.nodup,fun D hD => ⟨(h.at_ D hD).1,k.get (h.at_ D hD).2⟩⟩
theorem Marks.own {B : Nat} (B' : Nat) (Ds : List Nat) (hB : ∀ D ∈ Ds,D < B') : OwnFrom B' (fun (_ : List Nat) W => Marks B Ds W):=by
 intro s W W' row h hg hr
 refine ⟨h.nodup,fun D hD => ⟨(h.at_ D hD).1,?_⟩⟩
 rw [hg.block D (ja0 (h.at_ D hD).2) fun e => by have:=(hr D e.symm).1;have:=hB D hD;omega]
 exact (h.at_ D hD).2
theorem Marks.cons {B D : Nat} {Ds : List Nat} {W : World} (h : Marks B Ds W) (hD : W.heap[D]? = some (.deferred (some []))) (hB : B ≤ D) (hn : D ∉ Ds) : Marks B (D :: Ds) W:=⟨List.nodup_cons.2 ⟨hn,h.nodup⟩,fun X hX => by
 rcases List.mem_cons.1 hX with rfl | hX
 ·exact ⟨hB,hD⟩
 ·exact h.at_ X hX⟩
structure Taken (B : Nat) (W W' : World) : Prop where
 low : Below B W W'
 cells : ∀ (x : Nat) (cs : Array Value) (t : TypeId) (f : Nat × Nat),W.heap[x]? = some (.cells cs t f) → W'.heap[x]? = some (.cells cs t f)
theorem Taken.refl (B : Nat) (W : World) : Taken B W W:=⟨Below.refl _ _,fun _ _ _ _ h => h⟩
theorem jaX {F : Fence} {n : Nat} {P : Program} {fn : Func} {tmps : Array Value} {R : Ending → World → Prop} (B : Nat) : ∀ (Ds : List Nat) (W : World),Marks B Ds W → (∀ W',Taken B W W' → LeavesIn F n P fn tmps R [] .returning W') → LeavesInM F n P fn tmps R (Ds.map jnl) .returning W
 | [],W,_,h => h W (Taken.refl _ _)
 | D :: Ds,W,hm,h => by
   have hn:=(List.nodup_cons.1 hm.nodup).1
   have hD:=hm.at_ D (by simp)
   refine ⟨by simp, .inl ⟨_,_,rfl,run_takeDeferred hD.2,?_⟩⟩
   refine jaX B Ds _ ⟨(List.nodup_cons.1 hm.nodup).2,fun X hX => ?_⟩ fun W' hW' => h W' ?_
   ·obtain ⟨h1,h2⟩:=hm.at_ X (by simp [hX])
    exact ⟨h1,by rw [World.putObj_heap_other (fun e => hn (by subst e;exact hX))];exact h2⟩
   ·refine ⟨Below.trans (show Below B W (W.putObj D (.deferred none)) from ⟨rfl,rfl,rfl,by simp,fun i hi => World.putObj_heap_other (fun e => by have:=hD.1;omega)⟩) hW'.low,fun x cs t f hx => hW'.cells x cs t f ?_⟩
    rw [World.putObj_heap_other (fun e => by subst e;rw [hD.2] at hx;cases hx)]
    exact hx
theorem jaB {F : Fence} {nF : Nat} {P : Program} {W : World} {cs : Array Value} {te : TypeId} {ops : Array Oper} {rest : List Oper} {o : Oper} {a : Act} {Q : Exit → Act → World → Prop} (hgd : o.guard = none) (s x : Operand) (t : TypeId)
  (ho : o.op = .call { callee := .builtin .append,args := #[s,x],argTypes := #[t,t] })
  (e : TypeId) (i : TypeInfo) (z : Value) (size bytes : Nat) (ht : P.underlying t = some (.slice e)) (hi : P.info? e = some i) (hz : i.zero = some z)
  (hsize : i.size = size) (hby : i.bytes = bytes) (hzs : z.cells.size = size) (hsz : 0 < size)
  (v : Value) (n : Nat) (xs : List Value) (hs : a.eval s = v) (hown : (W.alloc (.cells cs te)).ownsRow 0 e size v n xs)
  (b m c : Nat) (hx : a.eval x = .slice (some ⟨b,0,none⟩) m c) (hb : b = W.heap.size) (hl : cs.size = m * size) (h1 : ∀ u ∈ cs.toList,u.oneCell' = true)
  (h63 : n + m ≤ maxLen) (hbytes : (n + m) * bytes ≤ 140737488355328)
  (h : ∀ sa cap w',w'.ownsRow 0 e size (.slice sa (n + m) cap) (n + m) (xs ++ cs.toList) → (W.alloc (.cells cs te)).grownBy w' v.ownBlock →
   ((Value.slice sa (n + m) cap).ownBlock = v.ownBlock ∨ ∃ g,(Value.slice sa (n + m) cap).ownBlock = some g ∧ W.heap.size + 1 ≤ g) → wpListIn F nF P ops Q rest (a.put o.dst (.slice sa (n + m) cap)) w') : wpListIn F nF P ops Q (o :: rest) a (W.alloc (.cells cs te)):=by
 refine wpListIn_plain hgd fun K hK => ?_
 obtain ⟨sa,cap,w',hr,h2,h3,h4⟩:=jd4 (P:=P) (w:=W.alloc (.cells cs te)) t o.type e i z size bytes ht hi hz hsize hby hzs hsz v n xs hown ⟨b,0,none⟩ m c cs.toList (by rw [Array.length_toList];exact hl) (jfg W cs te b hb) h1 h63 hbytes
 unfold Oper.wpIn
 refine ⟨by simp [Oper.about,ho,resolve,Target.leads,Sem.run_pure],?_⟩
 rw [Oper.semAt_plain F _ _ (by rw [ho];intro c hc'; cases hc')]
 simp [execOp,ho,resolve,invoke,builtin,hs,hx,hr,Result.andThen]
 exact hK _ _ (h sa cap w' h2 h3 (by simpa only [gQw] using h4))
theorem jlW {F : Fence} {n : Nat} {P : Program} {c : Code} {Q : Exit → Act → World → Prop} {a : Act} {w : World} (X : Act) (W : World) (h : c.wpIn F n P (fun e a' w' => e = .normal ∧ a' = X ∧ w' = W) a w) (k : ∀ (A : Act) (W' : World),A = X → W' = W → Q .normal A W') : c.wpIn F n P Q a w :=
 wpIn_mono h fun _ _ _ ⟨h1,h2,h3⟩ => by subst h1;exact k _ _ h2 h3
end Go.Proofs.YtiaepldmgighbaaGreatDoor
