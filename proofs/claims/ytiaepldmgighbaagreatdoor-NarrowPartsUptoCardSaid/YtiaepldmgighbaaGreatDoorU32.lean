import Derived.Test.YtiaepldmgighbaaGreatDoorU31
import Derived.Test.YtiaepldmgighbaaGreatDoorU15
import Derived.Test.YtiaepldmgighbaaGreatDoorU26
namespace Go.Proofs.YtiaepldmgighbaaGreatDoor
open Go.RowKit
set_option linter.unusedSimpArgs false
theorem Memo.cell1 {S : Nat → Prop} {B : Nat} {w : World} {g i : Nat} {cs : Array Value} {T : TypeId} {f : Nat × Nat} (h : w.heap[g]? = some (.cells cs T f)) (hT : T ≠ TyT) (hs : S g) (hB : B ≤ g) (v : Value) : Memo S B w (w.setCell ⟨g,i,none⟩ v) where
 os:=rfl
 tape:=rfl
 output:=rfl
 size:=by rw [jam];exact Nat.le_refl _
 obj b o h1 _ h3:=by rw [ja2 (fun e => h3 (by rw [e];exact hs))];exact h1
 low b h1 _:=ja2 (by omega) _
 ty N b t hN ht:=ht.keep (fun g' cs' T f' _ hn q => by
   rw [ja2 (fun e => hN g' hn (by rw [e];exact hs))]
   exact q) (fun b' t' k n nm pv nv mv sz said _ q => ⟨said,by rw [ja2 (jb1 q h (fun e => hT e.symm))];exact q, .inl rfl⟩)
 fld x cs' f' q:=⟨cs',by rw [ja2 (jb1 q h (fun e => hT e.symm))];exact q,fun _ _ => rfl⟩
theorem Memo.grownObj {S : Nat → Prop} {B : Nat} {w w' : World} {row : Option Nat} (hg : w.grownBy w' row) (hr : ∀ r,row = some r → S r ∧ B ≤ r ∧ ∃ o : Obj,w.heap[r]? = some o ∧ o.isCells = false) : Memo S B w w' where
 os:=hg.os
 tape:=hg.tape
 output:=hg.output
 size:=hg.size
 obj b o h1 _ h3:=jan hg h1 (fun e => h3 (hr b e).1)
 low b h1 h2:=hg.block b h2 (fun e => by have:=(hr b e.symm).2.1;omega)
 ty N b t hN ht:=ht.keep (fun g' cs' T f' _ hn q => jan hg q (fun e => hN g' hn (hr g' e).1)) (fun b' t' k n nm pv nv mv sz said _ q => ⟨said,jan hg q (fun e => by
  obtain ⟨_,_,o,h1,h2⟩:=hr b' e
  rw [q] at h1;cases h1;cases h2), .inl rfl⟩)
 fld x cs' f' q:=⟨cs',jan hg q (fun e => by
  obtain ⟨_,_,o,h1,h2⟩:=hr x e
  rw [q] at h1;cases h1;cases h2),fun _ _ => rfl⟩
def kdC (tr : Nat → Ty) (xs : List Nat) : Int → Nat:=fun k => (xs.map fun x => (tr x).kind).count k
def enC (tr : Nat → Ty) (xs : List Nat) : ByteArray → Nat:=fun s => ((xs.filter fun x => decide ((tr x).kind = 19)).map fun x => tb (tr x).text).count (tb s)
structure UJ (tr : Nat → Ty) (B : Nat) (w : World) (no : Nat → Prop) (m3 n3 m4 n4 n5 : Nat) (kc ec xs : List Nat) (W : World) : Prop where
 memo : Memo jag B w W
 b3 : W.heap[n3]? = some (.cells #[.map (some m3)] MiT (0,0))
 c3 : CMap W m3 (kdC tr kc)
 b4 : W.heap[n4]? = some (.cells #[.map (some m4)] MsT (0,0))
 c4 : SMap W m4 (enC tr ec)
 row : ∃ v,W.heap[n5]? = some (.cells #[v] SlT (0,0)) ∧ W.ownsRow 0 TpT 1 v xs.length (xs.map ptrV) ∧ ∀ g,v.ownBlock = some g → w.heap.size ≤ g ∧ ¬ no g
structure UL (w : World) (m3 n3 m4 n4 n5 : Nat) : Prop where
 l3 : w.heap.size ≤ m3
 l4 : w.heap.size ≤ m4
 l5 : w.heap.size ≤ n5
 d34 : m3 ≠ m4
structure UF (S : Nat → Prop) (W W' : World) : Prop where
 size : W.heap.size ≤ W'.heap.size
 obj : ∀ (b : Nat) (o : Obj),W.heap[b]? = some o → (∀ (cs : Array Value) (f : Nat × Nat),o ≠ .cells cs TyT f) → ¬ S b → W'.heap[b]? = some o
theorem UF.trans {S : Nat → Prop} {a b c : World} (h : UF S a b) (k : UF S b c) : UF S a c:=⟨Nat.le_trans h.size k.size,fun x o h1 h2 h3 => k.obj x o (h.obj x o h1 h2 h3) h2 h3⟩
theorem UF.refl (S : Nat → Prop) (a : World) : UF S a a:=⟨Nat.le_refl _,fun _ _ h _ _ => h⟩
theorem Memo.uf {S : Nat → Prop} {B : Nat} {a b : World} (h : Memo S B a b) : UF S a b:=⟨h.size,h.obj⟩
theorem UF.mono {S T : Nat → Prop} {a b : World} (h : UF S a b) (hs : ∀ x,S x → T x) : UF T a b:=⟨h.size,fun x o h1 h2 h3 => h.obj x o h1 h2 fun q => h3 (hs _ q)⟩
section
variable {tr : Nat → Ty} {B : Nat} {w : World} {no : Nat → Prop} {m3 n3 m4 n4 n5 : Nat} {kc ec xs : List Nat} {W : World}
theorem UJ.on (h : UJ tr B w no m3 n3 m4 n4 n5 kc ec xs W) {W' : World} (k : Memo jag B W W') : UJ tr B w no m3 n3 m4 n4 n5 kc ec xs W' where
 memo:=h.memo.trans k
 b3:=k.cells h.b3 (by decide) (fun e => e)
 c3:=h.c3.memo k
 b4:=k.cells h.b4 (by decide) (fun e => e)
 c4:=h.c4.memo k
 row:=h.row.imp fun _ ⟨q1,q2,q3⟩ => ⟨k.cells q1 (by decide) (fun e => e),jaD q2 (by decide) k,q3⟩
theorem UJ.weaken (h : UJ tr B w no m3 n3 m4 n4 n5 kc ec xs W) {no' : Nat → Prop} (k : ∀ g,w.heap.size ≤ g → g < W.heap.size → no' g → no g) : UJ tr B w no' m3 n3 m4 n4 n5 kc ec xs W :=
 { h with row:=h.row.imp fun _ ⟨q1,q2,q3⟩ => ⟨q1,q2,fun g hg => ⟨(q3 g hg).1,fun e => (q3 g hg).2 (k g (q3 g hg).1 (q2.lt g hg).2 e)⟩⟩ }
theorem UJ.grownObj (h : UJ tr B w no m3 n3 m4 n4 n5 kc ec xs W) (hB : B ≤ w.heap.size) {B' : Nat} (hB' : w.heap.size ≤ B') (h3 : m3 < B') (h4 : m4 < B') {W' : World} {row : Option Nat} (hg : W.grownBy W' row) (hr : ∀ r,row = some r → B' ≤ r ∧ ∃ o : Obj,W.heap[r]? = some o ∧ o.isCells = false) : UJ tr B w no m3 n3 m4 n4 n5 kc ec xs W' where
 memo:=((h.memo.mono fun _ e => e.elim).trans (Memo.grownObj (S:=fun x => w.heap.size ≤ x) hg fun r e => ⟨Nat.le_trans hB' (hr r e).1,Nat.le_trans hB (Nat.le_trans hB' (hr r e).1),(hr r e).2⟩)).fresh fun _ e => e
 b3:=jaI h.b3 hg hr
 c3:=h.c3.keep (hg.block m3 h.c3.lt fun e => by have:=(hr m3 e.symm).1;omega)
 b4:=jaI h.b4 hg hr
 c4:=h.c4.keep (hg.block m4 h.c4.lt fun e => by have:=(hr m4 e.symm).1;omega)
 row:=by
  obtain ⟨v,q1,q2,q3⟩:=h.row
  refine ⟨v,jaI q1 hg hr,ja8 q2 fun g hg' => ?_,q3⟩
  refine hg.block g (q2.lt g hg').2 fun e => ?_
  obtain ⟨_,o,ho,hoc⟩:=hr g e.symm
  rcases q2.2 with ⟨hv,_⟩ | ⟨g',cap,cur,hv,_,hc,_⟩
  ·rw [hv] at hg'; cases hg'
  ·rw [hv] at hg'; cases hg'; rw [hc] at ho;cases ho;cases hoc
theorem jcu {v : Value} (h : W.ownsRow 0 TpT 1 v xs.length (xs.map ptrV)) : ∀ g,v.ownBlock = some g → ∃ cur,W.heap[g]? = some (.cells cur TpT (0,0)):=fun g hg => by
 rcases h.2 with ⟨hv,_⟩ | ⟨g',cap,cur,hv,_,hc,_⟩
 ·rw [hv] at hg;cases hg
 ·rw [hv] at hg;cases hg;exact ⟨cur,hc⟩
theorem CMap.obj {f : Int → Nat} (h : CMap W m3 f) : ∃ es clk,W.heap[m3]? = some (.map es clk):=let ⟨es,clk,_,h1,_⟩:=h; ⟨es,clk,h1⟩
theorem SMap.obj {f : ByteArray → Nat} (h : SMap W m4 f) : ∃ es clk,W.heap[m4]? = some (.map es clk):=let ⟨es,clk,_,h1,_⟩:=h; ⟨es,clk,h1⟩
theorem jmC (tr : Nat → Ty) (kc : List Nat) (y : Nat) : kdC tr (kc ++ [y]) = fun k => if k = (tr y).kind then kdC tr kc (tr y).kind + 1 else kdC tr kc k:=by
 funext k
 unfold kdC
 rw [List.map_append,List.count_append]
 simp only [List.map_cons,List.map_nil,List.count_cons,List.count_nil]
 by_cases e : k = (tr y).kind
 ·subst e;simp
 ·rw [if_neg e,if_neg (by simpa using fun x => e x.symm)];simp
theorem jmO (tr : Nat → Ty) (ec : List Nat) (y : Nat) (hk : (tr y).kind = 19) : enC tr (ec ++ [y]) = fun s => if s = (tr y).text then enC tr ec (tr y).text + 1 else enC tr ec s:=by
 funext s
 unfold enC
 rw [List.filter_append,List.map_append,List.count_append]
 have e1 : ([y] : List Nat).filter (fun x => decide ((tr x).kind = 19)) = [y]:=by simp [hk]
 rw [e1]
 simp only [List.map_cons,List.map_nil,List.count_cons,List.count_nil]
 by_cases e : s = (tr y).text
 ·subst e;simp
 ·rw [if_neg e,if_neg (by simpa using fun x : tb (tr y).text = tb s => e (jgS x).symm)];simp
theorem jmP (tr : Nat → Ty) (ec : List Nat) (y : Nat) (hk : (tr y).kind ≠ 19) : enC tr (ec ++ [y]) = enC tr ec:=by
 funext s
 unfold enC
 rw [List.filter_append]
 have e1 : ([y] : List Nat).filter (fun x => decide ((tr x).kind = 19)) = []:=by simp [hk]
 rw [e1,List.append_nil]
theorem UJ.kind (h : UJ tr B w no m3 n3 m4 n4 n5 kc ec xs W) (hB : B ≤ w.heap.size) (hL : UL w m3 n3 m4 n4 n5) (y : Nat) {es' : Array MapEntry} {clk' : Nat} (hc : ∀ X : World,X.heap[m3]? = some (.map es' clk') → CMap X m3 (fun k' => if k' = (tr y).kind then kdC tr kc (tr y).kind + 1 else kdC tr kc k')) :
  UJ tr B w no m3 n3 m4 n4 n5 (kc ++ [y]) ec xs (putB W m3 (.map es' clk')) ∧ Memo (fun x => x = m3) B W (putB W m3 (.map es' clk')):=by
 obtain ⟨es,clk,hm⟩:=h.c3.obj
 have hlt:=ja0 hm
 have hM : Memo (fun x => x = m3) B W (putB W m3 (.map es' clk')):=Memo.putB hm rfl (Nat.le_trans hB hL.l3)
 obtain ⟨es4,clk4,hm4⟩:=h.c4.obj
 refine ⟨⟨((h.memo.mono fun _ e => e.elim).trans (hM.mono (T:=fun x => w.heap.size ≤ x) fun x e => by rw [e];exact hL.l3)).fresh fun _ e => e,hM.cells h.b3 (by decide) (fun e => ?_),?_,hM.cells h.b4 (by decide) (fun e => ?_),h.c4.keep (jat _ _ _ _ (fun e => hL.d34 e.symm)),?_⟩,hM⟩
 ·have q:=h.b3
  rw [e,hm] at q;cases q
 ·rw [jmC]
  exact hc _ (jbL _ _ _ hlt)
 ·have q:=h.b4
  rw [e,hm] at q;cases q
 ·obtain ⟨v,q1,q2,q3⟩:=h.row
  refine ⟨v,hM.cells q1 (by decide) (fun e => ?_),ja8 q2 fun g hg => jat _ _ _ _ (fun e => ?_),q3⟩
  ·rw [e,hm] at q1;cases q1
  ·obtain ⟨cur,hc⟩:=jcu q2 g hg
   rw [e,hm] at hc;cases hc
theorem UJ.enum (h : UJ tr B w no m3 n3 m4 n4 n5 kc ec xs W) (hB : B ≤ w.heap.size) (hL : UL w m3 n3 m4 n4 n5) (y : Nat) (hk : (tr y).kind = 19) {es' : Array MapEntry} {clk' : Nat} (hc : ∀ X : World,X.heap[m4]? = some (.map es' clk') → SMap X m4 (fun s => if s = (tr y).text then enC tr ec (tr y).text + 1 else enC tr ec s)) :
  UJ tr B w no m3 n3 m4 n4 n5 kc (ec ++ [y]) xs (putB W m4 (.map es' clk')) ∧ Memo (fun x => x = m4) B W (putB W m4 (.map es' clk')):=by
 obtain ⟨es,clk,hm⟩:=h.c4.obj
 have hlt:=ja0 hm
 have hM : Memo (fun x => x = m4) B W (putB W m4 (.map es' clk')):=Memo.putB hm rfl (Nat.le_trans hB hL.l4)
 refine ⟨⟨((h.memo.mono fun _ e => e.elim).trans (hM.mono (T:=fun x => w.heap.size ≤ x) fun x e => by rw [e];exact hL.l4)).fresh fun _ e => e,hM.cells h.b3 (by decide) (fun e => ?_),h.c3.keep (jat _ _ _ _ hL.d34),hM.cells h.b4 (by decide) (fun e => ?_),?_,?_⟩,hM⟩
 ·have q:=h.b3
  rw [e,hm] at q;cases q
 ·have q:=h.b4
  rw [e,hm] at q;cases q
 ·rw [jmO tr ec y hk]
  exact hc _ (jbL _ _ _ hlt)
 ·obtain ⟨v,q1,q2,q3⟩:=h.row
  refine ⟨v,hM.cells q1 (by decide) (fun e => ?_),ja8 q2 fun g hg => jat _ _ _ _ (fun e => ?_),q3⟩
  ·rw [e,hm] at q1;cases q1
  ·obtain ⟨cur,hc⟩:=jcu q2 g hg
   rw [e,hm] at hc;cases hc
theorem UJ.push (h : UJ tr B w no m3 n3 m4 n4 n5 kc ec xs W) (hB : B ≤ w.heap.size) (hL : UL w m3 n3 m4 n4 n5) (hno : ∀ g,W.heap.size ≤ g → ¬ no g) {y n vcap cap' : Nat} {va sa' : Option Addr} {w7 : World} (hv : W.heap[n5]? = some (.cells #[.slice va n vcap] SlT (0,0))) (hn : n = xs.length)
  (hown' : w7.ownsRow 0 TpT 1 (.slice sa' (n + 1) cap') (n + 1) (xs.map ptrV ++ [.pointer (some ⟨y,0,none⟩)])) (hgrow : (W.alloc (.cells #[.pointer (some ⟨y,0,none⟩)] TpT)).grownBy w7 (Value.slice va n vcap).ownBlock)
  (hblk : (Value.slice sa' (n + 1) cap').ownBlock = (Value.slice va n vcap).ownBlock ∨ ∃ g,(Value.slice sa' (n + 1) cap').ownBlock = some g ∧ W.heap.size + 1 ≤ g) :
  UJ tr B w no m3 n3 m4 n4 n5 kc ec (xs ++ [y]) (w7.setCell ⟨n5,0,none⟩ (.slice sa' (n + 1) cap')) ∧ Memo (fun x => x = n5 ∨ (w.heap.size ≤ x ∧ ¬ no x ∧ ∃ cs f,W.heap[x]? = some (.cells cs TpT f))) B W (w7.setCell ⟨n5,0,none⟩ (.slice sa' (n + 1) cap')):=by
 obtain ⟨v,q1,q2,q3⟩:=h.row
 rw [hv] at q1
 injection q1 with q1
 injection q1 with q1 _ _
 have q1:=congrArg Array.toList q1
 simp only [List.cons.injEq,and_true] at q1
 subst q1
 have hwW:=h.memo.size
 have hrb:=jcu q2
 have hup : Up W (W.alloc (.cells #[.pointer (some ⟨y,0,none⟩)] TpT)):=(Up.refl W).alloc _
 have hM1 : Memo (fun x => x = n5 ∨ (w.heap.size ≤ x ∧ ¬ no x ∧ ∃ cs f,W.heap[x]? = some (.cells cs TpT f))) B W w7:=(Memo.of_up _ B hup).trans (Memo.grown hgrow fun r e => by
  obtain ⟨cur,hc⟩:=hrb r e
  exact ⟨.inr ⟨(q3 r e).1,(q3 r e).2,_,_,hc⟩,Nat.le_trans hB (q3 r e).1,_,_,_,hup.get hc,by decide⟩)
 have hr5 : (Value.slice va n vcap).ownBlock ≠ some n5:=fun e => by
  obtain ⟨cur,hc⟩:=hrb n5 e
  rw [hv] at hc
  injection hc with hc
  injection hc with _ hc _
  exact absurd hc (by decide)
 have h57 : w7.heap[n5]? = some (.cells #[.slice va n vcap] SlT (0,0)):=jan hgrow (hup.get hv) hr5
 have hM2 : Memo (fun x => x = n5 ∨ (w.heap.size ≤ x ∧ ¬ no x ∧ ∃ cs f,W.heap[x]? = some (.cells cs TpT f))) B W (w7.setCell ⟨n5,0,none⟩ (.slice sa' (n + 1) cap')):=hM1.trans (Memo.cell1 h57 (by decide) (.inl rfl) (Nat.le_trans hB hL.l5) _)
 obtain ⟨es3,clk3,hm3⟩:=h.c3.obj
 obtain ⟨es4,clk4,hm4⟩:=h.c4.obj
 have hout : ∀ (x : Nat) (o : Obj),W.heap[x]? = some o → (∀ cs f,o ≠ .cells cs TyT f) → (∀ cs f,o ≠ .cells cs SlT f) → (∀ cs f,o ≠ .cells cs TpT f) → (w7.setCell ⟨n5,0,none⟩ (.slice sa' (n + 1) cap')).heap[x]? = some o:=fun x o hx ho h1 h2 =>
  hM2.obj x o hx ho fun e => by
   rcases e with e | ⟨_,_,cs,f,e⟩
   ·rw [e,hv] at hx
    cases hx
    exact h1 _ _ rfl
   ·rw [hx] at e
    cases e
    exact h2 _ _ rfl
 refine ⟨⟨((h.memo.mono fun _ e => e.elim).trans (hM2.mono (T:=fun x => w.heap.size ≤ x) fun x e => by rcases e with e | e;rw [e];exact hL.l5;exact e.1)).fresh fun _ e => e,hout _ _ h.b3 (fun _ _ e => by injection e with _ e _;exact absurd e (by decide)) (fun _ _ e => by injection e with _ e _;exact absurd e (by decide)) (fun _ _ e => by injection e with _ e _;exact absurd e (by decide)),
  h.c3.keep ((hout _ _ hm3 (fun _ _ e => by cases e) (fun _ _ e => by cases e) (fun _ _ e => by cases e)).trans hm3.symm),hout _ _ h.b4 (fun _ _ e => by injection e with _ e _;exact absurd e (by decide)) (fun _ _ e => by injection e with _ e _;exact absurd e (by decide)) (fun _ _ e => by injection e with _ e _;exact absurd e (by decide)),
  h.c4.keep ((hout _ _ hm4 (fun _ _ e => by cases e) (fun _ _ e => by cases e) (fun _ _ e => by cases e)).trans hm4.symm), .slice sa' (n + 1) cap',ja6 (i:=0) h57 _,?_,fun g hg => ?_⟩,hM2⟩
 ·rw [List.length_append,List.map_append, ← hn]
  refine ja8 hown' fun g hg => ja2 (fun e => ?_) _
  subst e
  rcases hblk with q | ⟨g',q,q2'⟩
  ·rw [q] at hg;exact hr5 hg
  ·rw [q] at hg;cases hg;have:=ja0 hv;omega
 ·rcases hblk with q | ⟨g',q,q2'⟩
  ·rw [q] at hg;exact q3 g hg
  ·rw [q] at hg;cases hg;exact ⟨by omega,hno g (by omega)⟩
end
theorem jle (tr : Nat → Ty) (xs : List Nat) (k : Int) : 0 < kdC tr xs k ↔ ∃ x ∈ xs,(tr x).kind = k:=by
 unfold kdC
 rw [List.count_pos_iff,List.mem_map]
theorem joi (tr : Nat → Ty) (xs : List Nat) (s : ByteArray) : 0 < enC tr xs s ↔ ∃ x ∈ xs,(tr x).kind = 19 ∧ (tr x).text = s:=by
 unfold enC
 rw [List.count_pos_iff,List.mem_map]
 constructor
 ·rintro ⟨x,hx,e⟩
  obtain ⟨h1,h2⟩:=List.mem_filter.1 hx
  exact ⟨x,h1,by simpa using h2,jgS e⟩
 ·rintro ⟨x,hx,h1,h2⟩
  exact ⟨x,List.mem_filter.2 ⟨hx,by simpa using h1⟩,by rw [h2]⟩
theorem jmJ (tr : Nat → Ty) (xs : List Nat) (x : Nat) (hv : (tr x).Valid) : jd1 (kdC tr xs) (enC tr xs) (tr x) = jhw (xs.map fun y => (tr y).canon) (tr x).canon:=by
 have hG : jhw (xs.map fun y => (tr y).canon) (tr x).canon = true ↔ Goes (xs.map fun y => (tr y).canon) (tr x).canon:=jcE _ _
 have key : jd1 (kdC tr xs) (enC tr xs) (tr x) = true ↔ Goes (xs.map fun y => (tr y).canon) (tr x).canon:=by
  unfold jd1 Goes
  rw [Ty.canon_kind,Ty.canon_parts]
  have hmem : ∀ P : Ty → Prop,(∃ q ∈ xs.map (fun y => (tr y).canon),P q) ↔ ∃ y ∈ xs,P (tr y).canon:=fun P => by
   constructor
   ·rintro ⟨q,hq,hP⟩
    obtain ⟨y,hy,rfl⟩:=List.mem_map.1 hq
    exact ⟨y,hy,hP⟩
   ·rintro ⟨y,hy,hP⟩
    exact ⟨_,List.mem_map_of_mem (f:=fun y => (tr y).canon) hy,hP⟩
  have hk : ∀ k : Int,(∃ q ∈ xs.map (fun y => (tr y).canon),q.kind = k) ↔ 0 < kdC tr xs k:=fun k => by
   rw [jle,hmem]
   simp only [Ty.canon_kind]
  rw [hk 7,hk 8,hmem]
  simp only [Ty.canon_kind,Ty.text_canon]
  by_cases h3 : (tr x).kind = 3
  ·simp [h3]
  rw [if_neg h3]
  by_cases h11 : (tr x).kind = 11
  ·rw [if_pos h11];simp [h11]
  rw [if_neg h11]
  by_cases h12 : (tr x).kind = 12
  ·rw [if_pos h12];simp [h12]
  rw [if_neg h12]
  by_cases h20 : (tr x).kind = 20
  ·rw [if_pos h20]
   obtain ⟨n,nm,ns,ms,m,nm',hx⟩ : ∃ n nm ns ms m nm',tr x = .mk 20 n nm [.mk 19 m nm' [] [] []] ns ms:=by
    revert h20 hv
    generalize tr x = t
    intro hv
    cases hv with
    | case => intro _;exact ⟨_,_,_,_,_,_,rfl⟩
    | basic => intro h;exact absurd h (by simp only [Ty.kind];omega)
    | num => intro h;exact absurd h (by simp only [Ty.kind];omega)
    | str => intro h;exact absurd h (by simp only [Ty.kind];omega)
    | arr => intro h;exact absurd h (by simp only [Ty.kind];omega)
    | obj => intro h;exact absurd h (by simp only [Ty.kind];omega)
    | fn => intro h;exact absurd h (by simp only [Ty.kind];omega)
    | un => intro h;exact absurd h (by simp only [Ty.kind];omega)
    | ref => intro h;exact absurd h (by simp only [Ty.kind];omega)
    | named hk => intro h;exact absurd h (by simp only [Ty.kind];omega)
   rw [hx]
   simp only [Ty.parts,Ty.kind,decide_eq_true_eq,joi,List.map_cons,List.map_nil,List.mem_singleton]
   constructor
   ·rintro ⟨y,hy,h1,h2⟩
    exact .inr (.inr (.inr ⟨trivial,y,hy,h1,_,rfl,by rw [Ty.text_canon,h2]⟩))
   ·rintro (h | ⟨h,_⟩ | ⟨h,_⟩ | ⟨_,y,hy,h1,e,he,h2⟩)
    ·omega
    ·omega
    ·omega
    ·subst he
     exact ⟨y,hy,h1,by rw [h2,Ty.text_canon]⟩
  ·rw [if_neg h20];simp [h3,h11,h12,h20]
 cases h1 : jd1 (kdC tr xs) (enC tr xs) (tr x) <;> cases h2 : jhw (xs.map fun y => (tr y).canon) (tr x).canon
 ·rfl
 ·exact absurd (key.2 (hG.1 h2)) (by rw [h1];decide)
 ·exact absurd (hG.2 (key.1 h1)) (by rw [h2];decide)
 ·rfl
theorem jjr (tr : Nat → Ty) (xs zs : List Nat) (hv : ∀ x ∈ xs,(tr x).Valid ∧ (tr x).kind ≠ 16) (hz1 : zs.Pairwise fun x y => ltS (tr x).partT (tr y).partT = true) (hz2 : ∀ z ∈ zs,z ∈ xs.filter fun x => !jd1 (kdC tr xs) (enC tr xs) (tr x)) (hz3 : ∀ x ∈ xs.filter (fun x => !jd1 (kdC tr xs) (enC tr xs) (tr x)),∃ z ∈ zs,(tr z).partT = (tr x).partT) :
  jbH (jbg (xs.map fun x => (tr x).canon)) = zs.map fun z => (tr z).canon:=by
 have hF : Fl (xs.map fun x => (tr x).canon):=fun t ht => by
  obtain ⟨x,hx,rfl⟩:=List.mem_map.1 ht
  exact ⟨CV.of (hv x hx).1,by rw [Ty.canon_kind];exact (hv x hx).2⟩
 refine jbW (jaS _) ?_ fun t => ?_
 ·rw [List.pairwise_map]
  refine hz1.imp fun {a b} h => ?_
  unfold LtP
  rw [Ty.partT_canon,Ty.partT_canon]
  exact h
 ·rw [jbj _ (fun a ha b hb => hF.key a (jaf.1 ha).1 b (jaf.1 hb).1),jaf,List.mem_map,List.mem_map]
  have hgo : ∀ x ∈ xs,(jd1 (kdC tr xs) (enC tr xs) (tr x) = true ↔ Goes (xs.map fun y => (tr y).canon) (tr x).canon):=fun x hx => by
   rw [jmJ tr xs x (hv x hx).1]
   exact jcE _ _
  constructor
  ·rintro ⟨⟨x,hx,rfl⟩,hn⟩
   have hxf : x ∈ xs.filter fun x => !jd1 (kdC tr xs) (enC tr xs) (tr x):=List.mem_filter.2 ⟨hx,by
    cases hq : jd1 (kdC tr xs) (enC tr xs) (tr x) with
    | false => rfl
    | true => exact (hn ((hgo x hx).1 hq)).elim⟩
   obtain ⟨z,hz,e⟩:=hz3 x hxf
   have hzx:=(List.mem_filter.1 (hz2 z hz)).1
   exact ⟨z,hz,jiK (hv z hzx).1 (hv x hx).1 (hv z hzx).2 (hv x hx).2 e⟩
  ·rintro ⟨z,hz,rfl⟩
   obtain ⟨h1,h2⟩:=List.mem_filter.1 (hz2 z hz)
   refine ⟨⟨z,h1,rfl⟩,fun hg => ?_⟩
   rw [(hgo z h1).2 hg] at h2
   cases h2
noncomputable def trOf (N : Nat → Prop) (B : Nat) (w : World) (b : Nat) : Ty:=by
 classical exact if h : ∃ t,TyAt N B w b t then h.choose else ja3 3
theorem jnF {N : Nat → Prop} {B : Nat} {w : World} {b : Nat} {t : Ty} (h : TyAt N B w b t) : trOf N B w b = t:=by
 have hx : ∃ t,TyAt N B w b t:=⟨t,h⟩
 unfold trOf
 rw [dif_pos hx]
 exact hx.choose_spec.unique h
structure FlatIn (N : Nat → Prop) (B : Nat) (tr : Nat → Ty) (w : World) (x : Nat × List Nat) : Prop where
 ty : TyAt N B w x.1 (tr x.1)
 un : (tr x.1).kind = 16 → ∃ (g off cap : Nat) (cs : Array Value) (fz : Nat × Nat),w.cell? ⟨x.1,3,none⟩ = some (.slice (some ⟨g,off,none⟩) x.2.length cap) ∧ N g ∧ w.heap[g]? = some (.cells cs TpT fz) ∧ ∀ (j q : Nat),x.2[j]? = some q → cs[off + j]? = some (ptrV q)
 one : (tr x.1).kind ≠ 16 → x.2 = [x.1]
 flat : x.2.map tr = (tr x.1).flat
 tys : ∀ q ∈ x.2,TyAt N B w q (tr q)
theorem TyAt.blk {N : Nat → Prop} {B : Nat} {w : World} {b : Nat} {t : Ty} (h : TyAt N B w b t) : ∃ (cs : Array Value),w.heap[b]? = some (.cells cs TyT (0,0)):=by
 cases h with
 | mk said pv nv mv qs hB hh => exact ⟨_,hh⟩
theorem FlatIn.memo {N : Nat → Prop} {B : Nat} {tr : Nat → Ty} {w w' : World} {x : Nat × List Nat} (h : FlatIn N B tr w x) (k : Memo jag B w w') : FlatIn N B tr w' x where
 ty:=h.ty.memo k
 un hk:=by
  obtain ⟨g,off,cap,cs,fz,h1,h2,h3,h4⟩:=h.un hk
  obtain ⟨cb,hb⟩:=h.ty.blk
  exact ⟨g,off,cap,cs,fz,(k.cell hb (by decide)).trans h1,h2,k.cells h3 (by decide) (fun e => e),h4⟩
 one:=h.one
 flat:=h.flat
 tys q hq:=(h.tys q hq).memo k
theorem FlatIn.of {N : Nat → Prop} {B : Nat} {tr : Nat → Ty} {w : World} (htr : ∀ b t,TyAt N B w b t → tr b = t) {b : Nat} {t : Ty} (h : TyAt N B w b t) (hp : t.kind = 16 → t.parts ≠ []) : ∃ qs,FlatIn N B tr w (b,qs):=by
 have ht:=htr b t h
 by_cases hk : t.kind = 16
 ·cases t with
  | mk k n nm ps ns ms =>
    have hk : k = 16:=hk
    subst hk
    obtain ⟨pv,nv,mv,qs,V⟩:=h.view
    obtain ⟨p0,hp0⟩ : ∃ p,ps[0]? = some p:=by
     cases ps with
     | nil => exact absurd rfl (hp rfl)
     | cons p r => exact ⟨p,rfl⟩
    obtain ⟨q0,hq0⟩ : ∃ q0,qs[0]? = some q0:=⟨_,List.getElem?_eq_getElem (by have h1:=V.hl;have h2:=(List.getElem?_eq_some_iff.1 hp0).1;omega)⟩
    have hqt : ∀ (j q : Nat) (p : Ty),qs[j]? = some q → ps[j]? = some p → tr q = p:=fun j q p h1 h2 => htr q p (V.hq j q p h1 h2)
    refine ⟨qs,by rw [ht];exact h,fun _ => ?_,fun e => absurd (by rw [ht];rfl) e,?_,fun q hq => ?_⟩
    ·obtain ⟨a,cap,he,hcap,hlen,hrow⟩:=V.hp
     obtain ⟨g,off,cs,fz,e1,hN,hc,_⟩:=hrow 0 (ptrV q0) (by rw [List.getElem?_map,hq0];rfl)
     subst e1
     refine ⟨g,off,cap,cs,fz,by rw [V.c3,he,List.length_map],hN,hc,fun j q hj => ?_⟩
     obtain ⟨g2,off2,cs2,fz2,f1,_,f3,f4⟩:=hrow j (ptrV q) (by rw [List.getElem?_map,hj];rfl)
     injection f1 with f1
     injection f1 with f1 f2 _
     subst f1 f2
     rw [hc] at f3
     injection f3 with f3
     injection f3 with f3 _ _
     subst f3
     exact f4
    ·rw [ht]
     show qs.map tr = ps
     apply List.ext_getElem?
     intro j
     rw [List.getElem?_map]
     rcases Nat.lt_or_ge j qs.length with hj | hj
     ·obtain ⟨q,hq⟩ : ∃ q,qs[j]? = some q:=⟨_,List.getElem?_eq_getElem hj⟩
      obtain ⟨p,hp⟩ : ∃ p,ps[j]? = some p:=⟨_,List.getElem?_eq_getElem (by have:=V.hl;omega)⟩
      rw [hq,hp]
      exact congrArg some (hqt j q p hq hp)
     ·rw [List.getElem?_eq_none hj,List.getElem?_eq_none (by have:=V.hl;omega)]
      rfl
    ·obtain ⟨j,hj⟩:=List.getElem?_of_mem hq
     obtain ⟨p,hp⟩ : ∃ p,ps[j]? = some p:=⟨_,List.getElem?_eq_getElem (by have:=V.hl;have h9 : j < qs.length:=(List.getElem?_eq_some_iff.1 hj).1;omega)⟩
     have h1:=V.hq j q p hj hp
     rw [hqt j q p hj hp]
     exact h1
 ·refine ⟨[b],by rw [ht];exact h,fun e => absurd (by rw [← ht];exact e) hk,fun _ => rfl,?_,fun q hq => ?_⟩
  ·show [tr b] = _
   rw [ht]
   unfold Ty.flat
   rw [if_neg hk]
  ·cases List.mem_singleton.1 hq
   rw [ht]
   exact h
theorem jol (N : Nat → Prop) (B : Nat) (tr : Nat → Ty) (x : Nat × List Nat) (w : World) (h : FlatIn N B tr w x) :
  Calls Tryz.prog 91 #[.pointer (some ⟨x.1,0,none⟩)] w fun e w' => ∃ tb g,e = .returned (.func (.func jev) #[] #[.pointer (some ⟨tb,0,none⟩)]) ∧ SeqAt w' tb g x.2 ∧ w.heap.size ≤ tb ∧ (N g ∨ w.heap.size ≤ g) ∧ Up w w':=by
 obtain ⟨b,qs⟩:=x
 have HF:=Lib.hid h
 have h0:=View.size h.ty
 have a0:=h0.1
 have al:=h0.2
 obtain ⟨k,hkk⟩ : ∃ k,Hid ((tr b).kind = k):=⟨_,rfl⟩
 simp only [hkk.out] at a0
 by_cases hk : k = 16
 ·subst hk
  obtain ⟨g,off,cap,cs,fz,a3,hN,hc,hcs⟩:=h.un hkk.out
  simp only at a3
  have HC:=Lib.hid (And.intro hN (And.intro hc hcs))
  clear h h0 hN hc hcs
  go_enter Tryz.func91,Tryz.ntmps91
  go_wp2_with (first | (go_at_call 140;refine (jg6 _ _ _ _).mono ?_;rintro e w2 ⟨rfl,rfl⟩))
  go_ret
  exact ⟨w.heap.size,g,rfl,⟨off,cap,cs,fz,jaa _ _ _ (by simp),Up.get (w:=w) uq HC.out.2.1,HC.out.2.2⟩,Nat.le_refl _, .inl HC.out.1,uq⟩
 ·have hk2 : (k == 16) = false:=by simpa using hk
  have hq : qs = [b]:=h.one (by rw [hkk.out];exact hk)
  subst hq
  clear h h0 hk
  go_enter Tryz.func91,Tryz.ntmps91
  go_wp2_with (first | (go_at_call 140;refine (jg6 _ _ _ _).mono ?_;rintro e w2 ⟨rfl,rfl⟩))
  go_ret
  refine ⟨_,w.heap.size,rfl,⟨0,_,#[ptrV b],(0,0),jaa _ _ _ (by simp),(jao _ _ _ (by simp)).trans (ja9 _ _),?_⟩,by simp, .inr (Nat.le_refl _),uq⟩
  intro j x hx
  cases j with
  | zero => simp at hx;subst hx;rfl
  | succ j => simp at hx
theorem jfv (va : Option Addr) (cap : Nat) (f : Value) (w : World) :
  Calls Tryz.prog 145 #[.slice va 0 cap,f] w fun e w' => e = .returned (.int .i64 (-1)) ∧ Up w w':=by
 go_enter Tryz.func145,Tryz.ntmps145
 go_wp2_with fail
 refine wp_loop_rounds 1 ?_
 rw [rounds_succ]
 go_wp2_with fail
 refine bodyPost_ret (v := .int .i64 (-1)) (by simp [results,Tryz.results145,go_sem]) rfl ?_
 exact ⟨rfl,uq⟩
theorem jfl (va : Option Addr) (cap : Nat) (f : Value) (w : World) :
  Calls Tryz.prog 94 #[.slice va 0 cap,f] w fun e w' => e = .returned (.slice va 0 cap) ∧ Up w w':=by
 go_enter Tryz.func94,Tryz.ntmps94
 go_wp2_with (first | (go_at_call 145;refine (jfv va cap f _).mono ?_;rintro e w2 ⟨rfl,hu2⟩))
 refine bodyPost_ret (v := .slice va 0 cap) (by simp [results,Tryz.results94,go_sem]) rfl ?_
 exact ⟨rfl,uq⟩
theorem ji0 (va : Option Addr) (cap : Nat) (f : Value) (w : World) :
  Calls Tryz.prog 173 #[.slice va 0 cap, .int .i64 0,f] w fun e w' => e = .returned (.tuple #[]) ∧ Up w w':=by
 go_enter Tryz.func173,Tryz.ntmps173
 go_wp2_with fail
 refine wp_loop_rounds 1 ?_
 rw [rounds_succ]
 go_wp2_with (first | (go_at_call 195;refine (jd5 _ f 0 0 _ (by decide) (by decide) (by decide)).mono ?_;rintro e w2 ⟨rfl,rfl⟩))
 refine wp_loop_rounds 1 ?_
 rw [rounds_succ]
 go_wp2_with fail
 go_end0
 exact ⟨rfl,uq⟩
theorem jfi (va : Option Addr) (cap : Nat) (f : Value) (w : World) :
  Calls Tryz.prog 141 #[.slice va 0 cap,f] w fun e w' => e = .returned (.tuple #[]) ∧ Up w w':=by
 go_enter Tryz.func141,Tryz.ntmps141
 go_wp2_with (first | (go_at_call 173;refine (ji0 va cap f _).mono ?_;rintro e w2 ⟨rfl,hu2⟩))
 go_end0
 exact ⟨rfl,uq⟩
theorem jhL (va : Option Addr) (cap : Nat) (f : Value) (w : World) :
  Calls Tryz.prog 143 #[.slice va 0 cap,f] w fun e w' => e = .returned (.slice va 0 cap) ∧ Up w w':=by
 go_enter Tryz.func143,Tryz.ntmps143
 go_wp2_with fail
 refine bodyPost_ret (v := .slice va 0 cap) (by simp [results,Tryz.results143,go_sem]) rfl ?_
 exact ⟨rfl,uq⟩
theorem jeE (va : Option Addr) (cap : Nat) (w : World) :
  Calls Tryz.prog 93 #[.slice va 0 cap, .func (.func byF) #[] #[]] w fun e w' => e = .returned (.slice va 0 cap) ∧ Up w w':=by
 go_enter Tryz.func93,Tryz.ntmps93
 go_wp2_with (first | (go_at_call 141;refine (jfi va cap _ _).mono ?_;rintro e w2 ⟨rfl,hu2⟩) | (go_at_call 143;refine (jhL va cap _ _).mono ?_;rintro e w3 ⟨rfl,hu3⟩))
 refine bodyPost_ret (v := .slice va 0 cap) (by simp [results,Tryz.results93,go_sem]) rfl ?_
 exact ⟨rfl,uq⟩
theorem Memo.taken {B : Nat} {w X W' : World} (h : Memo jag B w X) (k : Taken w.heap.size X W') : Memo jag B w W' where
 os:=k.low.os.trans h.os
 tape:=k.low.tape.trans h.tape
 output:=k.low.output.trans h.output
 size:=Nat.le_trans h.size k.low.size
 obj b o h1 h2 h3:=by
  rw [k.low.block b (ja0 h1)]
  exact h.obj b o h1 h2 h3
 low b h1 h2:=(k.low.block b h2).trans (h.low b h1 h2)
 ty N b t h1 h2:=(h.ty N b t h1 h2).keep (fun _ _ _ _ _ _ q => k.cells _ _ _ _ q) (fun _ _ _ _ _ _ _ _ _ said _ q => ⟨said,k.cells _ _ _ _ q, .inl rfl⟩)
 fld b cs f q:=by
  obtain ⟨cs',h1,h2⟩:=h.fld b cs f q
  exact ⟨cs',k.cells _ _ _ _ h1,h2⟩
theorem TyAt.taken {N : Nat → Prop} {B B' : Nat} {X W' : World} {b : Nat} {t : Ty} (h : TyAt N B X b t) (k : Taken B' X W') : TyAt N B W' b t:=h.keep (fun _ _ _ _ _ _ q => k.cells _ _ _ _ q) (fun _ _ _ _ _ _ _ _ _ said _ q => ⟨said,k.cells _ _ _ _ q, .inl rfl⟩)
theorem jo3 {N : Nat → Prop} {B : Nat} {w : World} {b : Nat} {k : Int} (h : Leaf w b k ⟨#[]⟩) (hB : B ≤ b) : TyAt N B w b (ja3 k) :=
 TyAt.mk ⟨#[]⟩ (.slice none 0 0) (.slice none 0 0) (.slice none 0 0) [] hB h (.inl rfl) (RowOf.nil _ _ _) (RowOf.nil _ _ _) (RowOf.nil _ _ _) rfl (fun j q p h1 _ => by simp at h1)
theorem Glob.memoS {S : Nat → Prop} {B : Nat} {w w' : World} (h : Glob w) (k : Memo S B w w') (hS : ∀ x,S x → x < w.heap.size → ∃ cs f,w.heap[x]? = some (.cells cs TpT f)) : Glob w':=h.step fun b o q p => k.obj b o q (fun cs f e => (p cs f).1 e) (fun e => by
 obtain ⟨cs,f,q2⟩:=hS b e (ja0 q)
 rw [q] at q2
 cases q2
 exact (p cs f).2 rfl)
theorem Ty.size_le : ∀ t : Ty,t.size ≤ 1099511627776
 | .mk k n nm ps ns ms => by
   rw [Ty.size]
   have : ∀ (l : List Nat) (a : Nat),a ≤ 1099511627776 → l.foldl (fun a x => min (a + x) 1099511627776) a ≤ 1099511627776:=by
    intro l
    induction l with
    | nil => intro a h;exact h
    | cons x r ih => intro a _;exact ih _ (Nat.min_le_right _ _)
   exact this _ _ (by decide)
theorem View.cell6 {N : Nat → Prop} {B : Nat} {w : World} {b : Nat} {t : Ty} (h : TyAt N B w b t) : w.cell? ⟨b,6,none⟩ = some (.int .i64 (t.size : Nat)):=by
 cases h with
 | mk said pv nv mv qs hB hh => exact ja1 hh 6
set_option maxHeartbeats 1600000
theorem jhl (N : Nat → Prop) (B : Nat) (k n : Int) (nm : ByteArray) (qs : List Nat) (ps : List Ty) (ns : List ByteArray) (ms : List Bool) (pv nv mv : Value) (w : World) (hB : B ≤ w.heap.size) (hp : RowOf TpT N w pv (qs.map ptrV)) (hn : RowOf StrT N w nv (ns.map .string)) (hm : RowOf BooT N w mv (ms.map .bool)) (hl : qs.length = ps.length)
  (hq : ∀ (j q : Nat) (p : Ty),qs[j]? = some q → ps[j]? = some p → TyAt N B w q p) :
  Calls Tryz.prog 57 #[.agg #[.int .i64 k, .int .i64 n, .string nm,pv,nv,mv, .int .i64 0, .string ⟨#[]⟩]] w fun e w' => ∃ b,e = .returned (.pointer (some ⟨b,0,none⟩)) ∧ TyAt N B w' b (.mk k n nm ps ns ms) ∧ w.heap.size ≤ b ∧ Up w w':=by
 have hzl : ((qs.zip ps).map fun x => (x.1,x.2.size)).length = qs.length:=by simp [hl]
 have hP : Parts w pv ((qs.zip ps).map fun x => (x.1,x.2.size)):=by
  obtain ⟨a,cap,e,h1,h2,h3⟩:=hp
  rw [List.length_map] at e h1 h2
  refine ⟨⟨a,cap,by rw [hzl];exact e⟩,fun j x hx => ?_,by rw [hzl];exact h2⟩
  rw [List.getElem?_map] at hx
  cases hz : (qs.zip ps)[j]? with
  | none => rw [hz] at hx;cases hx
  | some y =>
    rw [hz] at hx
    cases hx
    obtain ⟨hq1,hp1⟩:=List.getElem?_zip_eq_some.1 hz
    obtain ⟨g,off,cs,fz,f1,_,f3,f4⟩:=h3 j (ptrV y.1) (by rw [List.getElem?_map,hq1];rfl)
    have ht:=hq j y.1 y.2 hq1 hp1
    exact ⟨g,off,cap,by rw [hzl,e,f1],ja0 f3,(ja1 f3 _).trans f4,ht.lt,View.cell6 ht,Ty.size_le _⟩
 have hs : jjE 1 ((qs.zip ps).map fun x => (x.1,x.2.size)) = (Ty.mk k n nm ps ns ms).size:=by
  rw [Ty.size,Ty.sizes_eq]
  unfold jjE
  have key : ∀ (qs : List Nat) (ps : List Ty) (a : Nat),qs.length = ps.length → ((qs.zip ps).map fun x => (x.1,x.2.size)).foldl (fun a x => min (a + x.2) 1099511627776) a = (ps.map Ty.size).foldl (fun a x => min (a + x) 1099511627776) a:=by
   intro qs
   induction qs with
   | nil => intro ps a h;cases ps with
     | nil => rfl
     | cons p r => simp at h
   | cons q r ih => intro ps a h;cases ps with
     | nil => simp at h
     | cons p s => simp only [List.zip_cons_cons,List.map_cons,List.foldl_cons];exact ih s _ (by simpa using h)
  exact key qs ps 1 hl
 have hnv : ∃ a l c,nv = .slice a l c:=by obtain ⟨a,cap,e,_⟩:=hn;exact ⟨_,_,_,e⟩
 have hmv : ∃ a l c,mv = .slice a l c:=by obtain ⟨a,cap,e,_⟩:=hm;exact ⟨_,_,_,e⟩
 refine (jiS k n nm pv nv mv _ w hP hnv hmv).mono ?_
 rintro e w' ⟨b,rfl,hb,hbl,hu⟩
 rw [hs] at hb
 refine ⟨b,rfl,TyAt.mk ⟨#[]⟩ pv nv mv qs (Nat.le_trans hB hbl) hb (.inl rfl) (hp.keep fun g cs fz h1 h2 => ⟨h1,hu.get h2⟩) (hn.keep fun g cs fz h1 h2 => ⟨h1,hu.get h2⟩) (hm.keep fun g cs fz h1 h2 => ⟨h1,hu.get h2⟩) hl (fun j q p h1 h2 => (hq j q p h1 h2).up hu),hbl,hu⟩
theorem Ty.valid_of_canon {ps : List Ty} (h : (Ty.mk 16 0 ⟨#[]⟩ ps [] []).canon.Valid) (hp : ∀ p ∈ ps,p.Valid) : (Ty.mk 16 0 ⟨#[]⟩ ps [] []).Valid:=by
 rw [Ty.canon_mk,if_neg (by decide)] at h
 generalize hq : ps.map Ty.canon = l at h
 cases h with
 | un _ hl hk hs hg hpv =>
   subst hq
   refine .un ps (by simpa using hl) (fun p hp' => ?_) ?_ (fun p hp' => ?_) hp
   ·have:=hk p.canon (List.mem_map_of_mem (f:=Ty.canon) hp')
    rwa [Ty.canon_kind] at this
   ·rw [List.pairwise_map] at hs
    refine hs.imp fun {a b} h => ?_
    rwa [Ty.partT_canon,Ty.partT_canon] at h
   ·obtain ⟨g1,g2,g3⟩:=hg p.canon (List.mem_map_of_mem (f:=Ty.canon) hp')
    rw [Ty.canon_kind] at g1 g2 g3
    refine ⟨fun hk1 q hq => ?_,fun hk1 q hq => ?_,fun hk1 q hq hq9 e he => ?_⟩
    ·have:=g1 hk1 q.canon (List.mem_map_of_mem (f:=Ty.canon) hq)
     rwa [Ty.canon_kind] at this
    ·have:=g2 hk1 q.canon (List.mem_map_of_mem (f:=Ty.canon) hq)
     rwa [Ty.canon_kind] at this
    ·have:=g3 hk1 q.canon (List.mem_map_of_mem (f:=Ty.canon) hq) (by rw [Ty.canon_kind];exact hq9) e.canon (by rw [Ty.canon_parts];exact List.mem_map_of_mem (f:=Ty.canon) he)
     rwa [Ty.text_canon,Ty.text_canon] at this
 | basic h1 h2 => omega
 | named hk => omega
mutual
theorem Ty.namesLe_canon {M : Nat} : ∀ t : Ty,t.canon.namesLe M ↔ t.namesLe M
 | .mk k n nm ps ns ms => by rw [Ty.canon,Ty.namesLe,Ty.namesLe,Ty.namesLeL_canons ps]
theorem Ty.namesLeL_canons {M : Nat} : ∀ ps : List Ty,Ty.namesLeL M (Ty.canons ps) ↔ Ty.namesLeL M ps
 | [] => Iff.rfl
 | p :: r => by rw [Ty.canons,Ty.namesLeL,Ty.namesLeL,Ty.namesLe_canon p,Ty.namesLeL_canons r]
end
theorem jiZ (x : Ty) : ∀ l : List Ty,((insU x l).map Ty.nodes).sum ≤ x.nodes + (l.map Ty.nodes).sum
 | [] => by simp [insU]
 | y :: r => by
   unfold insU
   have:=jiZ x r
   (repeat' split) <;> (simp only [List.map_cons,List.sum_cons];omega)
theorem jgX : ∀ l : List Ty,((jbH l).map Ty.nodes).sum ≤ (l.map Ty.nodes).sum
 | [] => Nat.le_refl _
 | x :: r => by
   have h1:=jiZ x (jbH r)
   have h2:=jgX r
   simp only [List.map_cons,List.sum_cons]
   show ((insU x (jbH r)).map Ty.nodes).sum ≤ _
   omega
theorem jdY (f : Ty → Bool) : ∀ l : List Ty,((l.filter f).map Ty.nodes).sum ≤ (l.map Ty.nodes).sum
 | [] => Nat.le_refl _
 | x :: r => by
   have:=jdY f r
   rw [List.filter_cons]
   split <;> (simp only [List.map_cons,List.sum_cons];omega)
theorem jbX : ∀ (l : List Ty) (z : Ty),z ∈ jbH l → z ∈ l
 | [],z,h => h
 | x :: r,z,h => by
   rcases jeq x (jbH r) z h with rfl | q
   ·simp
   ·exact List.mem_cons_of_mem _ (jbX r z q)
theorem jcU (t : Ty) : (t.flat.map Ty.nodes).sum ≤ t.nodes:=by
 unfold Ty.flat
 split
 ·cases t with
  | mk k n nm ps ns ms => rw [Ty.nodes_mk];show (ps.map Ty.nodes).sum ≤ _;omega
 ·simp
theorem jdB : ∀ l : List Ty,((l.flatMap Ty.flat).map Ty.nodes).sum ≤ (l.map Ty.nodes).sum
 | [] => Nat.le_refl _
 | t :: r => by
   have h1:=jcU t
   have h2:=jdB r
   simp only [List.flatMap_cons,List.map_append,List.sum_append,List.map_cons,List.sum_cons]
   omega
theorem jhM (l : List Ty) : (jec l).nodes ≤ 1 + (l.map Ty.nodes).sum:=by
 rcases jbr l with ⟨_,e⟩ | ⟨x,rfl,e⟩ | ⟨_,e⟩
 ·rw [e];unfold ja3;rw [Ty.nodes_mk];simp
 ·rw [e];simp
 ·rw [e,Ty.nodes_mk]
  exact Nat.le_refl _
theorem jbb (l : List Ty) : (jal l).nodes ≤ 1 + (l.map Ty.nodes).sum:=by
 have hb : ∀ k,(ja3 k).nodes = 1:=fun k => by unfold ja3;rw [Ty.nodes_mk];rfl
 unfold jal
 rcases jaq (l.flatMap Ty.flat) with ⟨_,e⟩ | ⟨_,_,e⟩ | ⟨_,_,e⟩
 ·rw [e,hb];omega
 ·rw [e,hb];omega
 ·rw [e]
  have h1:=jhM (jbH (jbg (l.flatMap Ty.flat)))
  have h2:=jgX (jbg (l.flatMap Ty.flat))
  have h3 : ((jbg (l.flatMap Ty.flat)).map Ty.nodes).sum ≤ ((l.flatMap Ty.flat).map Ty.nodes).sum:=jdY _ _
  have h4:=jdB l
  omega
theorem jk0 {M : Nat} {t : Ty} (h : t.namesLe M) : ∀ p ∈ t.flat,p.namesLe M:=by
 intro p hp
 unfold Ty.flat at hp
 split at hp
 ·cases t with
  | mk k n nm ps ns ms => exact (Ty.namesLe_mk.1 h).2.2 p hp
 ·rw [List.mem_singleton.1 hp];exact h
theorem jbT (M : Nat) (k : Int) : (ja3 k).namesLe M:=Ty.namesLe_mk.2 ⟨Nat.zero_le _,by simp,by simp⟩
theorem jgN {M : Nat} {l : List Ty} (h : ∀ t ∈ l,t.namesLe M) : (jal l).namesLe M:=by
 unfold jal
 rcases jaq (l.flatMap Ty.flat) with ⟨_,e⟩ | ⟨_,_,e⟩ | ⟨_,_,e⟩
 ·rw [e];exact jbT _ _
 ·rw [e];exact jbT _ _
 ·rw [e]
  have hm : ∀ z ∈ jbH (jbg (l.flatMap Ty.flat)),z.namesLe M:=fun z hz => by
   have h1:=(jaf.1 (jbX _ z hz)).1
   obtain ⟨t,ht,hzt⟩:=List.mem_flatMap.1 h1
   exact jk0 (h t ht) z hzt
  rcases jbr (jbH (jbg (l.flatMap Ty.flat))) with ⟨_,e2⟩ | ⟨x,e1,e2⟩ | ⟨_,e2⟩
  ·rw [e2];exact jbT _ _
  ·rw [e2];exact hm x (by rw [e1];simp)
  ·rw [e2]
   exact Ty.namesLe_mk.2 ⟨Nat.zero_le _,by simp,hm⟩
set_option linter.unusedVariables false
theorem Ty.varsOk_mk {P : Int → ByteArray → Prop} {k n : Int} {nm : ByteArray} {ps : List Ty} {ns : List ByteArray} {ms : List Bool} : (Ty.mk k n nm ps ns ms).varsOk P ↔ (k = 18 → P n nm) ∧ ∀ p ∈ ps,p.varsOk P:=by
 rw [Ty.varsOk]
 constructor
 ·exact fun h => ⟨h.1,Ty.varsOkL_mem h.2⟩
 ·refine fun h => ⟨h.1,?_⟩
  have key : ∀ l : List Ty,(∀ p ∈ l,p.varsOk P) → Ty.varsOkL P l:=by
   intro l
   induction l with
   | nil => intro _;rw [Ty.varsOkL];trivial
   | cons p r ih => intro h;rw [Ty.varsOkL];exact ⟨h p (by simp),ih fun q hq => h q (by simp [hq])⟩
  exact key ps h.2
mutual
theorem Ty.varsOk_canon {P : Int → ByteArray → Prop} : ∀ t : Ty,t.canon.varsOk P ↔ t.varsOk P
 | .mk k n nm ps ns ms => by
   have hl:=Ty.varsOkL_canons (P:=P) ps
   rw [Ty.canon,Ty.varsOk,Ty.varsOk,hl]
   by_cases hk : k = 20
   ·constructor
    ·exact fun h => ⟨fun e => by omega,h.2⟩
    ·exact fun h => ⟨fun e => by omega,h.2⟩
   ·rw [if_neg hk]
theorem Ty.varsOkL_canons {P : Int → ByteArray → Prop} : ∀ ps : List Ty,Ty.varsOkL P (Ty.canons ps) ↔ Ty.varsOkL P ps
 | [] => by rw [Ty.canons]
 | p :: r => by rw [Ty.canons,Ty.varsOkL,Ty.varsOkL,Ty.varsOk_canon p,Ty.varsOkL_canons r]
end
theorem jdb (P : Int → ByteArray → Prop) {k : Int} (hk : k ≠ 18) : (ja3 k).varsOk P:=Ty.varsOk_mk.2 ⟨fun e => absurd e hk,fun p hp => by cases hp⟩
theorem jlq {P : Int → ByteArray → Prop} {t : Ty} (h : t.varsOk P) : ∀ p ∈ t.flat,p.varsOk P:=by
 intro p hp
 unfold Ty.flat at hp
 split at hp
 ·cases t with
  | mk k n nm ps ns ms => exact (Ty.varsOk_mk.1 h).2 p hp
 ·rw [List.mem_singleton.1 hp];exact h
theorem jhU {P : Int → ByteArray → Prop} {l : List Ty} (h : ∀ t ∈ l,t.varsOk P) : (jal l).varsOk P:=by
 unfold jal
 rcases jaq (l.flatMap Ty.flat) with ⟨_,e⟩ | ⟨_,_,e⟩ | ⟨_,_,e⟩
 ·rw [e];exact jdb _ (by decide)
 ·rw [e];exact jdb _ (by decide)
 ·rw [e]
  have hm : ∀ z ∈ jbH (jbg (l.flatMap Ty.flat)),z.varsOk P:=fun z hz => by
   have h1:=(jaf.1 (jbX _ z hz)).1
   obtain ⟨t,ht,hzt⟩:=List.mem_flatMap.1 h1
   exact jlq (h t ht) z hzt
  rcases jbr (jbH (jbg (l.flatMap Ty.flat))) with ⟨_,e2⟩ | ⟨x,e1,e2⟩ | ⟨_,e2⟩
  ·rw [e2];exact jdb _ (by decide)
  ·rw [e2];exact hm x (by rw [e1];simp)
  ·rw [e2]
   exact Ty.varsOk_mk.2 ⟨fun e => absurd e (by decide),hm⟩
mutual
noncomputable def jbm : Ty → Ty
 | .mk k n nm ps ns ms => if k = 16 then jal (jfT ps) else .mk k (if k = 20 then 0 else n) nm (jfT ps) ns ms
noncomputable def jfT : List Ty → List Ty
 | [] => []
 | p :: r => jbm p :: jfT r
end
theorem jhi : ∀ ps : List Ty,jfT ps = ps.map jbm
 | [] => by rw [jfT];rfl
 | p :: r => by rw [jfT,jhi r];rfl
theorem jgo (k n : Int) (nm : ByteArray) (ps : List Ty) (ns : List ByteArray) (ms : List Bool) : jbm (.mk k n nm ps ns ms) = if k = 16 then jal (ps.map jbm) else .mk k (if k = 20 then 0 else n) nm (ps.map jbm) ns ms:=by rw [jbm,jhi]
theorem FC.flat {t : Ty} (h : FC t) : ∀ x ∈ t.flat,FC x ∧ x.kind ≠ 16:=by
 intro x hx
 have hc:=h.cv.flat x hx
 refine ⟨⟨hc.1,?_⟩,hc.2⟩
 unfold Ty.flat at hx
 split at hx
 ·exact h.free.parts x hx
 ·rw [List.mem_singleton.1 hx];exact h.free
end Go.Proofs.YtiaepldmgighbaaGreatDoor
