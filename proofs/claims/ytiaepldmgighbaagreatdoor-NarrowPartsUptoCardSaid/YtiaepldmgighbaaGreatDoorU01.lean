import Derived.Test.YtiaepldmgighbaaGreatDoorRows
import Derived.WalkKit
import Derived.WalkSpells
import Derived.WalkLawsBesides
import Derived.BigQuiet
import Derived.Deep.QuietTactic
import Derived.Lib.Hide
import Derived.MapKept
import Derived.Maps.OwnOps
import Derived.Maps.Own
namespace Go.Proofs.YtiaepldmgighbaaGreatDoor
open Go.RowKit
theorem gQa {α : Type} {xs : List α} {i : Nat} : xs.toArray[i]? = xs[i]? := List.getElem?_toArray
theorem gQz {α : Type} {a : α} {l : List α} : (a :: l)[0]? = some a:=rfl
theorem gQs {α : Type} {a : α} {l : List α} {i : Nat} : (a :: l)[i+1]? = l[i]? := rfl
theorem gQw (w : World) (o : Obj) : (w.alloc o).heap.size = w.heap.size + 1:=World.size_alloc w o
def Up (a w : World) : Prop:=Below a.heap.size a w
theorem Up.refl (a : World) : Up a a:=Below.refl _ _
theorem Up.trans {a b c : World} (h : Up a b) (k : Up b c) : Up a c:=Below.trans h (Below.mono k h.size)
theorem Up.alloc {a w : World} (h : Up a w) (o : Obj) : Up a (w.alloc o):=Below.alloc h h.size o
theorem Up.drew {a w : World} (h : Up a w) : Up a w.drew:=Below.drew h
theorem Up.drewN {a w : World} (h : Up a w) (n : Nat) : Up a (w.drewN n):=⟨h.os,h.tape,h.output,h.size,h.block⟩
theorem Up.setCell {a w : World} (h : Up a w) {p : Addr} (hp : a.heap.size ≤ p.block) (u : Value) : Up a (w.setCell p u):=Below.setCell h hp u
theorem Up.size {a w : World} (h : Up a w) : a.heap.size ≤ w.heap.size:=Below.size h
theorem Up.cells {a w : World} (h : Up a w) : ∀ b o,b < a.heap.size → w.cell? ⟨b,o,none⟩ = a.cell? ⟨b,o,none⟩:=fun b o hb => Below.cell (p:=⟨b,o,none⟩) h hb
theorem Up.ice {a w : World} (h : Up a w) : ∀ b o,b < a.heap.size → w.frozen? ⟨b,o,none⟩ = a.frozen? ⟨b,o,none⟩:=fun b o hb => Below.frozen (p:=⟨b,o,none⟩) h hb
theorem Up.block {a w : World} (h : Up a w) : ∀ b,b < a.heap.size → w.heap[b]? = a.heap[b]? := fun b hb => Below.block h b hb
theorem uq {a w : World} (h : Up a w:=by repeat (first | with_reducible exact Up.refl _ | with_reducible assumption | with_reducible refine Up.drewN ?_ _ | with_reducible refine Up.drew ?_ | with_reducible refine Up.alloc ?_ _ | with_reducible refine Up.setCell ?_ (by first | omega | (simp;done) | (simp;omega)) _ | with_reducible refine Up.trans ?_ (by assumption))) : Up a w:=h
theorem ja9 (w : World) (o : Obj) : (w.alloc o).heap[w.heap.size]? = some o:=by
 show (w.heap.push o)[w.heap.size]? = _
 simp
theorem jao (w : World) (o : Obj) (b : Nat) (h : b < w.heap.size) : (w.alloc o).heap[b]? = w.heap[b]? := Below.heap_alloc w o b h
theorem jba {P : Program} {fn : Func} {R : Ending → World → Prop} {a : Act} {w : World} {v v' : Value} (hr : (results fn a.tmps).run P w = .ok v w) (hd : a.defers = []) (he : v = v') (h : R (.returned v') w) :
  bodyPost P fn R .ret a w:=bodyPost_ret (v:=v') (by rw [hr,he]) hd h
section
variable {P : Program} {α κ : Type}
def putB (w : World) (b : Nat) (o : Obj) : World:={ w with heap:=w.heap.setIfInBounds b o }
def Entries (es : Array MapEntry) (kf : κ → Value) (f : α → Value) (l : List (κ × α)) : Prop:=es.toList.map (fun e => (e.key,e.val)) = l.map (fun x => (kf x.1,f x.2))
structure KeyKind (d : TypeDesc) (kf : κ → Value) : Prop where
 key : ∀ k,MapKept.IsKey d (kf k)
 inj : ∀ k k',kf k = kf k' → k = k'
theorem jb9 : KeyKind .string Value.string:=⟨fun k => by simp [MapKept.IsKey],fun k k' h => by simpa using h⟩
theorem jd9 (q : IntKind) : KeyKind (.int q) (Value.int q):=⟨fun k => by simp [MapKept.IsKey],fun k k' h => by simpa using h⟩
theorem Entries.nth {es : Array MapEntry} {kf : κ → Value} {f : α → Value} {l : List (κ × α)} (h : Entries es kf f l) (j : Nat) (e : MapEntry) (he : es.toList[j]? = some e) : ∃ x,l[j]? = some x ∧ e.key = kf x.1 ∧ e.val = f x.2:=by
 have h1 : (es.toList.map (fun e => (e.key,e.val)))[j]? = (l.map (fun x => (kf x.1,f x.2)))[j]? := by rw [h]
 rw [List.getElem?_map,List.getElem?_map,he] at h1
 cases hx : l[j]? with
 | none => rw [hx] at h1;simp at h1
 | some x => rw [hx] at h1;simp at h1;exact ⟨x,rfl,h1.1,h1.2⟩
theorem Entries.len {es : Array MapEntry} {kf : κ → Value} {f : α → Value} {l : List (κ × α)} (h : Entries es kf f l) : es.size = l.length:=by
 have:=congrArg List.length h
 simpa using this
theorem Entries.keys {d : TypeDesc} {es : Array MapEntry} {kf : κ → Value} {f : α → Value} {l : List (κ × α)} (hk : KeyKind d kf) (h : Entries es kf f l) : ∀ x ∈ es.toList,MapKept.IsKey d x.key:=by
 intro e he
 obtain ⟨j,hj⟩:=List.getElem?_of_mem he
 obtain ⟨x,_,h2,_⟩:=h.nth j e hj
 rw [h2];exact hk.key _
theorem jhz {d : TypeDesc} {es : Array MapEntry} {kf : κ → Value} {f : α → Value} {l : List (κ × α)} (hk : KeyKind d kf) (h : Entries es kf f l) (k : κ) (hm : ∀ x ∈ l,x.1 ≠ k) : Instr.findNow d (kf k) es.toList 0 = some none:=by
 rcases MapKept.findNow_spec (hk.key k) es.toList 0 (h.keys hk) with ⟨h1,_⟩ | ⟨j,e,_,h2,h3⟩
 ·exact h1
 ·obtain ⟨x,hx,h4,_⟩:=h.nth j e h2
  exact absurd (hk.inj _ _ (h4.symm.trans h3)) (hm x (List.mem_of_getElem? hx))
theorem jj8 {d : TypeDesc} {es : Array MapEntry} {kf : κ → Value} {f : α → Value} {l : List (κ × α)} (hk : KeyKind d kf) (h : Entries es kf f l) (k : κ) (x : α) (j : Nat) (hj : l[j]? = some (k,x)) (hn : (l.map (·.1)).Nodup) :
  Instr.findNow d (kf k) es.toList 0 = some (some (j,f x)) ∧ ∃ e,es[j]? = some e ∧ e.key = kf k:=by
 have hlt : j < l.length:=by
  rcases Nat.lt_or_ge j l.length with h' | h'
  ·exact h'
  ·rw [List.getElem?_eq_none h'] at hj;cases hj
 have hlt' : j < es.toList.length:=by have:=h.len;simpa [this] using hlt
 obtain ⟨y,hy,hyk,hyv⟩:=h.nth j _ (List.getElem?_eq_getElem hlt')
 rw [hj] at hy
 cases hy
 rcases MapKept.findNow_spec (hk.key k) es.toList 0 (h.keys hk) with ⟨_,h1⟩ | ⟨i,e,h1,h2,h3⟩
 ·exact absurd hyk (h1 _ (List.getElem_mem hlt'))
 ·obtain ⟨z,hz,h4,h5⟩:=h.nth i e h2
  have hzk : z.1 = k:=hk.inj _ _ (h4.symm.trans h3)
  have hij : i = j:=by
   have a1 : (l.map (·.1))[i]? = some k:=by rw [List.getElem?_map,hz];simp [hzk]
   have a2 : (l.map (·.1))[j]? = some k:=by rw [List.getElem?_map,hj];simp
   have b1 : i < (l.map (·.1)).length:=by
    rcases Nat.lt_or_ge i (l.map (·.1)).length with h' | h'
    ·exact h'
    ·rw [List.getElem?_eq_none h'] at a1;cases a1
   exact (List.getElem?_inj b1 hn).1 (a1.trans a2.symm)
  subst hij
  rw [hj] at hz
  cases hz
  refine ⟨by rw [h1,h5];simp,e,by simpa using h2,h3⟩
theorem jbI {t kt et : TypeId} {d : TypeDesc} {kf : κ → Value} {z : Value} {w : World} (ht : P.underlying t = some (.map kt et)) (hd : P.underlying kt = some d) (hk : KeyKind d kf) (hz : (zeroValue et).run P w = .ok z w) (k : κ) :
  (Instr.lookup t (.map none) (kf k) true).run P w = .ok (.tuple #[z, .bool false]) w ∧ (Instr.lookup t (.map none) (kf k) false).run P w = .ok z w:=by
 have hc : (Instr.checkKey true 10000 kt (kf k)).run P w = .ok () w:=MapKept.run_checkKey (k:=kf k) hd (hk.key k) true 9999
 have hf : Instr.findNow d (kf k) ([] : List MapEntry) 0 = some none:=rfl
 constructor <;> simp [Instr.lookup,run_underlying ht,hc,MapKept.run_findKey hd hf,hz,Result.andThen]
theorem jbk {t kt et : TypeId} {d : TypeDesc} {kf : κ → Value} {f : α → Value} {z : Value} {w : World} {g clk : Nat} {es : Array MapEntry} {l : List (κ × α)} (ht : P.underlying t = some (.map kt et)) (hd : P.underlying kt = some d) (hk : KeyKind d kf)
  (hz : (zeroValue et).run P w = .ok z w) (hb : w.heap[g]? = some (.map es clk)) (h : Entries es kf f l) (k : κ) (hm : ∀ x ∈ l,x.1 ≠ k) :
  (Instr.lookup t (.map (some g)) (kf k) true).run P w = .ok (.tuple #[z, .bool false]) w ∧ (Instr.lookup t (.map (some g)) (kf k) false).run P w = .ok z w:=by
 have hc : ∀ e,(Instr.checkKey e 10000 kt (kf k)).run P w = .ok () w:=fun e => MapKept.run_checkKey (k:=kf k) hd (hk.key k) e 9999
 have hf:=jhz hk h k hm
 constructor <;> simp [Instr.lookup,run_underlying ht,MapKept.run_getObj_map hb,hc,MapKept.run_findKey hd hf,hz,Result.andThen]
theorem jaG {t kt et : TypeId} {d : TypeDesc} {kf : κ → Value} {f : α → Value} {w : World} {g clk : Nat} {es : Array MapEntry} {l : List (κ × α)} (ht : P.underlying t = some (.map kt et)) (hd : P.underlying kt = some d) (hk : KeyKind d kf)
  (hb : w.heap[g]? = some (.map es clk)) (h : Entries es kf f l) (k : κ) (x : α) (j : Nat) (hj : l[j]? = some (k,x)) (hn : (l.map (·.1)).Nodup) :
  (Instr.lookup t (.map (some g)) (kf k) true).run P w = .ok (.tuple #[f x, .bool true]) w ∧ (Instr.lookup t (.map (some g)) (kf k) false).run P w = .ok (f x) w:=by
 have hc : ∀ e,(Instr.checkKey e 10000 kt (kf k)).run P w = .ok () w:=fun e => MapKept.run_checkKey (k:=kf k) hd (hk.key k) e 9999
 have hf:=(jj8 hk h k x j hj hn).1
 constructor <;> simp [Instr.lookup,run_underlying ht,MapKept.run_getObj_map hb,hc,MapKept.run_findKey hd hf,Result.andThen]
theorem jaP {t kt et : TypeId} {d : TypeDesc} {kf : κ → Value} {f : α → Value} {w : World} {g clk : Nat} {es : Array MapEntry} {l : List (κ × α)} (ht : P.underlying t = some (.map kt et)) (hd : P.underlying kt = some d) (hk : KeyKind d kf)
  (hb : w.heap[g]? = some (.map es clk)) (h : Entries es kf f l) (k : κ) (x : α) (hm : ∀ x ∈ l,x.1 ≠ k) :
  ∃ es' clk',(Instr.mapUpdate t (.map (some g)) (kf k) (f x)).run P w = .ok () (putB w g (.map es' clk')) ∧ Entries es' kf f (l ++ [(k,x)]):=by
 have hc : ∀ e,(Instr.checkKey e 10000 kt (kf k)).run P w = .ok () w:=fun e => MapKept.run_checkKey (k:=kf k) hd (hk.key k) e 9999
 have hf:=jhz hk h k hm
 refine ⟨es.push { key:=kf k,val:=f x,born:=clk },clk + 1,?_,?_⟩
 ·simp [Instr.mapUpdate,run_underlying ht,MapKept.run_getObj_map hb,hc,MapKept.run_findKey hd hf,MapKept.run_setObj_map _ hb,Result.andThen,putB]
 ·unfold Entries at *
  simp [h]
theorem jdk {t kt et : TypeId} {d : TypeDesc} {kf : κ → Value} {f : α → Value} {w : World} {g clk : Nat} {es : Array MapEntry} {l : List (κ × α)} (ht : P.underlying t = some (.map kt et)) (hd : P.underlying kt = some d) (hk : KeyKind d kf)
  (hb : w.heap[g]? = some (.map es clk)) (h : Entries es kf f l) (k : κ) (x y : α) (j : Nat) (hj : l[j]? = some (k,y)) (hn : (l.map (·.1)).Nodup) :
  ∃ es' clk',(Instr.mapUpdate t (.map (some g)) (kf k) (f x)).run P w = .ok () (putB w g (.map es' clk')) ∧ Entries es' kf f (l.set j (k,x)):=by
 have hc : ∀ e,(Instr.checkKey e 10000 kt (kf k)).run P w = .ok () w:=fun e => MapKept.run_checkKey (k:=kf k) hd (hk.key k) e 9999
 obtain ⟨hf,e,he,hek⟩:=jj8 hk h k y j hj hn
 refine ⟨es.modify j fun e => { e with key:=kf k,val:=f x },clk,?_,?_⟩
 ·simp [Instr.mapUpdate,run_underlying ht,MapKept.run_getObj_map hb,hc,MapKept.run_findKey hd hf,he,hek,MapKept.run_keyThatStays (hk.key k),MapKept.run_setObj_map _ hb,Result.andThen,putB]
 ·have hlt : j < es.toList.length:=by
   have : j < es.size:=(Array.getElem?_eq_some_iff.1 he).1
   simpa using this
  unfold Entries at *
  apply List.ext_getElem?
  intro i
  have h1 : (es.toList.map (fun e => (e.key,e.val)))[i]? = (l.map (fun x => (kf x.1,f x.2)))[i]? := by rw [h]
  simp only [List.getElem?_map,Array.toList_modify,List.getElem?_modify,List.getElem?_set] at h1 ⊢
  by_cases hij : j = i
  ·subst hij
   have hl : j < l.length:=by
    rcases Nat.lt_or_ge j l.length with h' | h'
    ·exact h'
    ·rw [List.getElem?_eq_none h'] at hj;cases hj
   simp [hl,List.getElem?_eq_getElem hlt]
  ·simp [hij]
   simpa using h1
theorem jbE [DecidableEq κ] (l : List (κ × α)) (k : κ) : (∀ x ∈ l,x.1 ≠ k) ∨ ∃ (j : Nat) (x : α),l[j]? = some (k,x):=by
 by_cases h : ∃ x ∈ l,x.1 = k
 ·obtain ⟨⟨k',x⟩,hx,rfl⟩:=h
  obtain ⟨j,hj⟩:=List.getElem?_of_mem hx
  exact .inr ⟨j,x,hj⟩
 ·exact .inl fun x hx hk => h ⟨x,hx,hk⟩
end
theorem jbK (w : World) (b : Nat) (o : Obj) : (putB w b o).heap.size = w.heap.size:=by simp [putB]
theorem jbL (w : World) (b : Nat) (o : Obj) (h : b < w.heap.size) : (putB w b o).heap[b]? = some o:=by simp [putB,h]
theorem jat (w : World) (b c : Nat) (o : Obj) (h : c ≠ b) : (putB w b o).heap[c]? = w.heap[c]? := by
 simp only [putB]
 rw [Array.getElem?_setIfInBounds_ne (by omega)]
section
variable {P : Program} {w : World}
theorem ja7 {base : Nat} {e : TypeId} {size : Nat} {v : Value} {n : Nat} {xs : List Value} (h : w.ownsRow base e size v n xs) : ∃ sa cap,v = .slice sa n cap:=by
 rcases h.2 with ⟨rfl,rfl⟩ | ⟨g,cap,cur,rfl,_⟩
 ·exact ⟨none,0,rfl⟩
 ·exact ⟨_,cap,rfl⟩
theorem jd4 (t ty e : TypeId) (i : TypeInfo) (z : Value) (size bytes : Nat) (ht : P.underlying t = some (.slice e)) (hi : P.info? e = some i) (hz : i.zero = some z)
  (hsize : i.size = size) (hby : i.bytes = bytes) (hzs : z.cells.size = size) (hsz : 0 < size)
  (v : Value) (n : Nat) (xs : List Value) (hown : w.ownsRow 0 e size v n xs)
  (a : Addr) (m c : Nat) (news : List Value) (hl : news.length = m * size) (hnews : ∀ j u,news[j]? = some u → w.cell? (a.add j) = some u) (h1 : ∀ u ∈ news,u.oneCell' = true)
  (h63 : n + m ≤ maxLen) (hbytes : (n + m) * bytes ≤ 140737488355328) :
  ∃ sa cap w',(Builtin.append_ #[t,t] ty #[v, .slice (some a) m c]).run P w = .ok (.slice sa (n + m) cap) w' ∧ w'.ownsRow 0 e size (.slice sa (n + m) cap) (n + m) (xs ++ news) ∧ w.grownBy w' v.ownBlock ∧
    ((Value.slice sa (n + m) cap).ownBlock = v.ownBlock ∨ ∃ g,(Value.slice sa (n + m) cap).ownBlock = some g ∧ w.heap.size ≤ g):=by
 obtain ⟨v',w',hr,ho,hg,_⟩:=run_append_own (P:=P) w 0 t ty e i z size bytes ht hi hz hsize hby hzs hsz v n xs hown a m c news hl hnews h1 h63 hbytes (Nat.zero_le _)
 obtain ⟨sa,cap,rfl⟩:=ja7 ho
 refine ⟨sa,cap,w',hr,ho,hg,?_⟩
 subst hsize
 subst hby
 have hsmall : n + m ≤ 9223372036854775807:=by simp only [maxLen] at h63;omega
 rcases hown.2 with ⟨rfl,rfl⟩ | ⟨g,cap0,cur,rfl,_,hgb,hnc,hcm,hcs,htake⟩
 ·by_cases hm : m = 0
  ·subst hm
   left
   rcases ho.2 with ⟨h,_⟩ | ⟨g,cap',cur',h,_,_,_,_,_,_⟩
   ·rw [h]
   ·cases sa with
    | none => rfl
    | some a' =>
      exfalso
      have hn : news = []:=List.eq_nil_of_length_eq_zero (by simpa using hl)
      have : (Builtin.append_ #[t,t] ty #[.slice none 0 0, .slice (some a) 0 c]).run P w = .ok (.slice none 0 0) w:=by
       simp [Builtin.append_,run_underlying ht,sizeOf,typeInfo,hi,Builtin.lenOf,Builtin.firstCells,loadCells,loadCellsFrom]
      rw [this] at hr
      simp at hr
  ·right
   have hr2:=run_append_nil (P:=P) w t ty e i z ht hi hz a m c news hl hnews (by omega) (by omega) (by have hb:=hbytes;simp only [Nat.zero_add] at hb;omega)
   rw [hr2] at hr
   injection hr with h1 h2
   injection h1 with h3 h4 h5
   subst h3
   exact ⟨_,rfl,Nat.le_refl _⟩
 ·by_cases hroom : n + m ≤ cap0
  ·have hfit : n * i.size + news.length ≤ cur.size:=by rw [hl,hcs, ← Nat.add_mul];exact Nat.mul_le_mul_right _ hroom
   have hr2:=run_append_room (P:=P) w t ty e i ht hi g n cap0 cur hgb a m c news hl hnews h1 hroom hfit
   rw [hr2] at hr
   injection hr with h1 h2
   injection h1 with h3 h4 h5
   subst h3
   exact .inl rfl
  ·have holds : ∀ j u,xs[j]? = some u → w.cell? ((⟨g,0,none⟩ : Addr).add j) = some u:=hown.cells (g:=g) rfl
   have hr2:=run_append_grow (P:=P) w t ty e i z ht hi hz ⟨g,0,none⟩ n cap0 xs hown.1 holds a m c news hl hnews (by omega) (by omega) (growslice_fits (by omega) hbytes)
   rw [hr2] at hr
   injection hr with h1 h2
   injection h1 with h3 h4 h5
   subst h3
   exact .inr ⟨_,rfl,Nat.le_refl _⟩
theorem jde {o : Oper} {a : Act} {K : Act → World → Prop} {Q : Exit → Act → World → Prop} (s x : Operand) (t : TypeId)
  (ho : o.op = .call { callee := .builtin .append,args := #[s,x],argTypes := #[t,t] })
  (e : TypeId) (i : TypeInfo) (z : Value) (size bytes : Nat) (ht : P.underlying t = some (.slice e)) (hi : P.info? e = some i) (hz : i.zero = some z)
  (hsize : i.size = size) (hby : i.bytes = bytes) (hzs : z.cells.size = size) (hsz : 0 < size)
  (v : Value) (n : Nat) (xs : List Value) (hs : a.eval s = v) (hown : w.ownsRow 0 e size v n xs)
  (ad : Addr) (m c : Nat) (news : List Value) (hx : a.eval x = .slice (some ad) m c) (hl : news.length = m * size) (hnews : ∀ j u,news[j]? = some u → w.cell? (ad.add j) = some u) (h1 : ∀ u ∈ news,u.oneCell' = true)
  (h63 : n + m ≤ maxLen) (hbytes : (n + m) * bytes ≤ 140737488355328)
  (h : ∀ sa cap w',w'.ownsRow 0 e size (.slice sa (n + m) cap) (n + m) (xs ++ news) → w.grownBy w' v.ownBlock →
   ((Value.slice sa (n + m) cap).ownBlock = v.ownBlock ∨ ∃ g,(Value.slice sa (n + m) cap).ownBlock = some g ∧ w.heap.size ≤ g) → K (a.put o.dst (.slice sa (n + m) cap)) w') : o.wp P a w K Q:=by
 obtain ⟨sa,cap,w',hr,h2,h3,h4⟩:=jd4 (P:=P) (w:=w) t o.type e i z size bytes ht hi hz hsize hby hzs hsz v n xs hown ad m c news hl hnews h1 h63 hbytes
 unfold Oper.wp execOp
 simp only [ho,resolve,invoke,builtin,Sem.run_bind,Sem.run_pure,Result.andThen_ok,List.map_toArray,List.map_cons,List.map_nil,hs,hx,hr]
 exact h sa cap w' h2 h3 h4
theorem jbU {ops : Array Oper} {rest : List Oper} {o : Oper} {a : Act} {Q : Exit → Act → World → Prop} (hgd : o.guard = none) (s x : Operand) (t : TypeId)
  (ho : o.op = .call { callee := .builtin .append,args := #[s,x],argTypes := #[t,t] })
  (e : TypeId) (i : TypeInfo) (z : Value) (size bytes : Nat) (ht : P.underlying t = some (.slice e)) (hi : P.info? e = some i) (hz : i.zero = some z)
  (hsize : i.size = size) (hby : i.bytes = bytes) (hzs : z.cells.size = size) (hsz : 0 < size)
  (v : Value) (n : Nat) (xs : List Value) (hs : a.eval s = v) (hown : w.ownsRow 0 e size v n xs)
  (ad : Addr) (m c : Nat) (news : List Value) (hx : a.eval x = .slice (some ad) m c) (hl : news.length = m * size) (hnews : ∀ j u,news[j]? = some u → w.cell? (ad.add j) = some u) (h1 : ∀ u ∈ news,u.oneCell' = true)
  (h63 : n + m ≤ maxLen) (hbytes : (n + m) * bytes ≤ 140737488355328)
  (h : ∀ sa cap w',w'.ownsRow 0 e size (.slice sa (n + m) cap) (n + m) (xs ++ news) → w.grownBy w' v.ownBlock →
   ((Value.slice sa (n + m) cap).ownBlock = v.ownBlock ∨ ∃ g,(Value.slice sa (n + m) cap).ownBlock = some g ∧ w.heap.size ≤ g) → wpList P ops Q rest (a.put o.dst (.slice sa (n + m) cap)) w') : wpList P ops Q (o :: rest) a w :=
 wpList_plain hgd fun _ hK => jde s x t ho e i z size bytes ht hi hz hsize hby hzs hsz v n xs hs hown ad m c news hx hl hnews h1 h63 hbytes fun sa cap w' h2 h3 h4 => hK _ _ (h sa cap w' h2 h3 h4)
theorem jfg (W : World) (cs : Array Value) (te : TypeId) (b : Nat) (hb : b = W.heap.size) : ∀ (j : Nat) (u : Value),cs.toList[j]? = some u → (W.alloc (.cells cs te)).cell? ((⟨b,0,none⟩ : Addr).add j) = some u:=by
 intro j u hj
 have h1 : (W.alloc (.cells cs te)).heap[b]? = some (.cells cs te (0,0)):=by rw [hb];exact ja9 _ _
 unfold Addr.add
 split
 ·rename_i h0
  subst h0
  simp only [World.cell?,h1]
  simpa using hj
 ·simp only [World.cell?,h1]
  simpa using hj
theorem jae {W : World} {cs : Array Value} {te : TypeId} {ops : Array Oper} {rest : List Oper} {o : Oper} {a : Act} {Q : Exit → Act → World → Prop} (hgd : o.guard = none) (s x : Operand) (t : TypeId)
  (ho : o.op = .call { callee := .builtin .append,args := #[s,x],argTypes := #[t,t] })
  (e : TypeId) (i : TypeInfo) (z : Value) (size bytes : Nat) (ht : P.underlying t = some (.slice e)) (hi : P.info? e = some i) (hz : i.zero = some z)
  (hsize : i.size = size) (hby : i.bytes = bytes) (hzs : z.cells.size = size) (hsz : 0 < size)
  (v : Value) (n : Nat) (xs : List Value) (hs : a.eval s = v) (hown : (W.alloc (.cells cs te)).ownsRow 0 e size v n xs)
  (b m c : Nat) (hx : a.eval x = .slice (some ⟨b,0,none⟩) m c) (hb : b = W.heap.size) (hl : cs.size = m * size) (h1 : ∀ u ∈ cs.toList,u.oneCell' = true)
  (h63 : n + m ≤ maxLen) (hbytes : (n + m) * bytes ≤ 140737488355328)
  (h : ∀ sa cap w',w'.ownsRow 0 e size (.slice sa (n + m) cap) (n + m) (xs ++ cs.toList) → (W.alloc (.cells cs te)).grownBy w' v.ownBlock →
   ((Value.slice sa (n + m) cap).ownBlock = v.ownBlock ∨ ∃ g,(Value.slice sa (n + m) cap).ownBlock = some g ∧ W.heap.size + 1 ≤ g) → wpList P ops Q rest (a.put o.dst (.slice sa (n + m) cap)) w') : wpList P ops Q (o :: rest) a (W.alloc (.cells cs te)) :=
 jbU hgd s x t ho e i z size bytes ht hi hz hsize hby hzs hsz v n xs hs hown ⟨b,0,none⟩ m c cs.toList hx (by rw [Array.length_toList];exact hl) (jfg W cs te b hb) h1 h63 hbytes
  (fun sa cap w' g1 g2 g3 => h sa cap w' g1 g2 (by simpa only [gQw] using g3))
end
theorem ja6 {w : World} {b i : Nat} {cs : Array Value} {t : TypeId} {f : Nat × Nat} (h : w.heap[b]? = some (.cells cs t f)) (v : Value) : (w.setCell ⟨b,i,none⟩ v).heap[b]? = some (.cells (cs.setIfInBounds i v) t f):=by
 simp [World.setCell,Array.getElem?_modify,h]
theorem ja2 {w : World} {b c i : Nat} (h : c ≠ b) (v : Value) : (w.setCell ⟨b,i,none⟩ v).heap[c]? = w.heap[c]? := Below.heap_setCell _ _ _ _ (by simpa using h)
theorem jam (w : World) (a : Addr) (v : Value) : (w.setCell a v).heap.size = w.heap.size:=by simp [World.setCell]
end Go.Proofs.YtiaepldmgighbaaGreatDoor
namespace Go.Proofs.YtiaepldmgighbaaGreatDoor.SortL
variable {α : Type}
structure Swo (lt : α → α → Bool) : Prop where
 asymm : ∀ a b,lt a b = true → lt b a = false
 neg : ∀ a b c,lt a c = true → lt a b = true ∨ lt b c = true
theorem Swo.le_trans {lt : α → α → Bool} (h : Swo lt) {a b c : α} (h1 : lt b a = false) (h2 : lt c b = false) : lt c a = false:=by
 cases hq : lt c a with
 | false => rfl
 | true => rcases h.neg c b a hq with q | q
           ·rw [q] at h2;cases h2
           ·rw [q] at h1;cases h1
theorem Swo.lt_le {lt : α → α → Bool} (h : Swo lt) {a b c : α} (h1 : lt a b = true) (h2 : lt c b = false) : lt a c = true:=by
 rcases h.neg a c b h1 with q | q
 ·exact q
 ·rw [q] at h2;cases h2
theorem Swo.le_lt {lt : α → α → Bool} (h : Swo lt) {a b c : α} (h1 : lt b a = false) (h2 : lt b c = true) : lt a c = true:=by
 rcases h.neg b a c h2 with q | q
 ·rw [q] at h1;cases h1
 ·exact q
abbrev Sorted (lt : α → α → Bool) (l : List α) : Prop:=l.Pairwise fun x y => lt y x = false
theorem sorted_append {lt : α → α → Bool} {u v : List α} : Sorted lt (u ++ v) ↔ Sorted lt u ∧ Sorted lt v ∧ ∀ x ∈ u,∀ y ∈ v,lt y x = false:=List.pairwise_append
theorem ins_done {lt : α → α → Bool} (h : Swo lt) {s1 s2 : List α} {v : α} (hs : Sorted lt (s1 ++ s2)) (h2 : ∀ y ∈ s2,lt v y = true) (h1 : ∀ s t,s1 = s ++ [t] → lt v t = false) : Sorted lt (s1 ++ v :: s2):=by
 obtain ⟨p1,p2,p3⟩:=sorted_append.1 hs
 have hle : ∀ x ∈ s1,lt v x = false:=fun x hx => by
  rcases List.eq_nil_or_concat s1 with rfl | ⟨s,t,e⟩
  ·cases hx
  ·rw [List.concat_eq_append] at e
   subst e
   have ht:=h1 s t rfl
   rcases List.mem_append.1 hx with hx | hx
   ·exact h.le_trans ((List.pairwise_append.1 p1).2.2 x hx t (by simp)) ht
   ·simp at hx;subst hx;exact ht
 refine sorted_append.2 ⟨p1,List.pairwise_cons.2 ⟨fun y hy => h.asymm _ _ (h2 y hy),p2⟩,fun x hx y hy => ?_⟩
 rcases List.mem_cons.1 hy with rfl | hy
 ·exact hle x hx
 ·exact p3 x hx y hy
theorem ins_left {lt : α → α → Bool} (h : Swo lt) {v1 v2 : List α} {x : α} (hs : Sorted lt (v1 ++ v2)) (h1 : ∀ y ∈ v1,lt y x = true) (h2 : ∀ y ∈ v2,lt y x = false) : Sorted lt (v1 ++ x :: v2):=by
 obtain ⟨p1,p2,p3⟩:=sorted_append.1 hs
 refine sorted_append.2 ⟨p1,List.pairwise_cons.2 ⟨h2,p2⟩,fun y hy z hz => ?_⟩
 rcases List.mem_cons.1 hz with rfl | hz
 ·exact h.asymm _ _ (h1 y hy)
 ·exact p3 y hy z hz
theorem ins_right {lt : α → α → Bool} (h : Swo lt) {u1 u2 : List α} {y : α} (hs : Sorted lt (u1 ++ u2)) (h1 : ∀ x ∈ u1,lt y x = false) (h2 : ∀ x ∈ u2,lt y x = true) : Sorted lt (u1 ++ y :: u2):=by
 obtain ⟨p1,p2,p3⟩:=sorted_append.1 hs
 refine sorted_append.2 ⟨p1,List.pairwise_cons.2 ⟨fun z hz => h.asymm _ _ (h2 z hz),p2⟩,fun x hx z hz => ?_⟩
 rcases List.mem_cons.1 hz with rfl | hz
 ·exact h1 x hx
 ·exact p3 x hx z hz
theorem jjC {lt : α → α → Bool} {l : List α} (h : Sorted lt l) {i j : Nat} {x y : α} (hij : i < j) (hx : l[i]? = some x) (hy : l[j]? = some y) : lt y x = false:=by
 obtain ⟨hi,rfl⟩:=List.getElem?_eq_some_iff.1 hx
 obtain ⟨hj,rfl⟩:=List.getElem?_eq_some_iff.1 hy
 exact List.pairwise_iff_getElem.1 h i j hi hj hij
theorem sorted_le {lt : α → α → Bool} (ho : Swo lt) {l : List α} (h : Sorted lt l) {i j : Nat} {x y : α} (hij : i ≤ j) (hx : l[i]? = some x) (hy : l[j]? = some y) : lt y x = false:=by
 rcases Nat.lt_or_ge i j with q | q
 ·exact jjC h q hx hy
 ·have : i = j:=by omega
  subst this
  rw [hx] at hy
  cases hy
  cases hq : lt x x with
  | false => rfl
  | true => have:=ho.asymm _ _ hq;rw [hq] at this;cases this
theorem glue {lt : α → α → Bool} {u1 u2 v1 v2 z1 z2 : List α} (ho : Swo lt) (hu : Sorted lt (u1 ++ u2)) (hv : Sorted lt (v1 ++ v2)) (h1 : Sorted lt z1) (h2 : Sorted lt z2) (p1 : z1.Perm (u1 ++ v1)) (p2 : z2.Perm (u2 ++ v2))
  (hc : ∀ x ∈ u1,∀ y ∈ v2,lt y x = false) (hd : ∀ y ∈ v1,∀ x ∈ u2,lt y x = true) : Sorted lt (z1 ++ z2):=by
 refine sorted_append.2 ⟨h1,h2,fun x hx y hy => ?_⟩
 rcases List.mem_append.1 (p1.mem_iff.1 hx) with hx | hx <;> rcases List.mem_append.1 (p2.mem_iff.1 hy) with hy | hy
 ·exact (sorted_append.1 hu).2.2 x hx y hy
 ·exact hc x hx y hy
 ·exact ho.asymm _ _ (hd x hx y hy)
 ·exact (sorted_append.1 hv).2.2 x hx y hy
theorem set_far {a m c : List α} {x y : α} : ((a ++ x :: (m ++ y :: c)).set a.length y).set (a.length + 1 + m.length) x = a ++ y :: (m ++ x :: c):=by
 rw [List.set_append_right _ _ (Nat.le_refl _),Nat.sub_self,List.set_cons_zero,List.set_append_right _ _ (by omega)]
 have e : a.length + 1 + m.length - a.length = m.length + 1:=by omega
 rw [e,List.set_cons_succ,List.set_append_right _ _ (Nat.le_refl _),Nat.sub_self,List.set_cons_zero]
theorem set_far' {a m c : List α} {x y : α} : ((a ++ x :: (m ++ y :: c)).set (a.length + 1 + m.length) x).set a.length y = a ++ y :: (m ++ x :: c):=by
 rw [List.set_comm _ _ (by omega)]
 exact set_far
def Blocks (s : Nat) : List (List α) → Prop
 | [] => True
 | b :: r => 0 < b.length ∧ b.length ≤ s ∧ (r ≠ [] → b.length = s) ∧ Blocks s r
theorem blocks_one {s : Nat} {bs : List (List α)} (h : Blocks s bs) (hl : bs.flatten.length ≤ s) : bs = [] ∨ ∃ b,bs = [b]:=by
 match bs,h with
 | [],_ => exact .inl rfl
 | [b],_ => exact .inr ⟨b,rfl⟩
 | b :: c :: r,h =>
   exfalso
   have h1:=h.2.2.1 (by simp)
   have h2:=h.2.2.2.1
   simp at hl
   omega
theorem blocks_snoc {s : Nat} {b : List α} (hb : 0 < b.length) (hs : b.length ≤ s) : ∀ {bs : List (List α)},(∀ x ∈ bs,x.length = s) → Blocks s (bs ++ [b])
 | [],_ => ⟨hb,hs,fun h => (h rfl).elim,trivial⟩
 | x :: bs,h => ⟨by have:=h x (by simp);omega,by have:=h x (by simp);omega,fun _ => h x (by simp),blocks_snoc hb hs fun y hy => h y (by simp [hy])⟩
theorem blocks_full {s : Nat} (hs : 0 < s) : ∀ {bs : List (List α)},(∀ x ∈ bs,x.length = s) → Blocks s bs
 | [],_ => trivial
 | x :: bs,h => ⟨by have:=h x (by simp);omega,by have:=h x (by simp);omega,fun _ => h x (by simp),blocks_full hs fun y hy => h y (by simp [hy])⟩
theorem blocks_two {s : Nat} {bs : List (List α)} (h : Blocks s bs) (hl : 2 * s ≤ bs.flatten.length) (hs : 0 < s) : ∃ b c r,bs = b :: c :: r ∧ b.length = s ∧ c.length = s ∧ Blocks s r:=by
 match bs,h with
 | [],_ => simp at hl;omega
 | [b],h =>
   have:=h.2.1
   simp at hl
   omega
 | b :: c :: r,h =>
   refine ⟨b,c,r,rfl,h.2.2.1 (by simp),?_,h.2.2.2.2.2.2⟩
   rcases r with _ | ⟨d,r⟩
   ·have h1:=h.2.1
    have h2:=h.2.2.2.2.1
    simp at hl
    omega
   ·exact h.2.2.2.2.2.1 (by simp)
theorem blocks_less {s : Nat} {bs : List (List α)} (h : Blocks s bs) (hl : bs.flatten.length < 2 * s) : bs = [] ∨ (∃ b,bs = [b] ∧ 0 < b.length ∧ b.length ≤ s) ∨ ∃ b c,bs = [b,c] ∧ b.length = s ∧ 0 < c.length ∧ c.length < s:=by
 match bs,h with
 | [],_ => exact .inl rfl
 | [b],h => exact .inr (.inl ⟨b,rfl,h.1,h.2.1⟩)
 | [b,c],h =>
   have h1:=h.2.2.1 (by simp)
   have h2:=h.2.2.2.1
   have h3:=h.2.2.2.2.1
   simp at hl
   exact .inr (.inr ⟨b,c,rfl,h1,h2,by omega⟩)
 | b :: c :: d :: r,h =>
   exfalso
   have h1:=h.2.2.1 (by simp)
   have h2:=h.2.2.2.2.2.1 (by simp)
   simp at hl
   omega
def keepL (eq : α → α → Bool) (prev : α) : List α → List α
 | [] => []
 | x :: r => if eq x prev = true then keepL eq x r else x :: keepL eq x r
def compactL (eq : α → α → Bool) : List α → List α
 | [] => []
 | x :: r => x :: keepL eq x r
theorem jeZ {eq : α → α → Bool} : ∀ {l : List α} {p x : α},x ∈ keepL eq p l → x ∈ l
 | [],_,_,h => by cases h
 | y :: r,p,x,h => by
   rw [keepL] at h
   split at h
   ·exact List.mem_cons_of_mem _ (jeZ h)
   ·rcases List.mem_cons.1 h with rfl | h
    ·simp
    ·exact List.mem_cons_of_mem _ (jeZ h)
theorem compactL_mem {eq : α → α → Bool} {l : List α} {x : α} (h : x ∈ compactL eq l) : x ∈ l:=by
 cases l with
 | nil => cases h
 | cons y r =>
   rcases List.mem_cons.1 h with rfl | h
   ·simp
   ·exact List.mem_cons_of_mem _ (jeZ h)
section
structure Tot {β : Type} (lt : β → β → Bool) : Prop extends Swo lt where
 tri : ∀ a b,lt a b = false → lt b a = false → a = b
variable {β : Type} [DecidableEq β] {key : α → β} {lt : β → β → Bool}
theorem je7 (ho : Tot lt) : ∀ {l : List α} {p : α},Sorted (fun x y => lt (key x) (key y)) (p :: l) → (keepL (fun x y => decide (key x = key y)) p l).Pairwise (fun x y => lt (key x) (key y) = true) ∧ (∀ x ∈ keepL (fun x y => decide (key x = key y)) p l,lt (key p) (key x) = true) ∧ ∀ x ∈ l,key x = key p ∨ ∃ y ∈ keepL (fun x y => decide (key x = key y)) p l,key y = key x
 | [],p,_ => by simp [keepL]
 | y :: r,p,h => by
   obtain ⟨h1,h2⟩:=List.pairwise_cons.1 h
   obtain ⟨i1,i2,i3⟩:=je7 ho (l:=r) (p:=y) h2
   rw [keepL]
   by_cases he : key y = key p
   ·rw [if_pos (by simp [he])]
    refine ⟨i1,fun x hx => by rw [← he];exact i2 x hx,fun x hx => ?_⟩
    rcases List.mem_cons.1 hx with rfl | hx
    ·exact .inl he
    ·rcases i3 x hx with q | q
     ·exact .inl (q.trans he)
     ·exact .inr q
   ·rw [if_neg (by simp [he])]
    have hpy : lt (key p) (key y) = true:=by
     cases hq : lt (key p) (key y) with
     | true => rfl
     | false => exact (he (ho.tri _ _ (h1 y (by simp)) hq)).elim
    refine ⟨List.pairwise_cons.2 ⟨i2,i1⟩,fun x hx => ?_,fun x hx => ?_⟩
    ·rcases List.mem_cons.1 hx with rfl | hx
     ·exact hpy
     ·exact ho.lt_le hpy (by have:=i2 x hx;exact ho.asymm _ _ this)
    ·rcases List.mem_cons.1 hx with rfl | hx
     ·exact .inr ⟨_,by simp,rfl⟩
     ·rcases i3 x hx with q | ⟨z,hz,q⟩
      ·exact .inr ⟨y,by simp,q.symm⟩
      ·exact .inr ⟨z,by simp [hz],q⟩
theorem compactL_strict (ho : Tot lt) {l : List α} (h : Sorted (fun x y => lt (key x) (key y)) l) : (compactL (fun x y => decide (key x = key y)) l).Pairwise (fun x y => lt (key x) (key y) = true) ∧ ∀ x ∈ l,∃ y ∈ compactL (fun x y => decide (key x = key y)) l,key y = key x:=by
 cases l with
 | nil => simp [compactL]
 | cons p r =>
   obtain ⟨i1,i2,i3⟩:=je7 ho h
   refine ⟨List.pairwise_cons.2 ⟨i2,i1⟩,fun x hx => ?_⟩
   rcases List.mem_cons.1 hx with rfl | hx
   ·exact ⟨_,by simp [compactL],rfl⟩
   ·rcases i3 x hx with q | ⟨z,hz,q⟩
    ·exact ⟨p,by simp [compactL],q.symm⟩
    ·exact ⟨z,by simp [compactL,hz],q⟩
end
section
variable {β : Type} {lt : β → β → Bool}
theorem lt_irrefl (ho : Tot lt) (a : β) : lt a a = false:=by
 cases hq : lt a a with
 | false => rfl
 | true => have:=ho.asymm _ _ hq;rw [hq] at this;cases this
end
end Go.Proofs.YtiaepldmgighbaaGreatDoor.SortL
namespace Go.Proofs.YtiaepldmgighbaaGreatDoor
def BytesAt (w : World) (sa : Option Addr) (l : List UInt8) : Prop:=l.length ≤ 1000000000 ∧ ∀ k,k < l.length → ∃ b off,sa = some ⟨b,off,none⟩ ∧ w.cell? ⟨b,off + k,none⟩ = some (.int .u8 ((l.getD k 0).toNat : Int))
theorem jaj {w : World} {b o : Nat} {v : Value} (h : w.cell? ⟨b,o,none⟩ = some v) : b < w.heap.size:=by
 rcases Nat.lt_or_ge b w.heap.size with h' | h'
 ·exact h'
 ·simp [World.cell?,Array.getElem?_eq_none h'] at h
theorem BytesAt.up {w w' : World} {sa : Option Addr} {l : List UInt8} (h : BytesAt w sa l) (k : Up w w') : BytesAt w' sa l :=
 ⟨h.1,fun i hi => by
  obtain ⟨b,off,h1,h2⟩:=h.2 i hi
  exact ⟨b,off,h1,(k.cells b _ (jaj h2)).trans h2⟩⟩
theorem BytesAt.byte {w : World} {sa : Option Addr} {l : List UInt8} (h : BytesAt w sa l) (k : Nat) (hk : k < l.length) : ∃ (b off : Nat) (X : Int),sa = some ⟨b,off,none⟩ ∧ w.cell? ⟨b,off + k,none⟩ = some (.int .u8 X) ∧ X = ((l.getD k 0).toNat : Int) ∧ 0 ≤ X ∧ X ≤ 255:=by
 obtain ⟨b,off,h1,h2⟩:=h.2 k hk
 exact ⟨b,off,_,h1,h2,rfl,by omega,by have:=(l.getD k 0).toNat_lt;omega⟩
def runS : Nat → Nat → List UInt8 → Option Nat
 | v,0,_ => some v
 | _,_ + 1,[] => none
 | v,k + 1,a :: r => if 128 ≤ a.toNat ∧ a.toNat ≤ 191 then runS (v * 64 + (a.toNat - 128)) k r else none
def badS : Nat × Nat:=(65533,1)
def jby (x : Nat) : Nat × Nat × Nat :=
 if x < 128 then (1,x,0)
 else if 192 ≤ x ∧ x ≤ 223 then (2,x - 192,128)
 else if 224 ≤ x ∧ x ≤ 239 then (3,x - 224,2048)
 else if 240 ≤ x ∧ x ≤ 247 then (4,x - 240,65536)
 else (0,0,0)
def decS : List UInt8 → Nat × Nat
 | [] => (0,0)
 | x :: r =>
   let q:=jby x.toNat
   if q.1 = 0 then badS
   else match runS q.2.1 (q.1 - 1) r with
    | none => badS
    | some v => if v < q.2.2 ∨ 1114111 < v ∨ (55296 ≤ v ∧ v ≤ 57343) then badS else (v,q.1)
theorem jlZ (x : Nat) : (jby x).1 ≤ 4:=by unfold jby;repeat' split
                                          all_goals simp
theorem jkN (k : Nat) : ∀ (v m : Nat) (l : List UInt8),k ≤ m → runS v k (l.take m) = runS v k l:=by
 induction k with
 | zero => intro v m l _;cases l <;> simp [runS]
 | succ k ih =>
   intro v m l h
   cases l with
   | nil => simp
   | cons a r =>
     obtain ⟨m',rfl⟩ : ∃ m',m = m' + 1:=⟨m - 1,by omega⟩
     simp only [List.take_succ_cons,runS]
     rw [ih _ m' r (by omega)]
theorem jhC (l : List UInt8) : decS (l.take 4) = decS l:=by
 cases l with
 | nil => rfl
 | cons x r =>
   rw [List.take_succ_cons]
   unfold decS
   dsimp only
   rw [jkN _ _ 3 r (by have:=jlZ x.toNat;omega)]
theorem jhD (x : UInt8) (r : List UInt8) : 1 ≤ (decS (x :: r)).2 ∧ (decS (x :: r)).2 ≤ (x :: r).length:=by
 have hr : ∀ (k v u : Nat) (l : List UInt8),runS v k l = some u → k ≤ l.length:=by
  intro k
  induction k with
  | zero => intros;omega
  | succ k ih =>
    intro v u l h
    cases l with
    | nil => simp [runS] at h
    | cons a t =>
      simp only [runS] at h
      split at h
      ·have:=ih _ _ _ h;simp;omega
      ·cases h
 unfold decS
 dsimp only
 split
 ·simp [badS]
 ·next hq =>
  split
  ·simp [badS]
  ·next v hv =>
   have h1:=hr _ _ _ _ hv
   split
   ·simp [badS]
   ·simp only [List.length_cons];omega
def jfa (n ls : Nat) : Option Nat → Nat × Nat
 | none => badS
 | some v => if v < ls ∨ 1114111 < v ∨ (55296 ≤ v ∧ v ≤ 57343) then badS else (v,n)
theorem jc3 (l : List UInt8) (a n v ls : Nat) (h : a < l.length) (hw : jby (l.getD a 0).toNat = (n,v,ls)) (hn : n ≠ 0) : decS (l.drop a) = jfa n ls (runS v (n - 1) (l.drop (a + 1))):=by
 have e : l.drop a = l.getD a 0 :: l.drop (a + 1):=by rw [List.drop_eq_getElem_cons h];simp [List.getD,List.getElem?_eq_getElem h]
 rw [e]
 unfold decS
 dsimp only
 rw [hw]
 dsimp only
 rw [if_neg hn]
 rfl
theorem jf9 (l : List UInt8) (a v ls : Nat) (h : a < l.length) (hw : jby (l.getD a 0).toNat = (0,v,ls)) : decS (l.drop a) = badS:=by
 have e : l.drop a = l.getD a 0 :: l.drop (a + 1):=by rw [List.drop_eq_getElem_cons h];simp [List.getD,List.getElem?_eq_getElem h]
 rw [e]
 unfold decS
 dsimp only
 rw [hw]
 rfl
theorem jct (v m k : Nat) (l : List UInt8) (h : k < l.length) (h1 : 128 ≤ (l.getD k 0).toNat) (h2 : (l.getD k 0).toNat ≤ 191) : runS v (m + 1) (l.drop k) = runS (v * 64 + ((l.getD k 0).toNat - 128)) m (l.drop (k + 1)):=by
 have e : l.drop k = l.getD k 0 :: l.drop (k + 1):=by rw [List.drop_eq_getElem_cons h];simp [List.getD,List.getElem?_eq_getElem h]
 rw [e]
 simp only [runS]
 rw [if_pos ⟨h1,h2⟩]
theorem jcs (v m k : Nat) (l : List UInt8) (h : ¬ (k < l.length ∧ 128 ≤ (l.getD k 0).toNat ∧ (l.getD k 0).toNat ≤ 191)) : runS v (m + 1) (l.drop k) = none:=by
 by_cases hk : k < l.length
 ·have e : l.drop k = l.getD k 0 :: l.drop (k + 1):=by rw [List.drop_eq_getElem_cons hk];simp [List.getD,List.getElem?_eq_getElem hk]
  rw [e]
  simp only [runS]
  rw [if_neg (fun h' => h ⟨hk,h'⟩)]
 ·rw [List.drop_eq_nil_iff.2 (by omega)]
  rfl
def jbw : Nat → Nat → List UInt8 → List (Nat × Nat)
 | 0,_,_ => []
 | _ + 1,_,[] => []
 | f + 1,at_,x :: r => (at_,(decS (x :: r)).1) :: jbw f (at_ + (decS (x :: r)).2) ((x :: r).drop (decS (x :: r)).2)
def jaz (l : List UInt8) : List (Nat × Nat):=jbw l.length 0 l
theorem jgf : ∀ (f g a : Nat) (l : List UInt8),l.length ≤ f → l.length ≤ g → jbw f a l = jbw g a l:=by
 intro f
 induction f with
 | zero =>
   intro g a l h1 _
   obtain rfl : l = []:=List.eq_nil_of_length_eq_zero (by omega)
   cases g <;> rfl
 | succ f ih =>
   intro g a l h1 h2
   cases l with
   | nil => cases g <;> rfl
   | cons x r =>
     obtain ⟨g',rfl⟩ : ∃ g',g = g' + 1:=⟨g - 1,by simp at h2;omega⟩
     have hs:=jhD x r
     simp only [jbw]
     rw [ih g' _ _ (by rw [List.length_drop];simp at h1 hs ⊢; omega) (by rw [List.length_drop];simp at h2 hs ⊢; omega)]
def jdm (l : List UInt8) (a : Nat) : List (Nat × Nat):=jbw l.length a (l.drop a)
theorem jen (l : List UInt8) (a : Nat) (h : a < l.length) : jdm l a = (a,(decS (l.drop a)).1) :: jdm l (a + (decS (l.drop a)).2) ∧ 1 ≤ (decS (l.drop a)).2 ∧ a + (decS (l.drop a)).2 ≤ l.length:=by
 obtain ⟨x,r,e⟩ : ∃ x r,l.drop a = x :: r:=by
  cases hd : l.drop a with
  | nil => rw [List.drop_eq_nil_iff] at hd;omega
  | cons x r => exact ⟨x,r,rfl⟩
 have hl : (l.drop a).length = l.length - a:=List.length_drop
 have hs:=jhD x r
 rw [e] at hl
 obtain ⟨f,hf⟩ : ∃ f,l.length = f + 1:=⟨l.length - 1,by omega⟩
 refine ⟨?_,by rw [e];exact hs.1,by rw [e];omega⟩
 unfold jdm
 rw [e,hf]
 simp only [jbw]
 congr 1
 rw [← List.drop_drop,e]
 exact jgf _ _ _ _ (by rw [List.length_drop];omega) (by rw [List.length_drop];omega)
theorem jeG (l : List UInt8) (a : Nat) (h : l.length ≤ a) : jdm l a = []:=by
 unfold jdm
 rw [List.drop_eq_nil_iff.2 h]
 cases l.length <;> rfl
open Go.RowKit
def hexS (u : Nat) : ByteArray:=if u = 0 then ⟨#[48]⟩ else if u = 1 then ⟨#[49]⟩ else if u = 2 then ⟨#[50]⟩ else if u = 3 then ⟨#[51]⟩ else if u = 4 then ⟨#[52]⟩ else if u = 5 then ⟨#[53]⟩ else if u = 6 then ⟨#[54]⟩ else if u = 7 then ⟨#[55]⟩ else if u = 8 then ⟨#[56]⟩ else if u = 9 then ⟨#[57]⟩ else if u = 10 then ⟨#[97]⟩ else if u = 11 then ⟨#[98]⟩ else if u = 12 then ⟨#[99]⟩ else if u = 13 then ⟨#[100]⟩ else if u = 14 then ⟨#[101]⟩ else if u = 15 then ⟨#[102]⟩ else if u = 16 then ⟨#[49,48]⟩ else if u = 17 then ⟨#[49,49]⟩ else if u = 18 then ⟨#[49,50]⟩ else if u = 19 then ⟨#[49,51]⟩ else if u = 20 then ⟨#[49,52]⟩ else if u = 21 then ⟨#[49,53]⟩ else if u = 22 then ⟨#[49,54]⟩ else if u = 23 then ⟨#[49,55]⟩ else if u = 24 then ⟨#[49,56]⟩ else if u = 25 then ⟨#[49,57]⟩ else if u = 26 then ⟨#[49,97]⟩ else if u = 27 then ⟨#[49,98]⟩ else if u = 28 then ⟨#[49,99]⟩ else if u = 29 then ⟨#[49,100]⟩ else if u = 30 then ⟨#[49,101]⟩ else if u = 31 then ⟨#[49,102]⟩ else if u = 127 then ⟨#[55,102]⟩ else ⟨#[]⟩
def jac (r : Nat) : ByteArray :=
 if r = 92 ∨ r = 34 then ⟨#[92]⟩ ++ Utf8.encode r
 else if r = 10 then ⟨#[92,110]⟩
 else if r = 13 then ⟨#[92,114]⟩
 else if r = 9 then ⟨#[92,116]⟩
 else if r < 32 ∨ r = 127 then ⟨#[92,117,123]⟩ ++ hexS r ++ ⟨#[125]⟩
 else Utf8.encode r
def jaH (acc : ByteArray) (l : List (Nat × Nat)) : ByteArray:=l.foldl (fun a x => a ++ jac x.2) acc
def jbJ (s : ByteArray) : ByteArray:=jaH ⟨#[34]⟩ (jaz s.data.toList) ++ ⟨#[34]⟩
end Go.Proofs.YtiaepldmgighbaaGreatDoor
