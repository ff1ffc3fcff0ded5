import Derived.Laws.StructEq
import Derived.Test.YtiaepldmgighbaaGreatDoorU01
namespace Go.Proofs.YtiaepldmgighbaaGreatDoor
open Go.RowKit
set_option linter.unusedSimpArgs false
abbrev jbA : TypeId:=95
abbrev MpT : TypeId:=88
abbrev IntT : TypeId:=3
abbrev jjR (i j : Nat) : Value := .agg #[.int .i64 i, .int .i64 j]
theorem ji7 (a b c d : Nat) (w : World) : (Op.equal jbA (jjR a b) (jjR c d)).run Tryz.prog w = .ok (decide (a = c ∧ b = d)) w:=by
 have hS : Tryz.prog.underlying jbA = some (.struct (Tryz.prog.fieldsOf jbA)):=by kernel_rfl
 show (Op.equalIn (9999 + 1) jbA (jjR a b) (jjR c d)).run Tryz.prog w = _
 rw [run_equalIn_struct w 9999 jbA _ _ hS (by kernel_rfl)]
 have hF : (Tryz.prog.fieldsOf jbA).toList = (Tryz.prog.fieldsOf jbA).toList:=rfl
 simp only [Program.fieldsOf,Tryz.underlying95]
 have u3:=Tryz.underlying3
 go_simp
 by_cases h1 : a = c <;> by_cases h2 : b = d <;> simp [h1,h2] <;> omega
theorem jcQ (e : Bool) (a b : Nat) (w : World) : (Instr.checkKey e 10000 jbA (jjR a b)).run Tryz.prog w = .ok () w:=by
 cases e <;> kernel_rfl
abbrev jaZ (p : Nat × Nat) : Value:=jjR p.1 p.2
theorem jjQ (p : Nat × Nat) (w : World) : (Instr.keyThatStays (jaZ p) (jaZ p)).run Tryz.prog w = .ok (jaZ p) w:=by
 have h : Instr.sameBits 10000 (jaZ p) (jaZ p) = true:=by simp [Instr.sameBits]
 simp [Instr.keyThatStays,h]
variable {α : Type}
theorem jci {f : α → Value} (k : Nat × Nat) (w : World) : ∀ (es : List MapEntry) (l : List ((Nat × Nat) × α)) (i : Nat),es.map (fun e => (e.key,e.val)) = l.map (fun x => (jaZ x.1,f x.2)) → (∀ x ∈ l,x.1 ≠ k) → (Instr.findAsking jbA (jaZ k) es i).run Tryz.prog w = .ok none w
 | [],[],_,_,_ => by simp [Instr.findAsking]
 | [],_ :: _,_,h,_ => by simp at h
 | _ :: _,[],_,h,_ => by simp at h
 | e :: es,x :: l,i,h,hm => by
   simp only [List.map_cons,List.cons.injEq,Prod.mk.injEq] at h
   have hx:=hm x (by simp)
   have hd : decide (k.1 = x.1.1 ∧ k.2 = x.1.2) = false:=by
    rw [decide_eq_false_iff_not]
    rintro ⟨h1,h2⟩
    exact hx (Prod.ext h1.symm h2.symm)
   have ih:=jci k w es l (i + 1) h.2 (fun y hy => hm y (by simp [hy]))
   simp only [Instr.findAsking,Sem.run_bind]
   rw [h.1.1,ji7,hd]
   simpa [Result.andThen] using ih
theorem jcx {f : α → Value} (k : Nat × Nat) (v : α) (w : World) : ∀ (es : List MapEntry) (l : List ((Nat × Nat) × α)) (i j : Nat),es.map (fun e => (e.key,e.val)) = l.map (fun x => (jaZ x.1,f x.2)) → l[j]? = some (k,v) → (l.map (·.1)).Nodup → (Instr.findAsking jbA (jaZ k) es i).run Tryz.prog w = .ok (some (i + j,f v)) w
 | [],[],_,_,_,hj,_ => by simp at hj
 | [],_ :: _,_,_,h,_,_ => by simp at h
 | _ :: _,[],_,_,h,_,_ => by simp at h
 | e :: es,x :: l,i,0,h,hj,hn => by
   simp only [List.map_cons,List.cons.injEq,Prod.mk.injEq] at h
   simp only [gQz,Option.some.injEq] at hj
   subst hj
   simp only [Instr.findAsking,Sem.run_bind]
   rw [h.1.1,ji7]
   simp [Result.andThen,h.1.2]
 | e :: es,x :: l,i,j + 1,h,hj,hn => by
   simp only [List.map_cons,List.cons.injEq,Prod.mk.injEq] at h
   simp only [gQs] at hj
   simp only [List.map_cons,List.nodup_cons] at hn
   have hx : x.1 ≠ k:=fun e => hn.1 (by rw [e];exact List.mem_map.2 ⟨_,List.mem_of_getElem? hj,rfl⟩)
   have hd : decide (k.1 = x.1.1 ∧ k.2 = x.1.2) = false:=by
    rw [decide_eq_false_iff_not]
    rintro ⟨h1,h2⟩
    exact hx (Prod.ext h1.symm h2.symm)
   have ih:=jcx k v w es l (i + 1) j h.2 hj hn.2
   simp only [Instr.findAsking,Sem.run_bind]
   rw [h.1.1,ji7,hd]
   have e9 : i + 1 + j = i + (j + 1):=by omega
   rw [e9] at ih
   simpa [Result.andThen] using ih
theorem jiM (k : Nat × Nat) : ∀ (es : List MapEntry) (l : List ((Nat × Nat) × α)) (f : α → Value),es.map (fun e => (e.key,e.val)) = l.map (fun x => (jaZ x.1,f x.2)) → ∀ d,Tryz.prog.underlying jbA = some d → Instr.findNow d (jaZ k) es 0 = if l = [] then some none else none
 | [],[],_,_,_,_ => rfl
 | [],_ :: _,_,h,_,_ => by simp at h
 | _ :: _,[],_,h,_,_ => by simp at h
 | e :: es,x :: l,f,h,d,hd => by
   rw [Tryz.underlying95] at hd
   cases hd
   simp [Instr.findNow,Instr.sameNow]
theorem jdp {f : α → Value} {es : Array MapEntry} {l : List ((Nat × Nat) × α)} (h : Entries es jaZ f l) (k : Nat × Nat) (hm : ∀ x ∈ l,x.1 ≠ k) (w : World) : (Instr.findKey jbA (jaZ k) es.toList).run Tryz.prog w = .ok none w:=by
 have h1:=jiM k es.toList l f h _ Tryz.underlying95
 have h2:=jci k w es.toList l 0 h hm
 simp only [Instr.findKey,Sem.run_bind,run_underlying Tryz.underlying95,Result.andThen_ok,h1]
 by_cases hl : l = []
 ·simp [hl]
 ·simpa [hl] using h2
theorem je5 {f : α → Value} {es : Array MapEntry} {l : List ((Nat × Nat) × α)} (h : Entries es jaZ f l) (k : Nat × Nat) (v : α) (j : Nat) (hj : l[j]? = some (k,v)) (hn : (l.map (·.1)).Nodup) (w : World) : (Instr.findKey jbA (jaZ k) es.toList).run Tryz.prog w = .ok (some (j,f v)) w:=by
 have h1:=jiM k es.toList l f h _ Tryz.underlying95
 have h2:=jcx k v w es.toList l 0 j h hj hn
 have hl : l ≠ []:=fun e => by rw [e] at hj;simp at hj
 simp only [Instr.findKey,Sem.run_bind,run_underlying Tryz.underlying95,Result.andThen_ok,h1]
 simpa [hl] using h2
theorem jeN {f : α → Value} {w : World} {g clk : Nat} {es : Array MapEntry} {l : List ((Nat × Nat) × α)} (hb : w.heap[g]? = some (.map es clk)) (h : Entries es jaZ f l) (k : Nat × Nat) (x : α) (hm : ∀ x ∈ l,x.1 ≠ k) :
  ∃ es' clk',(Instr.mapUpdate MpT (.map (some g)) (jaZ k) (f x)).run Tryz.prog w = .ok () (putB w g (.map es' clk')) ∧ Entries es' jaZ f (l ++ [(k,x)]):=by
 refine ⟨es.push { key:=jaZ k,val:=f x,born:=clk },clk + 1,?_,?_⟩
 ·simp [Instr.mapUpdate,run_underlying Tryz.underlying88,MapKept.run_getObj_map hb,jcQ,jdp h k hm,MapKept.run_setObj_map _ hb,Result.andThen,putB]
 ·unfold Entries at *
  simp [h]
theorem jfq {f : α → Value} {w : World} {g clk : Nat} {es : Array MapEntry} {l : List ((Nat × Nat) × α)} (hb : w.heap[g]? = some (.map es clk)) (h : Entries es jaZ f l) (k : Nat × Nat) (x y : α) (j : Nat) (hj : l[j]? = some (k,y)) (hn : (l.map (·.1)).Nodup) :
  ∃ es' clk',(Instr.mapUpdate MpT (.map (some g)) (jaZ k) (f x)).run Tryz.prog w = .ok () (putB w g (.map es' clk')) ∧ Entries es' jaZ f (l.set j (k,x)):=by
 have hlen:=h.len
 have hlt : j < es.toList.length:=by
  have:=(List.getElem?_eq_some_iff.1 hj).1
  simp only [Array.length_toList]
  omega
 have he : es[j]? = some es.toList[j]:=by rw [← Array.getElem?_toList];exact List.getElem?_eq_getElem hlt
 obtain ⟨y',hy',hk',_⟩:=h.nth j _ (List.getElem?_eq_getElem hlt)
 rw [hj] at hy'
 cases hy'
 refine ⟨es.modify j fun e => { e with key:=jaZ k,val:=f x },clk,?_,?_⟩
 ·simp only [Instr.mapUpdate,Sem.run_bind,run_underlying Tryz.underlying88,Result.andThen_ok,MapKept.run_getObj_map hb,jcQ,je5 h k y j hj hn,he,Option.map_some,Option.getD_some,hk',jjQ]
  simp [MapKept.run_setObj_map _ hb,putB]
 ·unfold Entries at *
  apply List.ext_getElem?
  intro i
  have h1 : (es.toList.map (fun e => (e.key,e.val)))[i]? = (l.map (fun x => (jaZ x.1,f x.2)))[i]? := by rw [h]
  simp only [List.getElem?_map,Array.toList_modify,List.getElem?_modify,List.getElem?_set] at h1 ⊢
  by_cases hij : j = i
  ·subst hij
   have hl : j < l.length:=(List.getElem?_eq_some_iff.1 hj).1
   simp [hl,List.getElem?_eq_getElem hlt]
  ·simp [hij]
   simpa using h1
theorem jgh {f : α → Value} {w : World} {g clk : Nat} {es : Array MapEntry} {l : List ((Nat × Nat) × α)} (hb : w.heap[g]? = some (.map es clk)) (h : Entries es jaZ f l) (k : Nat × Nat) (x : α) (j : Nat) (hj : l[j]? = some (k,x)) (hn : (l.map (·.1)).Nodup) :
  (Instr.lookup MpT (.map (some g)) (jaZ k) true).run Tryz.prog w = .ok (.tuple #[f x, .bool true]) w ∧ (Instr.lookup MpT (.map (some g)) (jaZ k) false).run Tryz.prog w = .ok (f x) w:=by
 constructor <;> simp [Instr.lookup,run_underlying Tryz.underlying88,MapKept.run_getObj_map hb,jcQ,je5 h k x j hj hn,Result.andThen]
theorem jfr {f : α → Value} {w : World} {g clk : Nat} {es : Array MapEntry} {l : List ((Nat × Nat) × α)} (hb : w.heap[g]? = some (.map es clk)) (h : Entries es jaZ f l) (k : Nat × Nat) (hm : ∀ x ∈ l,x.1 ≠ k) :
  (Instr.lookup MpT (.map (some g)) (jaZ k) true).run Tryz.prog w = .ok (.tuple #[.int .i64 0, .bool false]) w ∧ (Instr.lookup MpT (.map (some g)) (jaZ k) false).run Tryz.prog w = .ok (.int .i64 0) w:=by
 have hz : (zeroValue 3).run Tryz.prog w = .ok (.int .i64 0) w:=by kernel_rfl
 constructor <;> simp [Instr.lookup,run_underlying Tryz.underlying88,MapKept.run_getObj_map hb,jcQ,jdp h k hm,hz,Result.andThen]
end Go.Proofs.YtiaepldmgighbaaGreatDoor
