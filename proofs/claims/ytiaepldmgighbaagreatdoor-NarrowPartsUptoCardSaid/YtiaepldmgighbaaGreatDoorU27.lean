import Derived.Test.YtiaepldmgighbaaGreatDoorU26
import Derived.Test.YtiaepldmgighbaaGreatDoorU08
namespace Go.Proofs.YtiaepldmgighbaaGreatDoor
open Go.RowKit
set_option linter.unusedSimpArgs false
set_option linter.unusedVariables false
def memOf (ts : List Ty) (x : Ty) (j : Nat) : Mem:=(x.names.getD j ⟨#[]⟩,(x.parts.map (idOf ts)).getD j 0,x.marks.getD j false)
def jc1 (ts : List Ty) (x : Ty) : List Mem:=(List.range x.parts.length).map (memOf ts x)
structure Rows (ts : List Ty) : Prop where
 nodup : (ts.map Ty.text).Nodup
 valid : ∀ t ∈ ts,t.Valid
 closed : ∀ t ∈ ts,∀ p ∈ t.parts,∃ u ∈ ts,u.text = p.text
def Has (ts : List Ty) (i : Nat) (a : Ty) : Prop := ∃ u,ts[i]? = some u ∧ u.canon = a
theorem Has.one {ts : List Ty} {i : Nat} {a b : Ty} (h : Has ts i a) (k : Has ts i b) : a = b:=by
 obtain ⟨u,h1,rfl⟩:=h
 obtain ⟨v,k1,rfl⟩:=k
 rw [h1] at k1
 cases k1
 rfl
theorem Rows.inj {ts : List Ty} (hr : Rows ts) {i j : Nat} {a : Ty} (h : Has ts i a) (k : Has ts j a) : i = j:=by
 obtain ⟨u,h1,e1⟩:=h
 obtain ⟨v,k1,e2⟩:=k
 have t1 : (ts.map Ty.text)[i]? = some a.text:=by rw [List.getElem?_map,h1, ← e1,Ty.text_canon];rfl
 have t2 : (ts.map Ty.text)[j]? = some a.text:=by rw [List.getElem?_map,k1, ← e2,Ty.text_canon];rfl
 exact (List.getElem?_inj (List.getElem?_eq_some_iff.1 t1).1 hr.nodup).1 (t1.trans t2.symm)
theorem Rows.id {ts : List Ty} (hr : Rows ts) {t p : Ty} (ht : t ∈ ts) (hp : p ∈ t.parts) : Has ts (idOf ts p) p.canon:=by
 have h:=jij (hr.closed t ht p hp)
 rw [List.getElem?_map,Option.map_eq_some_iff] at h
 obtain ⟨u,h1,h2⟩:=h
 exact ⟨u,h1,text_inj (hr.valid u (List.mem_of_getElem? h1)) ((hr.valid t ht).parts p hp) h2⟩
theorem Has.lt {ts : List Ty} {i : Nat} {a : Ty} (h : Has ts i a) : i < ts.length:=by
 obtain ⟨u,h1,_⟩:=h
 exact (List.getElem?_eq_some_iff.1 h1).1
theorem jmK {ts : List Ty} {x : Ty} {i : Nat} (h : i < x.parts.length) : (x.parts.map (idOf ts)).getD i 0 = idOf ts (part x i):=by
 unfold part
 rw [List.getD_eq_getElem?_getD,List.getD_eq_getElem?_getD,List.getElem?_map,List.getElem?_eq_getElem h]
 rfl
theorem jjO {x : Ty} {i : Nat} (h : i < x.parts.length) : part x.canon i = (part x i).canon:=by
 unfold part
 rw [Ty.canon_parts,List.getD_eq_getElem?_getD,List.getD_eq_getElem?_getD,List.getElem?_map,List.getElem?_eq_getElem h]
 rfl
theorem Rows.part {ts : List Ty} (hr : Rows ts) {t : Ty} {i : Nat} (ht : t ∈ ts) (h : i < t.parts.length) : Has ts ((t.parts.map (idOf ts)).getD i 0) (part t.canon i):=by
 rw [jmK h,jjO h]
 exact hr.id ht (jnU h)
theorem getD_some {α : Type} {l : List α} {i : Nat} {d x : α} (h : l[i]? = some x) : l.getD i d = x:=by rw [List.getD_eq_getElem?_getD,h];rfl
end Go.Proofs.YtiaepldmgighbaaGreatDoor
