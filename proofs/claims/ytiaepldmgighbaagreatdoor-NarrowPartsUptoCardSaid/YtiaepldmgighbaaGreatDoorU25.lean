import Derived.Lib.Join
import Derived.Test.YtiaepldmgighbaaGreatDoorU22
namespace Go.Proofs.YtiaepldmgighbaaGreatDoor
open Go.RowKit
set_option linter.unusedSimpArgs false
abbrev Bs:=List UInt8
def tb (s : ByteArray) : Bs:=s.data.toList
theorem jai (a b : ByteArray) : tb (a ++ b) = tb a ++ tb b:=by simp [tb]
theorem jgS {a b : ByteArray} (h : tb a = tb b) : a = b:=by
 cases a;cases b
 simp only [tb] at h
 exact congrArg _ (Array.toList_inj.1 h)
theorem jnH (l : Bs) : tb ⟨l.toArray⟩ = l:=by simp [tb]
def jdN : Bs → Bs × Bs
 | [] => ([],[])
 | [c] => if c = 34 then ([],[]) else ([c],[])
 | c :: d :: r => if c = 34 then ([],d :: r) else if c = 92 then (c :: d :: (jdN r).1,(jdN r).2) else (c :: (jdN (d :: r)).1,(jdN (d :: r)).2)
def Pas (x : Bs) : Prop := ∀ s,s ≠ [] → jdN (x ++ s) = (x ++ (jdN s).1,(jdN s).2)
theorem Pas.nil : Pas []:=fun s _ => by simp
theorem Pas.append {x y : Bs} (hx : Pas x) (hy : Pas y) : Pas (x ++ y):=fun s hs => by
 rw [List.append_assoc,hx _ (by simp [hs]),hy s hs]
 simp
theorem Pas.one {c : UInt8} (h1 : c ≠ 34) (h2 : c ≠ 92) : Pas [c]:=fun s hs => by
 cases s with
 | nil => exact absurd rfl hs
 | cons d r => simp [jdN,h1,h2]
theorem Pas.esc (d : UInt8) : Pas [92,d]:=fun s _ => by
 cases s <;> simp [jdN]
theorem Pas.of_all : ∀ (x : Bs),(∀ c ∈ x,c ≠ 34 ∧ c ≠ 92) → Pas x
 | [],_ => Pas.nil
 | c :: r,h => by
   have h1:=h c (by simp)
   exact (Pas.one h1.1 h1.2).append (Pas.of_all r fun d hd => h d (by simp [hd]))
theorem Pas.close {x : Bs} (h : Pas x) (s : Bs) : jdN (x ++ 34 :: s) = (x,s):=by
 rw [h (34 :: s) (by simp)]
 cases s <;> simp [jdN]
def qb (c : UInt8) : Bs:=if c.toNat < 128 then tb (jac c.toNat) else [c]
theorem ji5 {c : UInt8} (h : 128 ≤ c.toNat) : qb c = [c]:=by unfold qb;rw [if_neg (by omega)]
theorem jiD (P : UInt8 → Prop) (h1 : ∀ n : Fin 128,P (UInt8.ofNat n.val)) (h2 : ∀ c : UInt8,128 ≤ c.toNat → P c) (c : UInt8) : P c:=by
 by_cases h : c.toNat < 128
 ·have:=h1 ⟨c.toNat,h⟩
  simpa using this
 ·exact h2 c (by omega)
def deb : Bs → Option (UInt8 × Bs)
 | [] => none
 | [c] => some (c,[])
 | c :: d :: r => if c = 92 then
     (if d = 110 then some (10,r) else if d = 114 then some (13,r) else if d = 116 then some (9,r)
      else if d = 117 then (match r with
        | _ :: a :: b :: q => if b = 125 then some ((if 97 ≤ a.toNat then UInt8.ofNat (a.toNat - 87) else UInt8.ofNat (a.toNat - 48)),q)
            else if a = 49 then some ((if 97 ≤ b.toNat then UInt8.ofNat (b.toNat - 71) else UInt8.ofNat (b.toNat - 32)),q.drop 1)
            else some (127,q.drop 1)
        | _ => none)
      else some (d,r))
   else some (c,d :: r)
theorem jkU (n : Fin 128) : qb (UInt8.ofNat n.val) = tb (jac n.val):=by
 unfold qb
 have e : (UInt8.ofNat n.val).toNat = n.val:=by
  have:=n.isLt
  simp [UInt8.toNat_ofNat']
  omega
 rw [e,if_pos n.isLt]
theorem jlv (n : Nat) (h : n < 128) : tb (Utf8.encode (n : Int)) = [UInt8.ofNat n]:=by
 unfold Utf8.encode
 have hv : Utf8.valid (n : Int) = true:=by unfold Utf8.valid;simp;omega
 simp only [hv,if_true,Int.toNat_natCast]
 rw [if_pos (by omega)]
 rfl
theorem jlH (c : UInt8) (s : Bs) : deb (qb c ++ s) = some (c,s):=by
 refine jiD (fun c => ∀ s,deb (qb c ++ s) = some (c,s)) (fun n s => ?_) (fun c hc s => ?_) c s
 ·rw [jkU]
  have key : ∀ n : Fin 128,(tb (jac n.val) = [UInt8.ofNat n.val] ∧ UInt8.ofNat n.val ≠ 92) ∨ (tb (jac n.val) = [92,UInt8.ofNat n.val] ∧ UInt8.ofNat n.val ≠ 110 ∧ UInt8.ofNat n.val ≠ 114 ∧ UInt8.ofNat n.val ≠ 116 ∧ UInt8.ofNat n.val ≠ 117)
    ∨ (tb (jac n.val) = [92,110] ∧ n.val = 10) ∨ (tb (jac n.val) = [92,114] ∧ n.val = 13) ∨ (tb (jac n.val) = [92,116] ∧ n.val = 9)
    ∨ (tb (jac n.val) = [92,117,123,(tb (jac n.val)).getD 3 0,125] ∧ (if 97 ≤ ((tb (jac n.val)).getD 3 0).toNat then UInt8.ofNat (((tb (jac n.val)).getD 3 0).toNat - 87) else UInt8.ofNat (((tb (jac n.val)).getD 3 0).toNat - 48)) = UInt8.ofNat n.val)
    ∨ (tb (jac n.val) = [92,117,123,49,(tb (jac n.val)).getD 4 0,125] ∧ (tb (jac n.val)).getD 4 0 ≠ 125 ∧ (if 97 ≤ ((tb (jac n.val)).getD 4 0).toNat then UInt8.ofNat (((tb (jac n.val)).getD 4 0).toNat - 71) else UInt8.ofNat (((tb (jac n.val)).getD 4 0).toNat - 32)) = UInt8.ofNat n.val)
    ∨ (tb (jac n.val) = [92,117,123,55,102,125] ∧ n.val = 127):=by decide +kernel
  have key : ∀ n : Fin 128,(tb (jac n.val) = [UInt8.ofNat n.val] ∧ UInt8.ofNat n.val ≠ 92) ∨ (tb (jac n.val) = [92,UInt8.ofNat n.val] ∧ UInt8.ofNat n.val ≠ 110 ∧ UInt8.ofNat n.val ≠ 114 ∧ UInt8.ofNat n.val ≠ 116 ∧ UInt8.ofNat n.val ≠ 117)
    ∨ (tb (jac n.val) = [92,110] ∧ n.val = 10) ∨ (tb (jac n.val) = [92,114] ∧ n.val = 13) ∨ (tb (jac n.val) = [92,116] ∧ n.val = 9)
    ∨ (∃ a : UInt8,tb (jac n.val) = [92,117,123,a,125] ∧ (if 97 ≤ a.toNat then UInt8.ofNat (a.toNat - 87) else UInt8.ofNat (a.toNat - 48)) = UInt8.ofNat n.val)
    ∨ (∃ b : UInt8,tb (jac n.val) = [92,117,123,49,b,125] ∧ b ≠ 125 ∧ (if 97 ≤ b.toNat then UInt8.ofNat (b.toNat - 71) else UInt8.ofNat (b.toNat - 32)) = UInt8.ofNat n.val)
    ∨ (tb (jac n.val) = [92,117,123,55,102,125] ∧ n.val = 127):=fun n => by
   rcases key n with h | h | h | h | h | h | h | h
   ·exact .inl h
   ·exact .inr (.inl h)
   ·exact .inr (.inr (.inl h))
   ·exact .inr (.inr (.inr (.inl h)))
   ·exact .inr (.inr (.inr (.inr (.inl h))))
   ·exact .inr (.inr (.inr (.inr (.inr (.inl ⟨_,h⟩)))))
   ·exact .inr (.inr (.inr (.inr (.inr (.inr (.inl ⟨_,h⟩))))))
   ·exact .inr (.inr (.inr (.inr (.inr (.inr (.inr h))))))
  rcases key n with ⟨e,h⟩ | ⟨e,h1,h2,h3,h4⟩ | ⟨e,h⟩ | ⟨e,h⟩ | ⟨e,h⟩ | ⟨a,e,h⟩ | ⟨b,e,h1,h⟩ | ⟨e,h⟩
  ·rw [e];cases s <;> simp [deb,h]
  ·rw [e];simp [deb,h1,h2,h3,h4]
  ·rw [e,h];simp [deb]
  ·rw [e,h];simp [deb]
  ·rw [e,h];simp [deb]
  ·rw [e];simp only [List.cons_append,List.nil_append,deb];simp [h]
  ·rw [e];simp only [List.cons_append,List.nil_append,deb];simp [h1,h]
  ·rw [e,h];simp [deb]
 ·rw [ji5 hc]
  have h1 : c ≠ 92:=fun e => by subst e;exact absurd hc (by decide)
  cases s <;> simp [deb,h1]
theorem qb_ne (c : UInt8) : qb c ≠ []:=fun e => by
 have:=jlH c []
 rw [e] at this
 simp [deb] at this
theorem jkT : ∀ a b : Bs,a.flatMap qb = b.flatMap qb → a = b
 | [],[],_ => rfl
 | [],c :: r,h => by
   rw [List.flatMap_cons] at h
   simp only [List.flatMap_nil] at h
   exact absurd (List.append_eq_nil_iff.1 h.symm).1 (qb_ne c)
 | c :: r,[],h => by
   rw [List.flatMap_cons] at h
   simp only [List.flatMap_nil] at h
   exact absurd (List.append_eq_nil_iff.1 h).1 (qb_ne c)
 | c :: r,d :: q,h => by
   rw [List.flatMap_cons,List.flatMap_cons] at h
   have h1:=jlH c (r.flatMap qb)
   rw [h,jlH d] at h1
   injection h1 with h1
   injection h1 with h1 h2
   rw [h1,jkT r q h2.symm]
theorem qb_pas (c : UInt8) : Pas (qb c):=by
 refine jiD (fun c => Pas (qb c)) (fun n => ?_) (fun c hc => ?_) c
 ·rw [jkU]
  have key : ∀ n : Fin 128,(tb (jac n.val) = [UInt8.ofNat n.val] ∧ UInt8.ofNat n.val ≠ 92 ∧ UInt8.ofNat n.val ≠ 34) ∨ (tb (jac n.val) = [92,UInt8.ofNat n.val]) ∨ (∃ d : UInt8,tb (jac n.val) = [92,d])
    ∨ (∃ a : UInt8,tb (jac n.val) = [92,117,123,a,125] ∧ a ≠ 34 ∧ a ≠ 92) ∨ (∃ a b : UInt8,tb (jac n.val) = [92,117,123,a,b,125] ∧ a ≠ 34 ∧ a ≠ 92 ∧ b ≠ 34 ∧ b ≠ 92):=by
   intro n
   have k2 : ∀ n : Fin 128,(tb (jac n.val) = [UInt8.ofNat n.val] ∧ UInt8.ofNat n.val ≠ 92 ∧ UInt8.ofNat n.val ≠ 34) ∨ (tb (jac n.val) = [92,(tb (jac n.val)).getD 1 0])
    ∨ (tb (jac n.val) = [92,117,123,(tb (jac n.val)).getD 3 0,125] ∧ (tb (jac n.val)).getD 3 0 ≠ 34 ∧ (tb (jac n.val)).getD 3 0 ≠ 92) ∨ (tb (jac n.val) = [92,117,123,(tb (jac n.val)).getD 3 0,(tb (jac n.val)).getD 4 0,125] ∧ (tb (jac n.val)).getD 3 0 ≠ 34 ∧ (tb (jac n.val)).getD 3 0 ≠ 92 ∧ (tb (jac n.val)).getD 4 0 ≠ 34 ∧ (tb (jac n.val)).getD 4 0 ≠ 92):=by decide +kernel
   rcases k2 n with h | h | h | h
   ·exact .inl h
   ·exact .inr (.inr (.inl ⟨_,h⟩))
   ·exact .inr (.inr (.inr (.inl ⟨_,h⟩)))
   ·exact .inr (.inr (.inr (.inr ⟨_,_,h⟩)))
  rcases key n with ⟨e,h1,h2⟩ | e | ⟨d,e⟩ | ⟨a,e,h1,h2⟩ | ⟨a,b,e,h1,h2,h3,h4⟩
  ·rw [e];exact Pas.one h2 h1
  ·rw [e];exact Pas.esc _
  ·rw [e];exact Pas.esc _
  ·rw [e]
   refine (Pas.esc 117).append (Pas.of_all [123,a,125] fun c hc => ?_)
   simp only [List.mem_cons,List.not_mem_nil,or_false] at hc
   rcases hc with rfl | rfl | rfl
   ·decide
   ·exact ⟨h1,h2⟩
   ·decide
  ·rw [e]
   refine (Pas.esc 117).append (Pas.of_all [123,a,b,125] fun c hc => ?_)
   simp only [List.mem_cons,List.not_mem_nil,or_false] at hc
   rcases hc with rfl | rfl | rfl | rfl
   ·decide
   ·exact ⟨h1,h2⟩
   ·exact ⟨h3,h4⟩
   ·decide
 ·rw [ji5 hc]
  exact Pas.one (fun e => by subst e;exact absurd hc (by decide)) (fun e => by subst e;exact absurd hc (by decide))
theorem jkS : ∀ l : Bs,Pas (l.flatMap qb)
 | [] => Pas.nil
 | c :: r => by rw [List.flatMap_cons];exact (qb_pas c).append (jkS r)
theorem jmM (r : Int) (h : ¬ (0 ≤ r ∧ r < 128)) : ∀ c ∈ tb (Utf8.encode r),128 ≤ c.toNat:=by
 have hof : ∀ n : Nat,128 ≤ n → n < 256 → 128 ≤ (UInt8.ofNat n).toNat:=fun n h1 h2 => by
  rw [UInt8.toNat_ofNat']
  have : n % 256 = n:=Nat.mod_eq_of_lt h2
  simp only [Nat.reducePow]
  omega
 unfold Utf8.encode
 have hc : 128 ≤ (if Utf8.valid r = true then r.toNat else Utf8.runeError) ∧ (if Utf8.valid r = true then r.toNat else Utf8.runeError) < 1114112:=by
  split
  ·rename_i hv
   unfold Utf8.valid at hv
   simp at hv
   omega
  ·decide
 revert hc
 generalize (if Utf8.valid r = true then r.toNat else Utf8.runeError) = n
 intro ⟨h1,h2⟩
 simp only
 rw [if_neg (by omega)]
 split
 ·intro c hc
  simp only [tb,List.mem_cons,List.not_mem_nil,or_false] at hc
  rcases hc with rfl | rfl
  ·exact hof _ (by omega) (by omega)
  ·exact hof _ (by omega) (by omega)
 ·split
  ·intro c hc
   simp only [tb,List.mem_cons,List.not_mem_nil,or_false] at hc
   rcases hc with rfl | rfl | rfl
   ·exact hof _ (by omega) (by omega)
   ·exact hof _ (by omega) (by omega)
   ·exact hof _ (by omega) (by omega)
  ·intro c hc
   simp only [tb,List.mem_cons,List.not_mem_nil,or_false] at hc
   rcases hc with rfl | rfl | rfl | rfl
   ·exact hof _ (by omega) (by omega)
   ·exact hof _ (by omega) (by omega)
   ·exact hof _ (by omega) (by omega)
   ·exact hof _ (by omega) (by omega)
theorem jhr : ∀ l : Bs,(∀ c ∈ l,128 ≤ c.toNat) → l.flatMap qb = l
 | [],_ => rfl
 | c :: r,h => by
   rw [List.flatMap_cons,ji5 (h c (by simp)),jhr r fun d hd => h d (by simp [hd])]
   rfl
theorem ji4 (r : Nat) : tb (jac r) = (tb (Utf8.encode (r : Int))).flatMap qb:=by
 by_cases h : r < 128
 ·rw [jlv r h]
  simp only [List.flatMap_cons,List.flatMap_nil,List.append_nil]
  exact (jkU ⟨r,h⟩).symm
 ·rw [jhr _ (jmM _ (by omega))]
  unfold jac
  rw [if_neg (by omega),if_neg (by omega),if_neg (by omega),if_neg (by omega),if_neg (by omega)]
theorem jeJ : ∀ (l : List (Nat × Nat)) (acc : ByteArray),tb (jaH acc l) = tb acc ++ (l.flatMap fun x => tb (Utf8.encode (x.2 : Int))).flatMap qb
 | [],acc => by simp [jaH]
 | x :: r,acc => by
   have e : jaH acc (x :: r) = jaH (acc ++ jac x.2) r:=rfl
   rw [e,jeJ r,jai,ji4,List.flatMap_cons,List.flatMap_append,List.append_assoc]
def jeg (a : ByteArray) : Prop:=((jaz (tb a)).flatMap fun x => tb (Utf8.encode (x.2 : Int))) = tb a
theorem jjK {a : ByteArray} (h : jeg a) : tb (jbJ a) = 34 :: ((tb a).flatMap qb ++ [34]):=by
 unfold jbJ
 rw [jai,jeJ,show jaz a.data.toList = jaz (tb a) from rfl,show (jaz (tb a)).flatMap (fun x => tb (Utf8.encode (x.2 : Int))) = tb a from h]
 rfl
noncomputable def jnJ (l : Bs) : ByteArray:=by
 classical exact if h : ∃ a,jeg a ∧ (tb a).flatMap qb = l then h.choose else ⟨#[]⟩
theorem jm5 {a : ByteArray} (h : jeg a) : jnJ ((tb a).flatMap qb) = a:=by
 have hx : ∃ b,jeg b ∧ (tb b).flatMap qb = (tb a).flatMap qb:=⟨a,h,rfl⟩
 unfold jnJ
 rw [dif_pos hx]
 exact jgS (jkT _ _ hx.choose_spec.2)
mutual
def Ty.canon : Ty → Ty
 | .mk k n nm ps ns ms => .mk k (if k = 20 then 0 else n) nm (Ty.canons ps) ns ms
def Ty.canons : List Ty → List Ty
 | [] => []
 | p :: r => p.canon :: Ty.canons r
end
theorem Ty.canons_eq : ∀ ps : List Ty,Ty.canons ps = ps.map Ty.canon
 | [] => rfl
 | p :: r => by rw [Ty.canons,Ty.canons_eq r];rfl
theorem Ty.canon_mk (k n : Int) (nm : ByteArray) (ps : List Ty) (ns : List ByteArray) (ms : List Bool) : (Ty.mk k n nm ps ns ms).canon = .mk k (if k = 20 then 0 else n) nm (ps.map Ty.canon) ns ms:=by rw [Ty.canon,Ty.canons_eq]
theorem Ty.canon_kind : ∀ t : Ty,t.canon.kind = t.kind
 | .mk k n nm ps ns ms => by rw [Ty.canon];rfl
theorem jkE {k n n' : Int} (h : k = 20 ∨ n = n') (nm : ByteArray) (ts : List (Int × ByteArray)) (ns : List ByteArray) (ms : List Bool) : jap k n nm ts ns ms = jap k n' nm ts ns ms:=by
 rcases h with rfl | rfl
 ·simp [jap]
 ·rfl
mutual
theorem Ty.text_canon : ∀ t : Ty,t.canon.text = t.text
 | .mk k n nm ps ns ms => by
   rw [Ty.canon,Ty.text,Ty.text,Ty.texts_canon ps]
   apply jkE
   by_cases h : k = 20
   ·exact .inl h
   ·exact .inr (if_neg h)
theorem Ty.texts_canon : ∀ ps : List Ty,Ty.texts (Ty.canons ps) = Ty.texts ps
 | [] => rfl
 | p :: r => by rw [Ty.canons,Ty.texts,Ty.texts,Ty.text_canon p,Ty.texts_canon r,Ty.canon_kind]
end
mutual
def Ty.nodes : Ty → Nat
 | .mk _ _ _ ps _ _ => 1 + Ty.nodesL ps
def Ty.nodesL : List Ty → Nat
 | [] => 0
 | p :: r => p.nodes + Ty.nodesL r
end
theorem Ty.nodesL_eq : ∀ ps : List Ty,Ty.nodesL ps = (ps.map Ty.nodes).sum
 | [] => rfl
 | p :: r => by rw [Ty.nodesL,Ty.nodesL_eq r];simp
theorem Ty.nodes_mk (k n : Int) (nm : ByteArray) (ps : List Ty) (ns : List ByteArray) (ms : List Bool) : (Ty.mk k n nm ps ns ms).nodes = 1 + (ps.map Ty.nodes).sum:=by rw [Ty.nodes,Ty.nodesL_eq]
theorem Ty.nodes_pos : ∀ t : Ty,1 ≤ t.nodes
 | .mk k n nm ps ns ms => by rw [Ty.nodes];omega
theorem jd7 {x : Nat} : ∀ {l : List Nat},x ∈ l → x ≤ l.sum
 | y :: r,h => by
   rw [List.sum_cons]
   rcases List.mem_cons.1 h with rfl | h
   ·omega
   ·have:=jd7 h
    omega
theorem Ty.part_nodes {k n : Int} {nm : ByteArray} {ps : List Ty} {ns : List ByteArray} {ms : List Bool} {p : Ty} (h : p ∈ ps) : p.nodes < (Ty.mk k n nm ps ns ms).nodes:=by
 rw [Ty.nodes_mk]
 have:=jd7 (List.mem_map_of_mem (f:=Ty.nodes) h)
 omega
theorem Ty.parts_nodes (ps : List Ty) : ps.length ≤ (ps.map Ty.nodes).sum:=by
 induction ps with
 | nil => simp
 | cons p r ih =>
   have:=p.nodes_pos
   simp only [List.length_cons,List.map_cons,List.sum_cons]
   omega
def isD (c : UInt8) : Bool:=decide (48 ≤ c.toNat ∧ c.toNat ≤ 57)
def isL (c : UInt8) : Bool:=decide ((97 ≤ c.toNat ∧ c.toNat ≤ 122) ∨ (65 ≤ c.toNat ∧ c.toNat ≤ 90) ∨ c.toNat = 95 ∨ c.toNat = 36)
def isN (c : UInt8) : Bool:=isL c || isD c
structure NameOk (s : ByteArray) : Prop where
 first : ∃ c r,tb s = c :: r ∧ isL c = true
 all : ∀ c ∈ tb s,isN c = true
def Ty.partT (t : Ty) : ByteArray:=jaK t.kind t.text
def jc5 (l : List ByteArray) : Prop:=l.Pairwise fun a b => ltS a b = true
def jbu (l : List Bool) : Prop:=l.Pairwise fun a b => a = true → b = true
inductive Ty.Valid : Ty → Prop
 | basic {k : Int} (h1 : 1 ≤ k) (h2 : k ≤ 10) : Valid (.mk k 0 ⟨#[]⟩ [] [] [])
 | num {n : Int} (h1 : -9007199254740991 ≤ n) (h2 : n ≤ 9007199254740991) : Valid (.mk 11 n ⟨#[]⟩ [] [] [])
 | str {s : ByteArray} (h : jeg s) : Valid (.mk 12 0 s [] [] [])
 | arr {p : Ty} (hp : Valid p) : Valid (.mk 13 0 ⟨#[]⟩ [p] [] [])
 | obj (xs : List (ByteArray × Bool × Ty)) (hn : ∀ x ∈ xs,NameOk x.1) (hr : jc5 (xs.map (·.1))) (hp : ∀ x ∈ xs,Valid x.2.2) : Valid (.mk 14 0 ⟨#[]⟩ (xs.map (·.2.2)) (xs.map (·.1)) (xs.map (·.2.1)))
 | fn (xs : List (Ty × Bool)) (r : Ty) (ho : jbu (xs.map (·.2))) (hp : ∀ x ∈ xs,Valid x.1) (hr : Valid r) : Valid (.mk 15 0 ⟨#[]⟩ (xs.map (·.1) ++ [r]) [] (xs.map (·.2)))
 | un (ps : List Ty) (hl : 2 ≤ ps.length) (hk : ∀ p ∈ ps,p.kind ≠ 16 ∧ p.kind ≠ 1 ∧ p.kind ≠ 2 ∧ p.kind ≠ 3) (hs : ps.Pairwise fun a b => ltS a.partT b.partT = true)
   (hg : ∀ p ∈ ps,(p.kind = 11 → ∀ q ∈ ps,q.kind ≠ 7) ∧ (p.kind = 12 → ∀ q ∈ ps,q.kind ≠ 8) ∧ (p.kind = 20 → ∀ q ∈ ps,q.kind = 19 → ∀ e ∈ p.parts,q.text ≠ e.text)) (hp : ∀ p ∈ ps,Valid p) : Valid (.mk 16 0 ⟨#[]⟩ ps [] [])
 | ref {n : Int} {nm : ByteArray} (ps : List Ty) (h1 : 0 ≤ n) (h2 : n ≤ 9223372036854775807) (hn : NameOk nm) (hp : ∀ p ∈ ps,Valid p) : Valid (.mk 17 n nm ps [] [])
 | named {k n : Int} {nm : ByteArray} (hk : k = 18 ∨ k = 19 ∨ k = 21 ∨ k = 22 ∨ k = 23) (h1 : 0 ≤ n) (h2 : n ≤ 9223372036854775807) (hn : NameOk nm) : Valid (.mk k n nm [] [] [])
 | case {n m : Int} {nm nm' : ByteArray} (h1 : 0 ≤ n) (h2 : n ≤ 9223372036854775807) (hn : NameOk nm) (h1' : 0 ≤ m) (h2' : m ≤ 9223372036854775807) (hn' : NameOk nm') : Valid (.mk 20 n nm [.mk 19 m nm' [] [] []] [] [])
theorem jbD {p : UInt8 → Bool} : ∀ (a s : Bs),(∀ c ∈ a,p c = true) → (∀ c r,s = c :: r → p c = false) → (a ++ s).takeWhile p = a ∧ (a ++ s).dropWhile p = s
 | [],s,_,h => by
   cases s with
   | nil => simp
   | cons c r => simp [h c r rfl]
 | x :: a,s,h1,h2 => by
   have hx:=h1 x (by simp)
   have ih:=jbD a s (fun c hc => h1 c (by simp [hc])) h2
   simp [hx,ih.1,ih.2]
theorem jcW (u : Nat) : ∀ c ∈ Lib.decDigits u,isD c = true:=by
 induction u using Nat.strongRecOn with
 | ind u ih =>
   intro c hc
   rw [Lib.decDigits] at hc
   split at hc
   ·rename_i h
    simp only [List.mem_singleton] at hc
    subst hc
    have key : ∀ n : Fin 10,isD (UInt8.ofNat (48 + n.val)) = true:=by decide
    exact key ⟨u,h⟩
   ·rename_i h
    rcases List.mem_append.1 hc with hc | hc
    ·exact ih (u / 10) (by omega) c hc
    ·simp only [List.mem_singleton] at hc
     subst hc
     have key : ∀ n : Fin 10,isD (UInt8.ofNat (48 + n.val)) = true:=by decide
     exact key ⟨u % 10,by omega⟩
theorem jlF (u : Nat) : Lib.decDigits u ≠ []:=by
 rw [Lib.decDigits]
 split <;> simp
theorem jdE (u : Nat) : ∃ c r,Lib.decDigits u = c :: r ∧ isD c = true:=by
 cases h : Lib.decDigits u with
 | nil => exact absurd h (jlF u)
 | cons c r => exact ⟨c,r,rfl,jcW u c (by rw [h];simp)⟩
theorem jhg : ∀ a b : Fin 10,UInt8.ofNat (48 + a.val) = UInt8.ofNat (48 + b.val) → a = b:=by decide
theorem jlG (u : Nat) : ∀ v,Lib.decDigits u = Lib.decDigits v → u = v:=by
 induction u using Nat.strongRecOn with
 | ind u ih =>
   intro v h
   rw [Lib.decDigits] at h
   rw [Lib.decDigits.eq_def v] at h
   by_cases h1 : u < 10
   ·by_cases h2 : v < 10
    ·rw [dif_pos h1,dif_pos h2] at h
     injection h with h _
     have:=jhg ⟨u,h1⟩ ⟨v,h2⟩ h
     exact congrArg Fin.val this
    ·rw [dif_pos h1,dif_neg h2] at h
     have hl:=congrArg List.length h
     have:=List.length_pos_iff.2 (jlF (v / 10))
     simp only [List.length_append,List.length_cons,List.length_nil] at hl
     omega
   ·by_cases h2 : v < 10
    ·rw [dif_neg h1,dif_pos h2] at h
     have hl:=congrArg List.length h
     have:=List.length_pos_iff.2 (jlF (u / 10))
     simp only [List.length_append,List.length_cons,List.length_nil] at hl
     omega
    ·rw [dif_neg h1,dif_neg h2] at h
     obtain ⟨e1,e2⟩:=List.append_inj' h rfl
     have e3:=ih (u / 10) (by omega) (v / 10) e1
     injection e2 with e2 _
     have:=congrArg Fin.val (jhg ⟨u % 10,by omega⟩ ⟨v % 10,by omega⟩ e2)
     simp only at this
     omega
theorem jmD (n m : Int) (h : Lib.itoa n = Lib.itoa m) : n = m:=by
 unfold Lib.itoa at h
 by_cases h1 : n < 0
 ·by_cases h2 : m < 0
  ·rw [if_pos h1,if_pos h2] at h
   injection h with _ h
   have:=jlG _ _ h
   omega
  ·rw [if_pos h1,if_neg h2] at h
   obtain ⟨c,r,e,hc⟩:=jdE m.toNat
   rw [e] at h
   injection h with h _
   subst h
   exact absurd hc (by decide)
 ·by_cases h2 : m < 0
  ·rw [if_neg h1,if_pos h2] at h
   obtain ⟨c,r,e,hc⟩:=jdE n.toNat
   rw [e] at h
   injection h with h _
   subst h
   exact absurd hc (by decide)
  ·rw [if_neg h1,if_neg h2] at h
   have:=jlG _ _ h
   omega
noncomputable def jeP (l : Bs) : Int:=by
 classical exact if h : ∃ n,Lib.itoa n = l then h.choose else 0
theorem jfR (n : Int) : jeP (Lib.itoa n) = n:=by
 have hx : ∃ m,Lib.itoa m = Lib.itoa n:=⟨n,rfl⟩
 unfold jeP
 rw [dif_pos hx]
 exact jmD _ _ hx.choose_spec
theorem jbM (n : Int) (h : 0 ≤ n) : jeP (Lib.decDigits n.toNat) = n:=by
 have e : Lib.itoa n = Lib.decDigits n.toNat:=by unfold Lib.itoa;rw [if_neg (by omega)]
 rw [← e]
 exact jfR n
theorem jkF (n : Int) : tb (numS n) = Lib.itoa n:=jnH _
theorem jkG (n : Int) (h : 0 ≤ n) : tb (numS n) = Lib.decDigits n.toNat:=by
 rw [jkF]
 unfold Lib.itoa
 rw [if_neg (by omega)]
def Stop : Bs → Prop
 | [] => True
 | c :: _ => c = 41 ∨ c = 44 ∨ c = 59 ∨ c = 125 ∨ c = 62 ∨ c = 63
def Soft : Bs → Prop
 | [] => True
 | c :: r => c = 41 ∨ c = 44 ∨ c = 59 ∨ c = 125 ∨ c = 62 ∨ c = 63 ∨ c = 91 ∨ (c = 32 ∧ ∃ r',r = 124 :: r')
theorem Stop.soft {s : Bs} (h : Stop s) : Soft s:=by
 cases s with
 | nil => trivial
 | cons c r =>
   rcases h with h | h | h | h | h | h
   ·exact .inl h
   ·exact .inr (.inl h)
   ·exact .inr (.inr (.inl h))
   ·exact .inr (.inr (.inr (.inl h)))
   ·exact .inr (.inr (.inr (.inr (.inl h))))
   ·exact .inr (.inr (.inr (.inr (.inr (.inl h)))))
theorem Soft.head {c : UInt8} {r : Bs} (h : Soft (c :: r)) : isN c = false ∧ isD c = false ∧ c ≠ 35 ∧ c ≠ 39 ∧ c ≠ 46 ∧ c ≠ 60 ∧ c ≠ 64:=by
 rcases h with rfl | rfl | rfl | rfl | rfl | rfl | rfl | ⟨rfl,_⟩ <;> decide
def eat (x l : Bs) : Option Bs:=if x.isPrefixOf l then some (l.drop x.length) else none
theorem jb2 (x s : Bs) : eat x (x ++ s) = some s:=by
 unfold eat
 rw [if_pos (by simp)]
 simp
theorem jok (c : UInt8) (x : Bs) : eat (c :: x) [] = none:=by simp [eat]
theorem jbo {c d : UInt8} (x s : Bs) (h : c ≠ d) : eat (c :: x) (d :: s) = none:=by simp [eat,h]
theorem joj {a c d : UInt8} (x s : Bs) (h : c ≠ d) : eat (a :: c :: x) (a :: d :: s) = none:=by simp [eat,h]
theorem jdC {c : UInt8} {x l : Bs} (h : ∀ d r,l = d :: r → c ≠ d) : eat (c :: x) l = none:=by
 cases l with
 | nil => exact jok c x
 | cons d r => exact jbo x r (h d r rfl)
def jeW {α : Type} (item : Bs → Option (α × Bs)) (close sep : Bs) : Nat → Bs → Option (List α × Bs)
 | 0,_ => none
 | n + 1,l => match item l with
   | none => none
   | some (x,r) => match eat close r with
     | some r2 => some ([x],r2)
     | none => match eat sep r with
       | some r2 => match jeW item close sep n r2 with
         | some (xs,r3) => some (x :: xs,r3)
         | none => none
       | none => none
theorem jcB {α β : Type} (item : Bs → Option (α × Bs)) (close sep : Bs) (f : β → Bs) (g : β → α) (hcs : ∀ r,eat close (sep ++ r) = none) : ∀ (bs : List β),bs ≠ [] → (∀ b ∈ bs,∀ s,((∃ r,s = close ++ r) ∨ ∃ r,s = sep ++ r) → item (f b ++ s) = some (g b,s)) → ∀ n s,bs.length ≤ n → jeW item close sep n (Lib.join (bs.map f) sep ++ (close ++ s)) = some (bs.map g,s)
 | [],h,_,_,_,_ => absurd rfl h
 | [b],_,hi,n,s,hn => by
   obtain ⟨m,rfl⟩ : ∃ m,n = m + 1:=⟨n - 1,by simp at hn;omega⟩
   have e : Lib.join ([b].map f) sep = f b:=by simp [Lib.join_one]
   rw [e,jeW,hi b (by simp) _ (.inl ⟨s,rfl⟩)]
   simp only [jb2,List.map_cons,List.map_nil]
 | b :: c :: bs,_,hi,n,s,hn => by
   obtain ⟨m,rfl⟩ : ∃ m,n = m + 1:=⟨n - 1,by simp at hn;omega⟩
   have e : Lib.join ((b :: c :: bs).map f) sep ++ (close ++ s) = f b ++ (sep ++ (Lib.join ((c :: bs).map f) sep ++ (close ++ s))):=by
    simp [Lib.join,List.intercalate]
   have ih:=jcB item close sep f g hcs (c :: bs) (by simp) (fun x hx => hi x (by simp at hx ⊢; exact .inr hx)) m s (by simp at hn ⊢; omega)
   rw [e,jeW,hi b (by simp) _ (.inr ⟨_,rfl⟩)]
   simp only [hcs,jb2]
   rw [ih]
   rfl
section
variable (rd : Bs → Option (Ty × Bs))
def jhb (l : Bs) : Option ((Ty × Bool) × Bs):=match rd l with
 | some (t,r) => match eat [63] r with
   | some r1 => some ((t,true),r1)
   | none => some ((t,false),r)
 | none => none
def jgq (l : Bs) : Option ((ByteArray × Bool × Ty) × Bs) :=
 match eat [63] (l.dropWhile isN) with
 | some r1 => match eat [58,32] r1 with
   | some r2 => match rd r2 with
     | some (t,r3) => some ((⟨(l.takeWhile isN).toArray⟩,true,t),r3)
     | none => none
   | none => none
 | none => match eat [58,32] (l.dropWhile isN) with
   | some r2 => match rd r2 with
     | some (t,r3) => some ((⟨(l.takeWhile isN).toArray⟩,false,t),r3)
     | none => none
   | none => none
def kwK (w : Bs) : Int:=if w = [99,108,97,115,115] then 21 else if w = [101,110,117,109] then 22 else if w = [110,97,109,101,115,112,97,99,101] then 23 else 0
def wordK (w : Bs) : Int:=if w = tb (jaw 1) then 1 else if w = tb (jaw 2) then 2 else if w = tb (jaw 3) then 3 else if w = tb (jaw 4) then 4 else if w = tb (jaw 5) then 5 else if w = tb (jaw 6) then 6 else if w = tb (jaw 7) then 7 else if w = tb (jaw 8) then 8 else if w = tb (jaw 9) then 9 else if w = tb (jaw 10) then 10 else 0
noncomputable def jfn (n : Nat) (w r : Bs) : Option (Ty × Bool × Bs) :=
 match eat [35] r with
 | some r1 => match eat [60] (r1.dropWhile isD) with
   | some r3 => match jeW rd [62] [44,32] n r3 with
     | some (xs,r4) => some (.mk 17 (jeP (r1.takeWhile isD)) ⟨w.toArray⟩ xs [] [],false,r4)
     | none => none
   | none => some (.mk 17 (jeP (r1.takeWhile isD)) ⟨w.toArray⟩ [] [] [],false,r1.dropWhile isD)
 | none => match eat [39] r with
   | some r1 => some (.mk 18 (jeP (r1.takeWhile isD)) ⟨w.toArray⟩ [] [] [],false,r1.dropWhile isD)
   | none => match eat [64] r with
     | some r1 => match eat [46] (r1.dropWhile isD) with
       | some r3 => some (.mk 20 0 ⟨(r3.takeWhile isN).toArray⟩ [.mk 19 (jeP (r1.takeWhile isD)) ⟨w.toArray⟩ [] [] []] [] [],false,r3.dropWhile isN)
       | none => some (.mk 19 (jeP (r1.takeWhile isD)) ⟨w.toArray⟩ [] [] [],false,r1.dropWhile isD)
     | none => if kwK w = 0 then some (.mk (wordK w) 0 ⟨#[]⟩ [] [] [],false,r)
       else match eat [32] r with
        | some r1 => match eat [35] (r1.dropWhile isN) with
          | some r2 => some (.mk (kwK w) (jeP (r2.takeWhile isD)) ⟨(r1.takeWhile isN).toArray⟩ [] [] [],false,r2.dropWhile isD)
          | none => none
        | none => none
noncomputable def prim (n : Nat) : Bs → Option (Ty × Bool × Bs)
 | [] => none
 | c :: l =>
   if c = 34 then some (.mk 12 0 (jnJ (jdN l).1) [] [] [],false,(jdN l).2)
   else if c = 45 then some (.mk 11 (jeP (45 :: l.takeWhile isD)) ⟨#[]⟩ [] [] [],false,l.dropWhile isD)
   else if isD c = true then some (.mk 11 (jeP ((c :: l).takeWhile isD)) ⟨#[]⟩ [] [] [],false,(c :: l).dropWhile isD)
   else if c = 123 then
    match eat [125] l with
    | some r => some (.mk 14 0 ⟨#[]⟩ [] [] [],false,r)
    | none => match jeW (jgq rd) [125] [59,32] n l with
      | some (xs,r) => some (.mk 14 0 ⟨#[]⟩ (xs.map (·.2.2)) (xs.map (·.1)) (xs.map (·.2.1)),false,r)
      | none => none
   else if c = 40 then
    match (match eat [41] l with | some r => some ([],r) | none => jeW (jhb rd) [41] [44,32] n l) with
    | none => none
    | some (xs,r) => match eat [32,61,62,32] r with
      | some r1 => match rd r1 with
        | some (t,r2) => some (.mk 15 0 ⟨#[]⟩ (xs.map (·.1) ++ [t]) [] (xs.map (·.2)),true,r2)
        | none => none
      | none => match xs with
        | [x] => some (x.1,false,r)
        | _ => none
   else jfn rd n ((c :: l).takeWhile isN) ((c :: l).dropWhile isN)
def jc9 : Nat → Ty → Bs → Ty × Bs
 | 0,t,l => (t,l)
 | n + 1,t,l => match eat [91,93] l with
   | some r => jc9 n (.mk 13 0 ⟨#[]⟩ [t] [] []) r
   | none => (t,l)
noncomputable def jgJ (m : Nat) : Nat → Bs → Option (List Ty × Bs)
 | 0,_ => none
 | n + 1,l => match prim rd m l with
   | some (t,false,r) => match eat [32,124,32] (jc9 m t r).2 with
     | none => some ([(jc9 m t r).1],(jc9 m t r).2)
     | some r2 => match jgJ m n r2 with
       | some (xs,r3) => some ((jc9 m t r).1 :: xs,r3)
       | none => none
   | _ => none
noncomputable def jln (m : Nat) (l : Bs) : Option (Ty × Bs):=match prim rd m l with
 | none => none
 | some (t,true,r) => some (t,r)
 | some (t,false,r) => match eat [32,124,32] (jc9 m t r).2 with
   | none => some (jc9 m t r)
   | some r2 => match jgJ rd m m r2 with
     | some (xs,r3) => some (.mk 16 0 ⟨#[]⟩ ((jc9 m t r).1 :: xs) [] [],r3)
     | none => none
end
noncomputable def jcZ : Nat → Bs → Option (Ty × Bs)
 | 0,_ => none
 | f + 1,l => jln (jcZ f) f l
def Ty.roundT (t : Ty) : ByteArray:=jas [15,16] t.kind t.text
theorem jbP (zs : List Int) (k : Int) (s : ByteArray) : tb (jas zs k s) = if k ∈ zs then 40 :: (tb s ++ [41]) else tb s:=by
 unfold jas
 split
 ·rw [jai,jai];rfl
 ·rfl
theorem jel (sep : ByteArray) (l : List ByteArray) : tb (jav sep l) = Lib.join (l.map tb) (tb sep):=jnH _
theorem jeA (nm : ByteArray) (n : Int) (h : 0 ≤ n) : tb (jbn nm n) = tb nm ++ 35 :: Lib.decDigits n.toNat:=by
 unfold jbn
 rw [jai,jai,jkG n h]
 simp [tb]
theorem jfU : ∀ xs : List (ByteArray × Bool × Ty),jaC ((xs.map (·.2.2)).map fun p => (p.kind,p.text)) (xs.map (·.1)) (xs.map (·.2.1)) = xs.map fun x => x.1 ++ jds x.2.1 ++ ⟨#[58,32]⟩ ++ x.2.2.text
 | [] => rfl
 | x :: r => by simp only [List.map_cons,jaC];rw [jfU r]
theorem jha : ∀ xs : List (Ty × Bool),jaM ((xs.map (·.1)).map fun p => (p.kind,p.text)) (xs.map (·.2)) = xs.map fun x => if x.2 = true then x.1.roundT ++ ⟨#[63]⟩ else x.1.text
 | [] => rfl
 | x :: r => by simp only [List.map_cons,jaM];rw [jha r];rfl
theorem jei {k : Int} (h1 : 1 ≤ k) (h2 : k ≤ 10) : (Ty.mk k 0 ⟨#[]⟩ [] [] []).text = jaw k:=by
 rw [Ty.text_mk]
 unfold jap
 iterate 13 rw [if_neg (by omega)]
theorem jnd (n : Int) : tb (Ty.mk 11 n ⟨#[]⟩ [] [] []).text = Lib.itoa n:=by
 rw [Ty.text_mk,show jap 11 n ⟨#[]⟩ (([] : List Ty).map fun p => (p.kind,p.text)) [] [] = numS n by simp [jap]]
 exact jkF n
theorem jna {s : ByteArray} (h : jeg s) : tb (Ty.mk 12 0 s [] [] []).text = 34 :: ((tb s).flatMap qb ++ [34]):=by
 rw [Ty.text_mk,show jap 12 0 s (([] : List Ty).map fun p => (p.kind,p.text)) [] [] = jbJ s by simp [jap]]
 exact jjK h
theorem jne (p : Ty) : tb (Ty.mk 13 0 ⟨#[]⟩ [p] [] []).text = tb p.roundT ++ [91,93]:=by
 rw [Ty.text_mk,show jap 13 0 ⟨#[]⟩ ([p].map fun p => (p.kind,p.text)) [] [] = p.roundT ++ ⟨#[91,93]⟩ by simp [jap,Ty.roundT]]
 rw [jai]
 rfl
def memT (x : ByteArray × Bool × Ty) : Bs:=tb x.1 ++ ((if x.2.1 = true then [63] else []) ++ 58 :: 32 :: tb x.2.2.text)
theorem jnc (xs : List (ByteArray × Bool × Ty)) : tb (Ty.mk 14 0 ⟨#[]⟩ (xs.map (·.2.2)) (xs.map (·.1)) (xs.map (·.2.1))).text = 123 :: (Lib.join (xs.map memT) [59,32] ++ [125]):=by
 rw [Ty.text_mk]
 have e : jap 14 0 ⟨#[]⟩ ((xs.map (·.2.2)).map fun p => (p.kind,p.text)) (xs.map (·.1)) (xs.map (·.2.1)) = ⟨#[123]⟩ ++ jav ⟨#[59,32]⟩ (jaC ((xs.map (·.2.2)).map fun p => (p.kind,p.text)) (xs.map (·.1)) (xs.map (·.2.1))) ++ ⟨#[125]⟩:=by
  unfold jap
  rw [if_neg (by decide),if_neg (by decide),if_neg (by decide),if_pos rfl]
 rw [e,jfU,jai,jai,jel,List.map_map]
 have e2 : xs.map (tb ∘ fun x => x.1 ++ jds x.2.1 ++ ⟨#[58,32]⟩ ++ x.2.2.text) = xs.map memT:=by
  apply List.map_congr_left
  intro x _
  simp only [Function.comp,jai,memT]
  cases x.2.1 <;> simp [jds,tb]
 rw [e2]
 simp [tb]
def parT (x : Ty × Bool) : Bs:=if x.2 = true then tb x.1.roundT ++ [63] else tb x.1.text
theorem tx_fn (xs : List (Ty × Bool)) (r : Ty) : tb (Ty.mk 15 0 ⟨#[]⟩ (xs.map (·.1) ++ [r]) [] (xs.map (·.2))).text = 40 :: (Lib.join (xs.map parT) [44,32] ++ 41 :: 32 :: 61 :: 62 :: 32 :: tb r.text):=by
 rw [Ty.text_mk]
 have e : jap 15 0 ⟨#[]⟩ ((xs.map (·.1) ++ [r]).map fun p => (p.kind,p.text)) [] (xs.map (·.2)) = ⟨#[40]⟩ ++ jav ⟨#[44,32]⟩ (jaM ((xs.map (·.1)).map fun p => (p.kind,p.text)) (xs.map (·.2))) ++ ⟨#[41,32,61,62,32]⟩ ++ r.text:=by
  unfold jap
  rw [if_neg (by decide),if_neg (by decide),if_neg (by decide),if_neg (by decide),if_pos rfl]
  rw [List.map_append,List.map_cons,List.map_nil,List.dropLast_concat]
  simp [List.getLastD_eq_getLast?]
 rw [e,jha,jai,jai,jai,jel,List.map_map]
 have e2 : xs.map (tb ∘ fun x => if x.2 = true then x.1.roundT ++ ⟨#[63]⟩ else x.1.text) = xs.map parT:=by
  apply List.map_congr_left
  intro x _
  simp only [Function.comp,parT]
  split
  ·rw [jai];rfl
  ·rfl
 rw [e2]
 simp [tb]
theorem tx_un (ps : List Ty) : tb (Ty.mk 16 0 ⟨#[]⟩ ps [] []).text = Lib.join (ps.map fun p => tb p.partT) [32,124,32]:=by
 rw [Ty.text_mk]
 have e : jap 16 0 ⟨#[]⟩ (ps.map fun p => (p.kind,p.text)) [] [] = jav ⟨#[32,124,32]⟩ ((ps.map fun p => (p.kind,p.text)).map fun x => jaK x.1 x.2):=by
  unfold jap
  iterate 5 rw [if_neg (by decide)]
  rw [if_pos rfl]
 rw [e,jel,List.map_map,List.map_map]
 rfl
theorem jnb {n : Int} (nm : ByteArray) (ps : List Ty) (h : 0 ≤ n) : tb (Ty.mk 17 n nm ps [] []).text = tb nm ++ 35 :: (Lib.decDigits n.toNat ++ if ps = [] then [] else 60 :: (Lib.join (ps.map fun p => tb p.text) [44,32] ++ [62])):=by
 rw [Ty.text_mk]
 have e : jap 17 n nm (ps.map fun p => (p.kind,p.text)) [] [] = if (ps.map fun p => (p.kind,p.text)) = [] then jbn nm n else jbn nm n ++ ⟨#[60]⟩ ++ jav ⟨#[44,32]⟩ ((ps.map fun p => (p.kind,p.text)).map (·.2)) ++ ⟨#[62]⟩:=by
  unfold jap
  iterate 6 rw [if_neg (by decide)]
  rw [if_pos rfl]
 rw [e]
 by_cases hp : ps = []
 ·subst hp
  simp [jeA _ _ h]
 ·rw [if_neg (by simpa using hp),if_neg hp]
  rw [jai,jai,jai,jel,jeA _ _ h,List.map_map,List.map_map]
  simp [tb,Function.comp_def]
theorem tx_18 {n : Int} (nm : ByteArray) (h : 0 ≤ n) : tb (Ty.mk 18 n nm [] [] []).text = tb nm ++ 39 :: Lib.decDigits n.toNat:=by
 rw [Ty.text_mk,show jap 18 n nm (([] : List Ty).map fun p => (p.kind,p.text)) [] [] = nm ++ ⟨#[39]⟩ ++ numS n by simp [jap]]
 rw [jai,jai,jkG n h]
 simp [tb]
theorem jnD {n : Int} (nm : ByteArray) (h : 0 ≤ n) : tb (Ty.mk 19 n nm [] [] []).text = tb nm ++ 64 :: Lib.decDigits n.toNat:=by
 rw [Ty.text_mk,show jap 19 n nm (([] : List Ty).map fun p => (p.kind,p.text)) [] [] = nm ++ ⟨#[64]⟩ ++ numS n by simp [jap]]
 rw [jai,jai,jkG n h]
 simp [tb]
theorem tx_20 {n m : Int} (nm nm' : ByteArray) (h : 0 ≤ m) : tb (Ty.mk 20 n nm [.mk 19 m nm' [] [] []] [] []).text = tb nm' ++ 64 :: (Lib.decDigits m.toNat ++ 46 :: tb nm):=by
 rw [Ty.text_mk,show jap 20 n nm ([Ty.mk 19 m nm' [] [] []].map fun p => (p.kind,p.text)) [] [] = (Ty.mk 19 m nm' [] [] []).text ++ ⟨#[46]⟩ ++ nm by simp [jap]]
 rw [jai,jai,jnD _ h]
 simp [tb]
theorem tx_21 {n : Int} (nm : ByteArray) (h : 0 ≤ n) : tb (Ty.mk 21 n nm [] [] []).text = [99,108,97,115,115] ++ 32 :: (tb nm ++ 35 :: Lib.decDigits n.toNat):=by
 rw [Ty.text_mk,show jap 21 n nm (([] : List Ty).map fun p => (p.kind,p.text)) [] [] = ⟨#[99,108,97,115,115,32]⟩ ++ jbn nm n by simp [jap]]
 rw [jai,jeA _ _ h]
 simp [tb]
theorem tx_22 {n : Int} (nm : ByteArray) (h : 0 ≤ n) : tb (Ty.mk 22 n nm [] [] []).text = [101,110,117,109] ++ 32 :: (tb nm ++ 35 :: Lib.decDigits n.toNat):=by
 rw [Ty.text_mk,show jap 22 n nm (([] : List Ty).map fun p => (p.kind,p.text)) [] [] = ⟨#[101,110,117,109,32]⟩ ++ jbn nm n by simp [jap]]
 rw [jai,jeA _ _ h]
 simp [tb]
theorem tx_23 {n : Int} (nm : ByteArray) (h : 0 ≤ n) : tb (Ty.mk 23 n nm [] [] []).text = [110,97,109,101,115,112,97,99,101] ++ 32 :: (tb nm ++ 35 :: Lib.decDigits n.toNat):=by
 rw [Ty.text_mk,show jap 23 n nm (([] : List Ty).map fun p => (p.kind,p.text)) [] [] = ⟨#[110,97,109,101,115,112,97,99,101,32]⟩ ++ jbn nm n by simp [jap]]
 rw [jai,jeA _ _ h]
 simp [tb]
theorem isN_no {c : UInt8} (h : isL c = true) : c ≠ 34 ∧ c ≠ 45 ∧ isD c = false ∧ c ≠ 123 ∧ c ≠ 40:=by
 refine ⟨fun e => ?_,fun e => ?_,?_,fun e => ?_,fun e => ?_⟩
 ·subst e;exact absurd h (by decide)
 ·subst e;exact absurd h (by decide)
 ·simp only [isL,decide_eq_true_eq] at h
  simp only [isD,decide_eq_false_iff_not]
  omega
 ·subst e;exact absurd h (by decide)
 ·subst e;exact absurd h (by decide)
theorem jiA {k : Int} (h1 : 1 ≤ k) (h2 : k ≤ 10) : wordK (tb (jaw k)) = k ∧ kwK (tb (jaw k)) = 0 ∧ (∀ c ∈ tb (jaw k),isN c = true) ∧ ∃ c r,tb (jaw k) = c :: r ∧ isL c = true:=by
 have hk : k = 1 ∨ k = 2 ∨ k = 3 ∨ k = 4 ∨ k = 5 ∨ k = 6 ∨ k = 7 ∨ k = 8 ∨ k = 9 ∨ k = 10:=by omega
 rcases hk with rfl | rfl | rfl | rfl | rfl | rfl | rfl | rfl | rfl | rfl <;> exact ⟨by decide,by decide,by decide,_,_,rfl,by decide⟩
section
variable (rd : Bs → Option (Ty × Bs)) (n : Nat)
theorem jeK {w s : Bs} (h : ∃ c r,w = c :: r ∧ isL c = true) (ha : ∀ c ∈ w,isN c = true) (hs : ∀ c r,s = c :: r → isN c = false) : prim rd n (w ++ s) = jfn rd n w s:=by
 obtain ⟨c,r,rfl,hc⟩:=h
 obtain ⟨h1,h2,h3,h4,h5⟩:=isN_no hc
 have hsp:=jbD (p:=isN) (c :: r) s ha hs
 simp only [List.cons_append] at hsp ⊢
 rw [prim,if_neg h1,if_neg h2,if_neg (by simp [h3]),if_neg h4,if_neg h5,hsp.1,hsp.2]
theorem jcv {nm : ByteArray} (h : NameOk nm) {s : Bs} (hs : ∀ c r,s = c :: r → isN c = false) : prim rd n (tb nm ++ s) = jfn rd n (tb nm) s:=jeK rd n h.first h.all hs
theorem jbG (m : Int) (s : Bs) (hs : ∀ c r,s = c :: r → isD c = false) : (Lib.decDigits m.toNat ++ s).takeWhile isD = Lib.decDigits m.toNat ∧ (Lib.decDigits m.toNat ++ s).dropWhile isD = s:=jbD _ _ (jcW _) hs
theorem jgp (nm : ByteArray) : (⟨(tb nm).toArray⟩ : ByteArray) = nm:=jgS (jnH _)
theorem jfG {s : Bs} (hs : Soft s) : ∀ c r,s = c :: r → isD c = false:=fun c r e => by subst e;exact hs.head.2.1
theorem jnf {s : Bs} (hs : Soft s) : ∀ c r,s = c :: r → isN c = false:=fun c r e => by subst e;exact hs.head.1
theorem jjM {k : Int} (h1 : 1 ≤ k) (h2 : k ≤ 10) {s : Bs} (hs : Soft s) : prim rd n (tb (Ty.mk k 0 ⟨#[]⟩ [] [] []).text ++ s) = some (.mk k 0 ⟨#[]⟩ [] [] [],false,s):=by
 obtain ⟨q1,q2,q3,q4⟩:=jiA h1 h2
 rw [jei h1 h2,jeK rd n q4 q3 (jnf hs),jfn,jdC (fun d r e => (by subst e;exact fun e2 => hs.head.2.2.1 e2.symm)),jdC (fun d r e => (by subst e;exact fun e2 => hs.head.2.2.2.1 e2.symm)),jdC (fun d r e => (by subst e;exact fun e2 => hs.head.2.2.2.2.2.2 e2.symm))]
 simp only [q1,q2,if_pos]
theorem jmg (m : Int) {s : Bs} (hs : Soft s) : prim rd n (tb (Ty.mk 11 m ⟨#[]⟩ [] [] []).text ++ s) = some (.mk 11 m ⟨#[]⟩ [] [] [],false,s):=by
 rw [jnd]
 by_cases h : m < 0
 ·have e : Lib.itoa m = 45 :: Lib.decDigits m.natAbs:=by unfold Lib.itoa;rw [if_pos h]
  have hsp:=jbD (p:=isD) (Lib.decDigits m.natAbs) s (jcW _) (jfG hs)
  rw [e,List.cons_append,prim,if_neg (by decide),if_pos rfl,hsp.1,hsp.2, ← e,jfR]
 ·have e : Lib.itoa m = Lib.decDigits m.toNat:=by unfold Lib.itoa;rw [if_neg h]
  obtain ⟨c,r,hc,hd⟩:=jdE m.toNat
  have hsp:=jbD (p:=isD) (Lib.decDigits m.toNat) s (jcW _) (jfG hs)
  have hn:=jbM m (by omega)
  rw [e]
  rw [hc] at hsp hn ⊢
  rw [List.cons_append] at hsp ⊢
  rw [prim,if_neg (fun q => by subst q;exact absurd hd (by decide)),if_neg (fun q => by subst q;exact absurd hd (by decide)),if_pos hd,hsp.1,hsp.2,hn]
theorem jmd {a : ByteArray} (h : jeg a) (s : Bs) : prim rd n (tb (Ty.mk 12 0 a [] [] []).text ++ s) = some (.mk 12 0 a [] [] [],false,s):=by
 rw [jna h,List.cons_append,List.append_assoc,prim,if_pos rfl]
 have:=(jkS (tb a)).close s
 rw [show [34] ++ s = 34 :: s from rfl,this,jm5 h]
theorem jnS {m : Int} {nm : ByteArray} (hn : NameOk nm) (h : 0 ≤ m) {s : Bs} (hs : Soft s) : prim rd n (tb (Ty.mk 18 m nm [] [] []).text ++ s) = some (.mk 18 m nm [] [] [],false,s):=by
 have hd:=jbG m s (jfG hs)
 rw [tx_18 nm h,List.append_assoc,jcv rd n hn (fun c r e => by rw [List.cons_append] at e;injection e with e _;subst e;decide),jfn,List.cons_append,jbo _ _ (by decide),show (39 : UInt8) :: (Lib.decDigits m.toNat ++ s) = [39] ++ (Lib.decDigits m.toNat ++ s) from rfl,jb2]
 simp only [hd.1,hd.2,jbM m h,jgp]
theorem jnR {m : Int} {nm : ByteArray} (hn : NameOk nm) (h : 0 ≤ m) {s : Bs} (hs : Soft s) : prim rd n (tb (Ty.mk 19 m nm [] [] []).text ++ s) = some (.mk 19 m nm [] [] [],false,s):=by
 have hd:=jbG m s (jfG hs)
 rw [jnD nm h,List.append_assoc,jcv rd n hn (fun c r e => by rw [List.cons_append] at e;injection e with e _;subst e;decide),jfn,List.cons_append,jbo _ _ (by decide),jbo _ _ (by decide),show (64 : UInt8) :: (Lib.decDigits m.toNat ++ s) = [64] ++ (Lib.decDigits m.toNat ++ s) from rfl,jb2]
 simp only [hd.1,hd.2,jbM m h,jgp]
 rw [jdC (fun d r e => (by subst e;exact fun e2 => hs.head.2.2.2.2.1 e2.symm))]
theorem jnQ {m k : Int} {nm nm' : ByteArray} (hn : NameOk nm) (hn' : NameOk nm') (h : 0 ≤ m) {s : Bs} (hs : Soft s) : prim rd n (tb (Ty.mk 20 k nm [.mk 19 m nm' [] [] []] [] []).text ++ s) = some (.mk 20 0 nm [.mk 19 m nm' [] [] []] [] [],false,s):=by
 have hd:=jbG m (46 :: (tb nm ++ s)) (fun c r e => by injection e with e _;subst e;decide)
 have hnr:=jbD (p:=isN) (tb nm) s hn.all (jnf hs)
 rw [tx_20 nm nm' h]
 have e1 : (tb nm' ++ 64 :: (Lib.decDigits m.toNat ++ 46 :: tb nm)) ++ s = tb nm' ++ 64 :: (Lib.decDigits m.toNat ++ 46 :: (tb nm ++ s)):=by simp
 rw [e1,jcv rd n hn' (fun c r e => by injection e with e _;subst e;decide),jfn,jbo _ _ (by decide),jbo _ _ (by decide),show (64 : UInt8) :: (Lib.decDigits m.toNat ++ 46 :: (tb nm ++ s)) = [64] ++ (Lib.decDigits m.toNat ++ 46 :: (tb nm ++ s)) from rfl,jb2]
 simp only [hd.1,hd.2,jbM m h,jgp]
 rw [show (46 : UInt8) :: (tb nm ++ s) = [46] ++ (tb nm ++ s) from rfl,jb2]
 simp only [hnr.1,hnr.2,jgp]
theorem ji6 {w : Bs} {k m : Int} {nm : ByteArray} (hw : kwK w = k) (hk : k ≠ 0) (hwf : ∃ c r,w = c :: r ∧ isL c = true) (hwa : ∀ c ∈ w,isN c = true) (hn : NameOk nm) (h : 0 ≤ m) {s : Bs} (hs : Soft s) :
  prim rd n (w ++ 32 :: (tb nm ++ 35 :: Lib.decDigits m.toNat) ++ s) = some (.mk k m nm [] [] [],false,s):=by
 have hd:=jbG m s (jfG hs)
 have hnr:=jbD (p:=isN) (tb nm) (35 :: (Lib.decDigits m.toNat ++ s)) hn.all (fun c r e => by injection e with e _;subst e;decide)
 have e1 : w ++ 32 :: (tb nm ++ 35 :: Lib.decDigits m.toNat) ++ s = w ++ 32 :: (tb nm ++ 35 :: (Lib.decDigits m.toNat ++ s)):=by simp
 rw [e1,jeK rd n hwf hwa (fun c r e => by injection e with e _;subst e;decide),jfn,jbo _ _ (by decide),jbo _ _ (by decide),jbo _ _ (by decide)]
 simp only
 rw [if_neg (by rw [hw];exact hk),show (32 : UInt8) :: (tb nm ++ 35 :: (Lib.decDigits m.toNat ++ s)) = [32] ++ (tb nm ++ 35 :: (Lib.decDigits m.toNat ++ s)) from rfl,jb2]
 simp only [hnr.1,hnr.2,jgp]
 rw [show (35 : UInt8) :: (Lib.decDigits m.toNat ++ s) = [35] ++ (Lib.decDigits m.toNat ++ s) from rfl,jb2]
 simp only [hd.1,hd.2,jbM m h,hw]
theorem jme {m : Int} {nm : ByteArray} {ps : List Ty} (hn : NameOk nm) (h : 0 ≤ m) (hp : ∀ p ∈ ps,∀ s,Stop s → rd (tb p.text ++ s) = some (p.canon,s)) (hl : ps.length ≤ n) {s : Bs} (hs : Soft s) : prim rd n (tb (Ty.mk 17 m nm ps [] []).text ++ s) = some (.mk 17 m nm (ps.map Ty.canon) [] [],false,s):=by
 rw [jnb nm ps h]
 by_cases hps : ps = []
 ·subst hps
  have hd:=jbG m s (jfG hs)
  rw [if_pos rfl,List.append_nil]
  have e1 : (tb nm ++ 35 :: Lib.decDigits m.toNat) ++ s = tb nm ++ 35 :: (Lib.decDigits m.toNat ++ s):=by simp
  rw [e1,jcv rd n hn (fun c r e => by injection e with e _;subst e;decide),jfn,show (35 : UInt8) :: (Lib.decDigits m.toNat ++ s) = [35] ++ (Lib.decDigits m.toNat ++ s) from rfl,jb2]
  simp only [hd.1,hd.2,jbM m h,jgp]
  rw [jdC (fun d r e => (by subst e;exact fun e2 => hs.head.2.2.2.2.2.1 e2.symm))]
  rfl
 ·have hd:=jbG m (60 :: (Lib.join (ps.map fun p => tb p.text) [44,32] ++ ([62] ++ s))) (fun c r e => by injection e with e _;subst e;decide)
  rw [if_neg hps]
  have e1 : (tb nm ++ 35 :: (Lib.decDigits m.toNat ++ 60 :: (Lib.join (ps.map fun p => tb p.text) [44,32] ++ [62]))) ++ s = tb nm ++ 35 :: (Lib.decDigits m.toNat ++ 60 :: (Lib.join (ps.map fun p => tb p.text) [44,32] ++ ([62] ++ s))):=by simp
  rw [e1,jcv rd n hn (fun c r e => by injection e with e _;subst e;decide),jfn,show (35 : UInt8) :: (Lib.decDigits m.toNat ++ 60 :: (Lib.join (ps.map fun p => tb p.text) [44,32] ++ ([62] ++ s))) = [35] ++ (Lib.decDigits m.toNat ++ 60 :: (Lib.join (ps.map fun p => tb p.text) [44,32] ++ ([62] ++ s))) from rfl,jb2]
  simp only [hd.1,hd.2,jbM m h,jgp]
  rw [show (60 : UInt8) :: (Lib.join (ps.map fun p => tb p.text) [44,32] ++ ([62] ++ s)) = [60] ++ (Lib.join (ps.map fun p => tb p.text) [44,32] ++ ([62] ++ s)) from rfl,jb2]
  have hli:=jcB rd [62] [44,32] (fun p : Ty => tb p.text) Ty.canon (fun r => rfl) ps hps (fun b hb s' hs' => hp b hb s' (by
   rcases hs' with ⟨r,rfl⟩ | ⟨r,rfl⟩
   ·exact .inr (.inr (.inr (.inr (.inl rfl))))
   ·exact .inr (.inl rfl))) n s hl
  simp only [hli]
end
section
variable (rd : Bs → Option (Ty × Bs)) (n : Nat)
theorem jie {x : ByteArray × Bool × Ty} (hn : NameOk x.1) {s : Bs} (hx : rd (tb x.2.2.text ++ s) = some (x.2.2.canon,s)) : jgq rd (memT x ++ s) = some ((x.1,x.2.1,x.2.2.canon),s):=by
 obtain ⟨nm,m,t⟩:=x
 simp only at hn hx
 unfold memT jgq
 cases m with
 | true =>
   simp only [if_true]
   have e : tb nm ++ ([63] ++ 58 :: 32 :: tb t.text) ++ s = tb nm ++ ([63] ++ ([58,32] ++ (tb t.text ++ s))):=by simp
   have hsp:=jbD (p:=isN) (tb nm) ([63] ++ ([58,32] ++ (tb t.text ++ s))) hn.all (fun c r e => by simp only [List.cons_append] at e;injection e with e _;subst e;decide)
   rw [e,hsp.1,hsp.2,jb2]
   simp only
   rw [jb2]
   simp only [hx,jgp]
 | false =>
   simp only [Bool.false_eq_true,if_false,List.nil_append]
   have e : tb nm ++ (58 :: 32 :: tb t.text) ++ s = tb nm ++ ([58,32] ++ (tb t.text ++ s)):=by simp
   have hsp:=jbD (p:=isN) (tb nm) ([58,32] ++ (tb t.text ++ s)) hn.all (fun c r e => by simp only [List.cons_append] at e;injection e with e _;subst e;decide)
   rw [e,hsp.1,hsp.2]
   have e2 : eat [63] ([58,32] ++ (tb t.text ++ s)) = none:=jbo _ _ (by decide)
   rw [e2]
   simp only
   rw [jb2]
   simp only [hx,jgp]
theorem jc0 {nm : ByteArray} (h : NameOk nm) (s : Bs) : ∃ c r,tb nm ++ s = c :: r ∧ isL c = true:=by
 obtain ⟨c,r,e,hc⟩:=h.first
 exact ⟨c,r ++ s,by rw [e];rfl,hc⟩
theorem jdV {α : Type} (f : α → Bs) (sep : Bs) {xs : List α} (hne : xs ≠ []) : ∃ x r,x ∈ xs ∧ Lib.join (xs.map f) sep = f x ++ r:=by
 cases xs with
 | nil => exact absurd rfl hne
 | cons x r => exact ⟨x,Lib.joinTail sep (r.map f),by simp,by rw [List.map_cons,Lib.join_cons]⟩
theorem jmf (xs : List (ByteArray × Bool × Ty)) (hn : ∀ x ∈ xs,NameOk x.1) (hp : ∀ x ∈ xs,∀ s,Stop s → rd (tb x.2.2.text ++ s) = some (x.2.2.canon,s)) (hl : xs.length ≤ n) (s : Bs) :
  prim rd n (tb (Ty.mk 14 0 ⟨#[]⟩ (xs.map (·.2.2)) (xs.map (·.1)) (xs.map (·.2.1))).text ++ s) = some (.mk 14 0 ⟨#[]⟩ ((xs.map (·.2.2)).map Ty.canon) (xs.map (·.1)) (xs.map (·.2.1)),false,s):=by
 rw [jnc,List.cons_append,prim,if_neg (by decide),if_neg (by decide),if_neg (by decide),if_pos rfl,List.append_assoc]
 by_cases hx : xs = []
 ·subst hx
  have e : Lib.join (([] : List (ByteArray × Bool × Ty)).map memT) [59,32] = []:=rfl
  rw [e,List.nil_append,jb2]
  rfl
 ·obtain ⟨x,r,hxm,ej⟩:=jdV memT [59,32] hx
  have h1 : eat [125] (Lib.join (xs.map memT) [59,32] ++ ([125] ++ s)) = none:=by
   rw [ej]
   unfold memT
   rw [List.append_assoc,List.append_assoc]
   obtain ⟨c,r',e,hc⟩:=jc0 (hn x hxm) (((if x.2.1 = true then [63] else []) ++ 58 :: 32 :: tb x.2.2.text) ++ (r ++ ([125] ++ s)))
   rw [e]
   exact jbo _ _ (fun q => by subst q;exact absurd hc (by decide))
  have hli:=jcB (jgq rd) [125] [59,32] memT (fun x => (x.1,x.2.1,x.2.2.canon)) (fun r => rfl) xs hx (fun b hb s' hs' => jie rd (hn b hb) (hp b hb s' (by
   rcases hs' with ⟨r,rfl⟩ | ⟨r,rfl⟩
   ·exact .inr (.inr (.inr (.inl rfl)))
   ·exact .inr (.inr (.inl rfl))))) n s hl
  rw [h1]
  simp only [hli,List.map_map,Function.comp_def]
theorem jfP {x : Ty × Bool} {s : Bs} (hs : (∃ r,s = [41] ++ r) ∨ ∃ r,s = [44,32] ++ r) (h1 : x.2 = false → ∀ s,Stop s → rd (tb x.1.text ++ s) = some (x.1.canon,s)) (h2 : x.2 = true → ∀ s,Stop s → rd (tb x.1.roundT ++ s) = some (x.1.canon,s)) : jhb rd (parT x ++ s) = some ((x.1.canon,x.2),s):=by
 obtain ⟨t,m⟩:=x
 unfold parT jhb
 cases m with
 | true =>
   simp only [if_true] at h2 ⊢
   have hst : Stop ((63 : UInt8) :: s) := .inr (.inr (.inr (.inr (.inr rfl))))
   have q:=h2 trivial _ hst
   rw [List.append_assoc,show ([63] : Bs) ++ s = (63 : UInt8) :: s from rfl,q]
   simp only [show (63 : UInt8) :: s = [63] ++ s from rfl]
   simp only [jb2]
 | false =>
   simp only [Bool.false_eq_true,if_false] at h1 ⊢
   have hst : Stop s:=by
    rcases hs with ⟨r,rfl⟩ | ⟨r,rfl⟩
    ·exact .inl rfl
    ·exact .inr (.inl rfl)
   have e2 : eat [63] s = none:=by
    rcases hs with ⟨r,rfl⟩ | ⟨r,rfl⟩
    ·exact jbo _ _ (by decide)
    ·exact jbo _ _ (by decide)
   rw [h1 trivial s hst]
   simp only [e2]
theorem jnP (xs : List (Ty × Bool)) (r : Ty) (h1 : ∀ x ∈ xs,∀ s,Stop s → rd (tb x.1.text ++ s) = some (x.1.canon,s)) (h2 : ∀ x ∈ xs,∀ s,Stop s → rd (tb x.1.roundT ++ s) = some (x.1.canon,s)) (hr : ∀ s,Stop s → rd (tb r.text ++ s) = some (r.canon,s))
  (hf : ∀ x ∈ xs,∀ c q,parT x = c :: q → c ≠ 41) (hpn : ∀ x ∈ xs,parT x ≠ []) (hl : xs.length ≤ n) {s : Bs} (hs : Stop s) :
  prim rd n (tb (Ty.mk 15 0 ⟨#[]⟩ (xs.map (·.1) ++ [r]) [] (xs.map (·.2))).text ++ s) = some (.mk 15 0 ⟨#[]⟩ ((xs.map (·.1) ++ [r]).map Ty.canon) [] (xs.map (·.2)),true,s):=by
 rw [tx_fn,List.cons_append,prim,if_neg (by decide),if_neg (by decide),if_neg (by decide),if_neg (by decide),if_pos rfl]
 have e0 : Lib.join (xs.map parT) [44,32] ++ 41 :: 32 :: 61 :: 62 :: 32 :: tb r.text ++ s = Lib.join (xs.map parT) [44,32] ++ ([41] ++ ([32,61,62,32] ++ (tb r.text ++ s))):=by simp
 rw [e0]
 by_cases hx : xs = []
 ·subst hx
  have e : Lib.join (([] : List (Ty × Bool)).map parT) [44,32] = []:=rfl
  rw [e,List.nil_append,jb2]
  simp only
  rw [jb2]
  simp only [hr s hs]
  rfl
 ·obtain ⟨x,q,hxm,ej⟩:=jdV parT [44,32] hx
  have h0 : eat [41] (Lib.join (xs.map parT) [44,32] ++ ([41] ++ ([32,61,62,32] ++ (tb r.text ++ s)))) = none:=by
   rw [ej]
   cases hpt : parT x with
   | nil => exact absurd hpt (hpn x hxm)
   | cons c q' => exact jbo _ _ (fun e => hf x hxm c q' hpt e.symm)
  have hli:=jcB (jhb rd) [41] [44,32] parT (fun x => (x.1.canon,x.2)) (fun r => rfl) xs hx (fun b hb s' hs' => jfP rd hs' (fun _ => h1 b hb) (fun _ => h2 b hb)) n ([32,61,62,32] ++ (tb r.text ++ s)) hl
  rw [h0]
  simp only [hli]
  rw [jb2]
  simp only [hr s hs,List.map_map,List.map_append,Function.comp_def,List.map_cons,List.map_nil]
theorem jfL (t : Ty) (h1 : ∀ s,Stop s → rd (tb t.text ++ s) = some (t.canon,s)) (hf : ∀ c q,tb t.text = c :: q → c ≠ 41) (hne : tb t.text ≠ []) (hn : 1 ≤ n) {s : Bs} (hs : Soft s) :
  prim rd n (40 :: (tb t.text ++ [41]) ++ s) = some (t.canon,false,s):=by
 have e0 : 40 :: (tb t.text ++ [41]) ++ s = 40 :: (tb t.text ++ ([41] ++ s)):=by simp
 rw [e0,prim,if_neg (by decide),if_neg (by decide),if_neg (by decide),if_neg (by decide),if_pos rfl]
 have h0 : eat [41] (tb t.text ++ ([41] ++ s)) = none:=by
  cases hpt : tb t.text with
  | nil => exact absurd hpt hne
  | cons c q' => exact jbo _ _ (fun e => hf c q' hpt e.symm)
 have hli:=jcB (jhb rd) [41] [44,32] parT (fun x => (x.1.canon,x.2)) (fun r => rfl) [(t,false)] (by simp) (fun b hb s' hs' => jfP rd hs' (fun _ => by simp at hb;subst hb;exact h1) (fun q => by simp at hb;subst hb;cases q)) n s hn
 have e1 : Lib.join ([(t,false)].map parT) [44,32] = tb t.text:=by simp [Lib.join_one,parT]
 rw [e1] at hli
 rw [h0]
 simp only [hli]
 have h9 : eat [32,61,62,32] s = none:=by
  cases s with
  | nil => rfl
  | cons c r =>
    rcases hs with h | h | h | h | h | h | h | ⟨rfl,r',rfl⟩
    all_goals first | exact joj _ _ (by decide) | (subst h;exact jbo _ _ (by decide))
 rw [h9]
 rfl
end
theorem jdg {t : Ty} (h : t.Valid) : ∃ c r,tb t.text = c :: r ∧ c ≠ 41:=by
 induction h with
 | @basic k h1 h2 =>
   obtain ⟨_,_,_,c,r,e,hc⟩:=jiA h1 h2
   rw [jei h1 h2]
   exact ⟨c,r,e,fun q => by subst q;exact absurd hc (by decide)⟩
 | @num n h1 h2 =>
   rw [jnd]
   unfold Lib.itoa
   split
   ·exact ⟨_,_,rfl,by decide⟩
   ·obtain ⟨c,r,e,hc⟩:=jdE n.toNat
    exact ⟨c,r,e,fun q => by subst q;exact absurd hc (by decide)⟩
 | str h => rw [jna h];exact ⟨_,_,rfl,by decide⟩
 | @arr p hp ih =>
   rw [jne]
   obtain ⟨c,r,e,hc⟩:=ih
   unfold Ty.roundT
   rw [jbP]
   split
   ·exact ⟨40,_,rfl,by decide⟩
   ·rw [e];exact ⟨c,_,rfl,hc⟩
 | obj xs hn hr hp ih => rw [jnc];exact ⟨_,_,rfl,by decide⟩
 | fn xs r ho hp hr ih1 ih2 => rw [tx_fn];exact ⟨_,_,rfl,by decide⟩
 | un ps hl hk hs hg hp ih =>
   rw [tx_un]
   obtain ⟨x,r,hx,e⟩:=jdV (fun p : Ty => tb p.partT) [32,124,32] (xs:=ps) (fun q => by subst q;simp at hl)
   rw [e]
   obtain ⟨c,r',e2,hc⟩:=ih x hx
   have e3 : tb x.partT = if x.kind ∈ [15] then 40 :: (tb x.text ++ [41]) else tb x.text:=jbP _ _ _
   rw [e3]
   split
   ·exact ⟨40,_,rfl,by decide⟩
   ·rw [e2];exact ⟨c,_,rfl,hc⟩
 | ref ps h1 h2 hn hp ih =>
   rw [jnb _ ps h1]
   obtain ⟨c,r,e,hc⟩:=jc0 hn _
   exact ⟨c,r,e,fun q => by subst q;exact absurd hc (by decide)⟩
 | @named k m nm hk h1 h2 hn =>
   rcases hk with rfl | rfl | rfl | rfl | rfl
   ·rw [tx_18 _ h1]
    obtain ⟨c,r,e,hc⟩:=jc0 hn _
    exact ⟨c,r,e,fun q => by subst q;exact absurd hc (by decide)⟩
   ·rw [jnD _ h1]
    obtain ⟨c,r,e,hc⟩:=jc0 hn _
    exact ⟨c,r,e,fun q => by subst q;exact absurd hc (by decide)⟩
   ·rw [tx_21 _ h1];exact ⟨_,_,rfl,by decide⟩
   ·rw [tx_22 _ h1];exact ⟨_,_,rfl,by decide⟩
   ·rw [tx_23 _ h1];exact ⟨_,_,rfl,by decide⟩
 | case h1 h2 hn h1' h2' hn' =>
   rw [tx_20 _ _ h1']
   obtain ⟨c,r,e,hc⟩:=jc0 hn' _
   exact ⟨c,r,e,fun q => by subst q;exact absurd hc (by decide)⟩
theorem ji3 {t : Ty} (h : t.Valid) : ∃ c r,tb t.roundT = c :: r ∧ c ≠ 41:=by
 obtain ⟨c,r,e,hc⟩:=jdg h
 unfold Ty.roundT
 rw [jbP]
 split
 ·exact ⟨40,_,rfl,by decide⟩
 ·exact ⟨c,r,e,hc⟩
theorem jdM {t : Ty} {s : Bs} (h : eat [91,93] s = none) : ∀ m,jc9 m t s = (t,s)
 | 0 => rfl
 | m + 1 => by rw [jc9,h]
theorem jnK (s : Bs) : Soft ([91,93] ++ s):=show Soft ((91 : UInt8) :: 93 :: s) from .inr (.inr (.inr (.inr (.inr (.inr (.inl rfl))))))
theorem jiH (s : Bs) : Soft ([32,124,32] ++ s):=show Soft ((32 : UInt8) :: 124 :: 32 :: s) from .inr (.inr (.inr (.inr (.inr (.inr (.inr ⟨rfl,_,rfl⟩))))))
theorem jhY {s : Bs} (h : Stop s) : eat [91,93] s = none:=by
 cases s with
 | nil => rfl
 | cons c r => rcases h with h | h | h | h | h | h <;> (subst h;exact jbo _ _ (by decide))
theorem jhZ {s : Bs} (h : Stop s) : eat [32,124,32] s = none:=by
 cases s with
 | nil => rfl
 | cons c r => rcases h with h | h | h | h | h | h <;> (subst h;exact jbo _ _ (by decide))
def jhI (f : Nat) : Prop := ∀ t : Ty,t.Valid → t.nodes ≤ f → ∀ s,Stop s → jcZ f (tb t.text ++ s) = some (t.canon,s)
theorem jh8 {f : Nat} (H : jhI f) {p : Ty} (hv : p.Valid) : (p.kind ≠ 15 → p.kind ≠ 16 → p.nodes ≤ f + 1) → (p.kind = 15 ∨ p.kind = 16 → p.nodes ≤ f) → ∀ s,Soft s →
  ∃ b R d,d + 1 ≤ p.nodes ∧ prim (jcZ f) f (tb p.roundT ++ s) = some (b,false,R) ∧ ∀ m,jc9 (m + d) b R = jc9 m p.canon s:=by
 have base : ∀ {p : Ty},p.kind ≠ 15 → p.kind ≠ 16 → ∀ {s : Bs},prim (jcZ f) f (tb p.text ++ s) = some (p.canon,false,s) → ∃ b R d,d + 1 ≤ p.nodes ∧ prim (jcZ f) f (tb p.roundT ++ s) = some (b,false,R) ∧ ∀ m,jc9 (m + d) b R = jc9 m p.canon s:=by
  intro p h1 h2 s h
  refine ⟨p.canon,s,0,p.nodes_pos,?_,fun m => rfl⟩
  unfold Ty.roundT
  rw [jbP,if_neg (by simp [h1,h2])]
  exact h
 have par : ∀ {p : Ty},p.Valid → p.kind = 15 ∨ p.kind = 16 → p.nodes ≤ f → ∀ {s : Bs},Soft s → ∃ b R d,d + 1 ≤ p.nodes ∧ prim (jcZ f) f (tb p.roundT ++ s) = some (b,false,R) ∧ ∀ m,jc9 (m + d) b R = jc9 m p.canon s:=by
  intro p hp h1 hn s hs
  refine ⟨p.canon,s,0,p.nodes_pos,?_,fun m => rfl⟩
  unfold Ty.roundT
  rw [jbP,if_pos (by simpa using h1)]
  obtain ⟨c,r,e,hc⟩:=jdg hp
  exact jfL _ _ p (H p hp hn) (fun c' q e' => by rw [e] at e'; injection e' with e' _;subst e'; exact hc) (by rw [e];simp) (Nat.le_trans p.nodes_pos hn) hs
 induction hv with
 | @basic k h1 h2 =>
   intro hn _ s hs
   refine base (by show k ≠ 15;omega) (by show k ≠ 16;omega) ?_
   rw [jjM _ _ h1 h2 hs,Ty.canon_mk,if_neg (by omega)]
   rfl
 | @num n h1 h2 =>
   intro hn _ s hs
   refine base (by show (11 : Int) ≠ 15;decide) (by show (11 : Int) ≠ 16;decide) ?_
   rw [jmg _ _ n hs,Ty.canon_mk,if_neg (by decide)]
   rfl
 | @str a h =>
   intro hn _ s hs
   refine base (by show (12 : Int) ≠ 15;decide) (by show (12 : Int) ≠ 16;decide) ?_
   rw [jmd _ _ h s,Ty.canon_mk,if_neg (by decide)]
   rfl
 | @arr q hq ih =>
   intro hn _ s hs
   have hnn : (Ty.mk 13 0 ⟨#[]⟩ [q] [] []).nodes = 1 + q.nodes:=by rw [Ty.nodes_mk];simp
   have hn:=hn (by show (13 : Int) ≠ 15;decide) (by show (13 : Int) ≠ 16;decide)
   rw [hnn] at hn ⊢
   obtain ⟨b,R,d,h1,h2,h3⟩:=ih (fun _ _ => by omega) (fun _ => by omega) ([91,93] ++ s) (jnK s)
   refine ⟨b,R,d + 1,by omega,?_,fun m => ?_⟩
   ·unfold Ty.roundT
    rw [jbP,if_neg (by show (13 : Int) ∉ [15,16];decide),jne,List.append_assoc]
    exact h2
   ·rw [show m + (d + 1) = (m + 1) + d by omega,h3 (m + 1),jc9,jb2,Ty.canon_mk,if_neg (by decide)]
    rfl
 | obj xs hnm hr hp ih =>
   intro hn _ s hs
   have hn:=hn (by show (14 : Int) ≠ 15;decide) (by show (14 : Int) ≠ 16;decide)
   refine base (by show (14 : Int) ≠ 15;decide) (by show (14 : Int) ≠ 16;decide) ?_
   have hl : xs.length ≤ f:=by
    rw [Ty.nodes_mk] at hn
    have:=Ty.parts_nodes (xs.map (·.2.2))
    rw [List.length_map] at this
    omega
   rw [jmf _ _ xs hnm (fun x hx => H x.2.2 (hp x hx) (by
    have:=Ty.part_nodes (k:=14) (n:=0) (nm:=⟨#[]⟩) (ns:=xs.map (·.1)) (ms:=xs.map (·.2.1)) (List.mem_map_of_mem (f:=fun y : ByteArray × Bool × Ty => y.2.2) hx)
    omega)) hl s,Ty.canon_mk,if_neg (by decide)]
 | fn xs r ho hp hr ih1 ih2 =>
   intro _ hn s hs
   exact par (Ty.Valid.fn xs r ho hp hr) (.inl rfl) (hn (.inl rfl)) hs
 | un ps hl hk hst hg hp ih =>
   intro _ hn s hs
   exact par (Ty.Valid.un ps hl hk hst hg hp) (.inr rfl) (hn (.inr rfl)) hs
 | @ref n nm ps h1 h2 hnm hp ih =>
   intro hn _ s hs
   have hn:=hn (by show (17 : Int) ≠ 15;decide) (by show (17 : Int) ≠ 16;decide)
   refine base (by show (17 : Int) ≠ 15;decide) (by show (17 : Int) ≠ 16;decide) ?_
   have hl : ps.length ≤ f:=by
    rw [Ty.nodes_mk] at hn
    have:=Ty.parts_nodes ps
    omega
   rw [jme _ _ hnm h1 (fun p hpp => H p (hp p hpp) (by
    have:=Ty.part_nodes (k:=17) (n:=n) (nm:=nm) (ns := []) (ms := []) hpp
    omega)) hl hs,Ty.canon_mk,if_neg (by decide)]
 | @named k m nm hk h1 h2 hnm =>
   intro hn _ s hs
   refine base (by show k ≠ 15;omega) (by show k ≠ 16;omega) ?_
   rcases hk with rfl | rfl | rfl | rfl | rfl
   ·rw [jnS _ _ hnm h1 hs,Ty.canon_mk,if_neg (by decide)]
    rfl
   ·rw [jnR _ _ hnm h1 hs,Ty.canon_mk,if_neg (by decide)]
    rfl
   ·rw [tx_21 _ h1,ji6 _ _ (k:=21) (by decide) (by decide) ⟨_,_,rfl,by decide⟩ (by decide) hnm h1 hs,Ty.canon_mk,if_neg (by decide)]
    rfl
   ·rw [tx_22 _ h1,ji6 _ _ (k:=22) (by decide) (by decide) ⟨_,_,rfl,by decide⟩ (by decide) hnm h1 hs,Ty.canon_mk,if_neg (by decide)]
    rfl
   ·rw [tx_23 _ h1,ji6 _ _ (k:=23) (by decide) (by decide) ⟨_,_,rfl,by decide⟩ (by decide) hnm h1 hs,Ty.canon_mk,if_neg (by decide)]
    rfl
 | @case n m nm nm' h1 h2 hnm h1' h2' hnm' =>
   intro hn _ s hs
   refine base (by show (20 : Int) ≠ 15;decide) (by show (20 : Int) ≠ 16;decide) ?_
   rw [jnQ _ _ hnm hnm' h1' hs,Ty.canon_mk,if_pos rfl]
   simp only [List.map_cons,List.map_nil,Ty.canon_mk]
   rfl
theorem jjP {g : Nat} (H : jhI g) {p : Ty} (hv : p.Valid) (hn : p.nodes ≤ g) : ∀ s,Stop s → jcZ (g + 1) (40 :: (tb p.text ++ [41]) ++ s) = some (p.canon,s):=by
 intro s hs
 obtain ⟨c,r,e,hc⟩:=jdg hv
 have h:=jfL (jcZ g) g p (H p hv hn) (fun c' q e' => by rw [e] at e'; injection e' with e' _;subst e'; exact hc) (by rw [e];simp) (Nat.le_trans p.nodes_pos hn) hs.soft
 rw [jcZ,jln,h]
 simp only [jdM (jhY hs),jhZ hs]
theorem jjG {f : Nat} (H : ∀ g,g ≤ f → jhI g) {p : Ty} (hv : p.Valid) (hn : p.nodes + 1 ≤ f) : ∀ s,Stop s → jcZ f (tb p.roundT ++ s) = some (p.canon,s):=by
 intro s hs
 unfold Ty.roundT
 rw [jbP]
 split
 ·obtain ⟨g,rfl⟩ : ∃ g,f = g + 1:=⟨f - 1,by omega⟩
  exact jjP (H g (by omega)) hv (by omega) s hs
 ·exact H f (Nat.le_refl _) p hv (by omega) s hs
theorem jmi {p : Ty} (h : p.kind ≠ 16) : p.partT = p.roundT:=by
 unfold Ty.partT Ty.roundT jaK jas
 by_cases h1 : p.kind = 15
 ·rw [if_pos (by simp [h1]),if_pos (by simp [h1])]
 ·rw [if_neg (by simp [h1]),if_neg (by simp [h1,h])]
theorem jnv (s : Bs) : eat [91,93] ([32,124,32] ++ s) = none:=jbo _ _ (by decide)
theorem jdo {f : Nat} (H : jhI f) {p : Ty} (hv : p.Valid) (hk : p.kind ≠ 16) (hn : p.nodes ≤ f) {s : Bs} (hs : Soft s) (h91 : eat [91,93] s = none) : ∃ b R,prim (jcZ f) f (tb p.partT ++ s) = some (b,false,R) ∧ jc9 f b R = (p.canon,s):=by
 obtain ⟨b,R,d,h1,h2,h3⟩:=jh8 H hv (fun _ _ => by omega) (fun _ => hn) s hs
 refine ⟨b,R,by rw [jmi hk];exact h2,?_⟩
 rw [show f = (f - d) + d by omega,h3,jdM h91]
theorem jfy {f : Nat} (H : jhI f) {s : Bs} (hs : Stop s) : ∀ (ps : List Ty),ps ≠ [] → (∀ p ∈ ps,p.Valid ∧ p.kind ≠ 16 ∧ p.nodes ≤ f) → ∀ k,ps.length ≤ k → jgJ (jcZ f) f k (Lib.join (ps.map fun p => tb p.partT) [32,124,32] ++ s) = some (ps.map Ty.canon,s)
 | [],h,_,_,_ => absurd rfl h
 | [p],_,hp,k,hk => by
   obtain ⟨m,rfl⟩ : ∃ m,k = m + 1:=⟨k - 1,by simp at hk;omega⟩
   obtain ⟨h1,h2,h3⟩:=hp p (by simp)
   obtain ⟨b,R,q1,q2⟩:=jdo H h1 h2 h3 hs.soft (jhY hs)
   have e : Lib.join ([p].map fun p => tb p.partT) [32,124,32] = tb p.partT:=by simp [Lib.join_one]
   rw [e,jgJ,q1]
   simp only [q2,jhZ hs,List.map_cons,List.map_nil]
 | p :: p' :: ps,_,hp,k,hk => by
   obtain ⟨m,rfl⟩ : ∃ m,k = m + 1:=⟨k - 1,by simp at hk;omega⟩
   obtain ⟨h1,h2,h3⟩:=hp p (by simp)
   have ih:=jfy H hs (p' :: ps) (by simp) (fun q hq => hp q (by simp at hq ⊢; exact .inr hq)) m (by simp at hk ⊢; omega)
   have e : Lib.join ((p :: p' :: ps).map fun p => tb p.partT) [32,124,32] ++ s = tb p.partT ++ ([32,124,32] ++ (Lib.join ((p' :: ps).map fun p => tb p.partT) [32,124,32] ++ s)):=by
    simp [Lib.join,List.intercalate]
   obtain ⟨b,R,q1,q2⟩:=jdo H h1 h2 h3 (s := [32,124,32] ++ (Lib.join ((p' :: ps).map fun p => tb p.partT) [32,124,32] ++ s)) (jiH _) (jnv _)
   rw [e,jgJ,q1]
   simp only [q2,jb2]
   rw [ih]
   rfl
theorem jjI {f : Nat} (H : ∀ g,g ≤ f → jhI g) : jhI (f + 1):=by
 intro t hv hn s hs
 by_cases h15 : t.kind = 15
 ·cases hv with
  | fn xs r ho hp hr =>
    have hN : (Ty.mk 15 0 ⟨#[]⟩ (xs.map (·.1) ++ [r]) [] (xs.map (·.2))).nodes = 1 + (((xs.map (·.1)).map Ty.nodes).sum + r.nodes):=by
     rw [Ty.nodes_mk,List.map_append,List.sum_append]
     simp
    have hr1:=r.nodes_pos
    have hx1 : ∀ x ∈ xs,x.1.nodes + 1 ≤ f:=fun x hx => by
     have:=jd7 (List.mem_map_of_mem (f:=Ty.nodes) (List.mem_map_of_mem (f:=fun y : Ty × Bool => y.1) hx))
     omega
    have hl : xs.length ≤ f:=by
     have:=Ty.parts_nodes (xs.map (·.1))
     rw [List.length_map] at this
     omega
    have hne : ∀ x ∈ xs,∃ c q,parT x = c :: q ∧ c ≠ 41:=fun x hx => by
     unfold parT
     split
     ·obtain ⟨c,q,e,hc⟩:=ji3 (hp x hx)
      exact ⟨c,q ++ [63],by rw [e];rfl,hc⟩
     ·exact jdg (hp x hx)
    have h:=jnP (jcZ f) f xs r (fun x hx => H f (Nat.le_refl _) x.1 (hp x hx) (by have:=hx1 x hx;omega)) (fun x hx => jjG H (hp x hx) (hx1 x hx)) (H f (Nat.le_refl _) r hr (by omega))
     (fun x hx c q e => by
      obtain ⟨c',q',e',hc⟩:=hne x hx
      rw [e'] at e
      injection e with e _
      subst e
      exact hc)
     (fun x hx e => by
      obtain ⟨c',q',e',hc⟩:=hne x hx
      rw [e'] at e
      cases e) hl hs
    rw [jcZ,jln,h,Ty.canon_mk,if_neg (by decide)]
  | basic h1 h2 => exact absurd h15 (by simp only [Ty.kind];omega)
  | num => exact absurd h15 (by simp only [Ty.kind];omega)
  | str => exact absurd h15 (by simp only [Ty.kind];omega)
  | arr => exact absurd h15 (by simp only [Ty.kind];omega)
  | obj => exact absurd h15 (by simp only [Ty.kind];omega)
  | un => exact absurd h15 (by simp only [Ty.kind];omega)
  | ref => exact absurd h15 (by simp only [Ty.kind];omega)
  | named hk => exact absurd h15 (by simp only [Ty.kind];omega)
  | case => exact absurd h15 (by simp only [Ty.kind];omega)
 ·by_cases h16 : t.kind = 16
  ·cases hv with
   | un ps hl hk hst hg hp =>
     have hx1 : ∀ p ∈ ps,p.nodes ≤ f:=fun p hpp => by
      have:=Ty.part_nodes (k:=16) (n:=0) (nm:=⟨#[]⟩) (ns := []) (ms := []) hpp
      omega
     have hlf : ps.length ≤ f:=by
      rw [Ty.nodes_mk] at hn
      have:=Ty.parts_nodes ps
      omega
     obtain ⟨p,r,rfl⟩ : ∃ p r,ps = p :: r:=by
      cases ps with
      | nil => simp at hl
      | cons p r => exact ⟨p,r,rfl⟩
     have hrne : r ≠ []:=fun e => by subst e;simp at hl
     obtain ⟨b,R,q1,q2⟩:=jdo (H f (Nat.le_refl _)) (hp p (by simp)) (hk p (by simp)).1 (hx1 p (by simp)) (s := [32,124,32] ++ (Lib.join (r.map fun p => tb p.partT) [32,124,32] ++ s)) (jiH _) (jnv _)
     have hu:=jfy (H f (Nat.le_refl _)) hs r hrne (fun q hq => ⟨hp q (by simp [hq]),(hk q (by simp [hq])).1,hx1 q (by simp [hq])⟩) f (by simp at hlf;omega)
     have e : Lib.join ((p :: r).map fun p => tb p.partT) [32,124,32] ++ s = tb p.partT ++ ([32,124,32] ++ (Lib.join (r.map fun p => tb p.partT) [32,124,32] ++ s)):=by
      cases r with
      | nil => exact absurd rfl hrne
      | cons y r => simp [Lib.join,List.intercalate]
     rw [tx_un,e,jcZ,jln,q1]
     simp only [q2,jb2,hu]
     rw [Ty.canon_mk,if_neg (by decide)]
     rfl
   | basic h1 h2 => exact absurd h16 (by simp only [Ty.kind];omega)
   | num => exact absurd h16 (by simp only [Ty.kind];omega)
   | str => exact absurd h16 (by simp only [Ty.kind];omega)
   | arr => exact absurd h16 (by simp only [Ty.kind];omega)
   | obj => exact absurd h16 (by simp only [Ty.kind];omega)
   | fn => exact absurd h16 (by simp only [Ty.kind];omega)
   | ref => exact absurd h16 (by simp only [Ty.kind];omega)
   | named hk => exact absurd h16 (by simp only [Ty.kind];omega)
   | case => exact absurd h16 (by simp only [Ty.kind];omega)
  ·obtain ⟨b,R,d,h1,h2,h3⟩:=jh8 (H f (Nat.le_refl _)) hv (fun _ _ => hn) (fun h => by rcases h with h | h <;> contradiction) s hs.soft
   have e : tb t.roundT = tb t.text:=by
    unfold Ty.roundT
    rw [jbP,if_neg (by simp [h15,h16])]
   rw [e] at h2
   have hst : jc9 f b R = (t.canon,s):=by rw [show f = (f - d) + d by omega,h3,jdM (jhY hs)]
   rw [jcZ,jln,h2]
   simp only [hst,jhZ hs]
theorem reads (f : Nat) : jhI f:=by
 induction f using Nat.strongRecOn with
 | ind f ih =>
   cases f with
   | zero => exact fun t _ h => absurd h (by have:=t.nodes_pos;omega)
   | succ f => exact jjI fun g hg => ih g (by omega)
theorem text_inj {t u : Ty} (ht : t.Valid) (hu : u.Valid) (h : t.text = u.text) : t.canon = u.canon:=by
 have h1:=reads (t.nodes + u.nodes) t ht (by omega) [] trivial
 have h2:=reads (t.nodes + u.nodes) u hu (by omega) [] trivial
 rw [h,h2] at h1
 injection h1 with h1
 injection h1 with h1 _
 exact h1.symm
end Go.Proofs.YtiaepldmgighbaaGreatDoor
