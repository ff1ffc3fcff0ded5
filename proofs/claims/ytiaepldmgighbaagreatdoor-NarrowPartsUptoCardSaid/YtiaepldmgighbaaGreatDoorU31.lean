import Derived.Test.YtiaepldmgighbaaGreatDoorU30
import Derived.Test.YtiaepldmgighbaaGreatDoorU26
import Derived.Test.YtiaepldmgighbaaGreatDoorU14
namespace Go.Proofs.YtiaepldmgighbaaGreatDoor
open Go.RowKit
set_option linter.unusedSimpArgs false
mutual
def Ty.namesLe (M : Nat) : Ty → Prop
 | .mk _ _ nm ps ns _ => nm.size ≤ M ∧ (∀ s ∈ ns,s.size ≤ M) ∧ Ty.namesLeL M ps
def Ty.namesLeL (M : Nat) : List Ty → Prop
 | [] => True
 | p :: r => Ty.namesLe M p ∧ Ty.namesLeL M r
end
theorem Ty.namesLeL_iff {M : Nat} : ∀ {ps : List Ty},Ty.namesLeL M ps ↔ ∀ p ∈ ps,Ty.namesLe M p
 | [] => by rw [Ty.namesLeL];simp
 | q :: r => by
   rw [Ty.namesLeL,Ty.namesLeL_iff (ps:=r)]
   simp
theorem Ty.namesLe_mk {M : Nat} {k n : Int} {nm : ByteArray} {ps : List Ty} {ns : List ByteArray} {ms : List Bool} : (Ty.mk k n nm ps ns ms).namesLe M ↔ nm.size ≤ M ∧ (∀ s ∈ ns,s.size ≤ M) ∧ ∀ p ∈ ps,p.namesLe M:=by rw [Ty.namesLe,Ty.namesLeL_iff]
theorem Ty.Valid.ok {t : Ty} (h : t.Valid) : t.Ok:=by
 induction h with
 | @basic k h1 h2 => exact .mk ⟨by omega,by omega,fun e => by omega,fun e => by omega,fun e => by omega,fun e => by omega⟩ (by decide) (by decide) (fun p hp => by cases hp)
 | @num n h1 h2 => exact .mk ⟨by decide,by decide,fun e => by omega,fun e => by omega,fun e => by omega,fun e => by omega⟩ (by omega) (by omega) (fun p hp => by cases hp)
 | str h => exact .mk ⟨by decide,by decide,fun e => by omega,fun e => by omega,fun e => by omega,fun e => by omega⟩ (by decide) (by decide) (fun p hp => by cases hp)
 | arr hp ih => exact .mk ⟨by decide,by decide,fun e => by simp,fun e => by omega,fun e => by omega,fun e => by omega⟩ (by decide) (by decide) (fun p hp => by cases List.mem_singleton.1 hp;exact ih)
 | obj xs hn hr hp ih => exact .mk ⟨by decide,by decide,fun e => by omega,fun e => by simp,fun e => by omega,fun e => by omega⟩ (by decide) (by decide) (fun p hp' => by
   obtain ⟨x,hx,rfl⟩:=List.mem_map.1 hp'
   exact ih x hx)
 | fn xs r ho hp hr ih1 ih2 => exact .mk ⟨by decide,by decide,fun e => by omega,fun e => by omega,fun e => by simp,fun e => by omega⟩ (by decide) (by decide) (fun p hp' => by
   rcases List.mem_append.1 hp' with q | q
   ·obtain ⟨x,hx,rfl⟩:=List.mem_map.1 q
    exact ih1 x hx
   ·cases List.mem_singleton.1 q
    exact ih2)
 | un ps hl hk hs hg hp ih => exact .mk ⟨by decide,by decide,fun e => by omega,fun e => by omega,fun e => by omega,fun e => by omega⟩ (by decide) (by decide) ih
 | ref ps h1 h2 hn hp ih => exact .mk ⟨by decide,by decide,fun e => by omega,fun e => by omega,fun e => by omega,fun e => by omega⟩ (by omega) (by omega) ih
 | @named k n nm hk h1 h2 hn => exact .mk ⟨by omega,by omega,fun e => by omega,fun e => by omega,fun e => by omega,fun e => by omega⟩ (by omega) (by omega) (fun p hp => by cases hp)
 | @case n m nm nm' h1 h2 hn h1' h2' hn' => exact .mk ⟨by decide,by decide,fun e => by omega,fun e => by omega,fun e => by omega,fun e => by simp⟩ (by omega) (by omega) (fun p hp => by
   cases List.mem_singleton.1 hp
   exact .mk ⟨by decide,by decide,fun e => by omega,fun e => by omega,fun e => by omega,fun e => by omega⟩ (by omega) (by omega) (fun p hp => by cases hp))
theorem jiC {M : Nat} : ∀ (l : List Nat),(∀ x ∈ l,x ≤ M) → jaF l ≤ l.length * (M + 32)
 | [],_ => by simp [jaF]
 | x :: r,h => by
   have ih:=jiC r fun y hy => h y (by simp [hy])
   have h1:=h x (by simp)
   rw [jax,List.length_cons,Nat.add_mul]
   omega
theorem jiB {M c : Nat} : ∀ (ps : List Ty),(∀ p ∈ ps,p.wide + (M + 64) ≤ p.nodes * c) → jaF (ps.map Ty.wide) + ps.length * (M + 32) ≤ (ps.map Ty.nodes).sum * c
 | [],_ => by simp [jaF]
 | p :: r,h => by
   have ih:=jiB r fun y hy => h y (by simp [hy])
   have h1:=h p (by simp)
   simp only [List.map_cons,jax,List.sum_cons,List.length_cons,Nat.add_mul,Nat.one_mul]
   omega
theorem jaJ {M : Nat} {k n : Int} {nm : ByteArray} {ps : List Ty} {ns : List ByteArray} {ms : List Bool} (h1 : nm.size ≤ M) (h2 : ∀ s ∈ ns,s.size ≤ M) (h3 : ns.length ≤ ps.length) (h4 : ∀ p ∈ ps,p.wide + (M + 64) ≤ p.nodes * (192 + 7 * M)) : (Ty.mk k n nm ps ns ms).wide + (M + 64) ≤ (Ty.mk k n nm ps ns ms).nodes * (192 + 7 * M):=by
 rw [Ty.wide_mk,Ty.nodes_mk]
 have q1:=jiB ps h4
 have q2:=jiC (M:=M) (ns.map (·.size)) (fun x hx => by
  obtain ⟨s,hs,rfl⟩:=List.mem_map.1 hx
  exact h2 s hs)
 rw [List.length_map] at q2
 have q3:=Nat.mul_le_mul_right (M + 32) h3
 rw [Nat.add_mul,Nat.one_mul]
 omega
theorem jnz {M : Nat} {t : Ty} (h : t.Valid) : t.namesLe M → t.wide + (M + 64) ≤ t.nodes * (192 + 7 * M):=by
 induction h with
 | basic => intro hn;obtain ⟨q1,q2,q3⟩:=Ty.namesLe_mk.1 hn;exact jaJ q1 q2 (by simp) (by simp)
 | num => intro hn;obtain ⟨q1,q2,q3⟩:=Ty.namesLe_mk.1 hn;exact jaJ q1 q2 (by simp) (by simp)
 | str => intro hn;obtain ⟨q1,q2,q3⟩:=Ty.namesLe_mk.1 hn;exact jaJ q1 q2 (by simp) (by simp)
 | arr hp ih => intro hn;obtain ⟨q1,q2,q3⟩:=Ty.namesLe_mk.1 hn;exact jaJ q1 q2 (by simp) (fun p hp' => by cases List.mem_singleton.1 hp'; exact ih (q3 _ (by simp)))
 | obj xs hnm hr hp ih =>
   intro hn
   obtain ⟨q1,q2,q3⟩:=Ty.namesLe_mk.1 hn
   exact jaJ q1 q2 (by simp) (fun p hp' => by
    have q:=q3 p hp'
    obtain ⟨x,hx,rfl⟩:=List.mem_map.1 hp'
    exact ih x hx q)
 | fn xs r ho hp hr ih1 ih2 =>
   intro hn
   obtain ⟨q1,q2,q3⟩:=Ty.namesLe_mk.1 hn
   exact jaJ q1 q2 (by simp) (fun p hp' => by
    have q:=q3 p hp'
    rcases List.mem_append.1 hp' with h | h
    ·obtain ⟨x,hx,rfl⟩:=List.mem_map.1 h
     exact ih1 x hx q
    ·cases List.mem_singleton.1 h
     exact ih2 q)
 | un ps hl hk hs hg hp ih => intro hn;obtain ⟨q1,q2,q3⟩:=Ty.namesLe_mk.1 hn;exact jaJ q1 q2 (by simp) (fun p hp' => ih p hp' (q3 p hp'))
 | ref ps h1 h2 hnm hp ih => intro hn;obtain ⟨q1,q2,q3⟩:=Ty.namesLe_mk.1 hn;exact jaJ q1 q2 (by simp) (fun p hp' => ih p hp' (q3 p hp'))
 | named => intro hn;obtain ⟨q1,q2,q3⟩:=Ty.namesLe_mk.1 hn;exact jaJ q1 q2 (by simp) (by simp)
 | case => intro hn;obtain ⟨q1,q2,q3⟩:=Ty.namesLe_mk.1 hn;exact jaJ q1 q2 (by simp) (fun p hp' => by
   have e:=List.mem_singleton.1 hp'
   subst e
   obtain ⟨r1,r2,r3⟩:=Ty.namesLe_mk.1 (q3 _ hp')
   exact jaJ r1 r2 (by simp) (by simp))
structure Sm (t : Ty) : Prop where
 nodes : t.nodes ≤ 100000
 names : t.namesLe 2000000
theorem Sm.part {k n : Int} {nm : ByteArray} {ps : List Ty} {ns : List ByteArray} {ms : List Bool} (h : Sm (.mk k n nm ps ns ms)) {p : Ty} (hp : p ∈ ps) : Sm p :=
 ⟨Nat.le_trans (Nat.le_of_lt (Ty.part_nodes (k:=k) (n:=n) (nm:=nm) (ns:=ns) (ms:=ms) hp)) h.nodes,(Ty.namesLe_mk.1 h.names).2.2 p hp⟩
theorem Sm.text {t : Ty} (h : Sm t) (hv : t.Valid) : t.text.size ≤ 100000000000000:=by
 have h1:=jkA hv.ok
 have h2:=jnz hv h.names
 have h3:=Nat.mul_le_mul_right (192 + 7 * 2000000) h.nodes
 omega
theorem Sm.length {k n : Int} {nm : ByteArray} {ps : List Ty} {ns : List ByteArray} {ms : List Bool} (h : Sm (.mk k n nm ps ns ms)) : ps.length ≤ 100000:=by
 have h1:=h.nodes
 rw [Ty.nodes_mk] at h1
 have:=Ty.parts_nodes ps
 omega
theorem Sm.name {k n : Int} {nm : ByteArray} {ps : List Ty} {ns : List ByteArray} {ms : List Bool} (h : Sm (.mk k n nm ps ns ms)) : nm.size ≤ 1000000000:=by
 have:=(Ty.namesLe_mk.1 h.names).1
 omega
theorem jgW (hQ : jdG) {t : Ty} (h : t.Valid) : Sm t → jaO t:=by
 induction h with
 | @basic k h1 h2 => intro _;exact (jgU k 0 _ _ _ _ h1 h2)
 | @num n h1 h2 => intro _;exact (jjB n _ _ _ _ (by omega) (by omega))
 | str h => intro hs;exact (jjA hQ 0 _ _ _ _ hs.name)
 | arr hp ih => intro hs;exact (jjz 0 _ _ _ _ (by simp) fun p hp' => by
   cases List.mem_singleton.1 hp'
   exact ⟨jau (ih (hs.part (by simp))),(hs.part (by simp)).text hp⟩)
 | obj xs hn hr hp ih =>
   intro hs
   have hv : Ty.Valid (.mk 14 0 ⟨#[]⟩ (xs.map (·.2.2)) (xs.map (·.1)) (xs.map (·.2.1))) := .obj xs hn hr hp
   have ht:=hs.text hv
   have hl:=hs.length
   rw [List.length_map] at hl
   refine (jjy 0 _ xs hl (fun x hx => ?_) ?_)
   ·have hsp:=hs.part (List.mem_map_of_mem (f:=fun y : ByteArray × Bool × Ty => y.2.2) hx)
    refine ⟨jau (ih x hx hsp),hsp.text (hp x hx),?_⟩
    have:=(Ty.namesLe_mk.1 hs.names).2.1 x.1 (List.mem_map_of_mem (f:=fun y : ByteArray × Bool × Ty => y.1) hx)
    omega
   ·have e : (Ty.mk 14 0 ⟨#[]⟩ (xs.map (·.2.2)) (xs.map (·.1)) (xs.map (·.2.1))).text = ⟨#[123]⟩ ++ jav ⟨#[59,32]⟩ (xs.map fun x => memS x.1 x.2.1 x.2.2.text) ++ ⟨#[125]⟩:=jiO 0 _ xs
    rw [e] at ht
    simp only [ByteArray.size_append] at ht
    omega
 | fn xs r ho hp hr ih1 ih2 =>
   intro hs
   have hv : Ty.Valid (.mk 15 0 ⟨#[]⟩ (xs.map (·.1) ++ [r]) [] (xs.map (·.2))) := .fn xs r ho hp hr
   have ht:=hs.text hv
   have hl:=hs.length
   rw [List.length_append,List.length_map] at hl
   rw [jlo] at ht
   simp only [ByteArray.size_append] at ht
   refine (jjx 0 _ xs r _ (by omega) (fun x hx => ?_) ?_ (by omega))
   ·have hsp:=hs.part (List.mem_append.2 (.inl (List.mem_map_of_mem (f:=fun y : Ty × Bool => y.1) hx)))
    exact ⟨jau (ih1 x hx hsp),hsp.text (hp x hx)⟩
   ·have hsp:=hs.part (List.mem_append.2 (.inr (List.mem_singleton.2 rfl)))
    exact ⟨jau (ih2 hsp),hsp.text hr⟩
 | un ps hl hk hst hg hp ih =>
   intro hs
   have hv : Ty.Valid (.mk 16 0 ⟨#[]⟩ ps [] []) := .un ps hl hk hst hg hp
   exact (jjw 0 _ _ _ _ (fun e => by subst e;simp at hl) hs.length (fun p hp' => ⟨jau (ih p hp' (hs.part hp')),(hs.part hp').text (hp p hp')⟩) (hs.text hv))
 | @ref n nm ps h1 h2 hn hp ih =>
   intro hs
   have hv : Ty.Valid (.mk 17 n nm ps [] []) := .ref ps h1 h2 hn hp
   exact (jjv n _ _ _ _ (by omega) (by omega) hs.name hs.length (fun p hp' => jau (ih p hp' (hs.part hp'))) (hs.text hv))
 | @named k n nm hk h1 h2 hn =>
   intro hs
   rcases hk with rfl | rfl | rfl | rfl | rfl
   ·exact (jju n _ _ _ _ (by omega) (by omega) hs.name)
   ·exact (jfF n _ _ _ _ (by omega) (by omega) hs.name)
   ·exact (jca 21 n _ _ _ _ (by omega) (by omega) (by omega) hs.name)
   ·exact (jca 22 n _ _ _ _ (by omega) (by omega) (by omega) hs.name)
   ·exact (jca 23 n _ _ _ _ (by omega) (by omega) (by omega) hs.name)
 | @case n m nm nm' h1 h2 hn h1' h2' hn' =>
   intro hs
   refine (jjt n _ _ _ _ (by simp) hs.name fun p hp' => ?_)
   cases List.mem_singleton.1 hp'
   have hsp:=hs.part (List.mem_singleton.2 rfl)
   exact ⟨jau (jfF m _ _ _ _ (by omega) (by omega) hsp.name),hsp.text (.named (.inr (.inl rfl)) h1' h2' hn')⟩
theorem jm2 (hQ : jdG) {t : Ty} (h : t.Valid) (hs : Sm t) : jaL t:=jau (jgW hQ h hs)
theorem jkC (hQ : jdG) {t : Ty} (h : t.Valid) (hs : Sm t) : jgB t:=jcn (jgW hQ h hs)
def cntS : List (ByteArray × Nat) → ByteArray → Nat
 | [],_ => 0
 | (a,n) :: l,k => if a = k then n else cntS l k
theorem jfc : ∀ (l : List (ByteArray × Nat)) (k : ByteArray),(∀ x ∈ l,x.1 ≠ k) → cntS l k = 0
 | [],_,_ => rfl
 | (a,n) :: l,k,h => by
   rw [cntS,if_neg (h (a,n) (by simp))]
   exact jfc l k fun x hx => h x (by simp [hx])
theorem jjd : ∀ (l : List (ByteArray × Nat)) (k : ByteArray) (j n : Nat),l[j]? = some (k,n) → (l.map (·.1)).Nodup → cntS l k = n
 | [],_,j,_,h,_ => by simp at h
 | (a,m) :: l,k,0,n,h,_ => by simp at h;rw [cntS,if_pos h.1];exact h.2
 | (a,m) :: l,k,j + 1,n,h,hn => by
   simp only [List.map_cons,List.nodup_cons] at hn
   have h : l[j]? = some (k,n):=by simpa using h
   rw [cntS,if_neg (fun e => hn.1 (by subst e;exact List.mem_map_of_mem (f:=(·.1)) (List.mem_of_getElem? h)))]
   exact jjd l k j n h hn.2
theorem jhE : ∀ (l : List (ByteArray × Nat)) (k : ByteArray) (n : Nat) (k' : ByteArray),(∀ x ∈ l,x.1 ≠ k) → cntS (l ++ [(k,n)]) k' = if k' = k then n else cntS l k'
 | [],k,n,k',_ => by
   show (if k = k' then n else 0) = if k' = k then n else 0
   simp only [eq_comm]
 | (a,m) :: l,k,n,k',h => by
   have ha : a ≠ k:=h (a,m) (by simp)
   show (if a = k' then m else cntS (l ++ [(k,n)]) k') = if k' = k then n else if a = k' then m else cntS l k'
   rw [jhE l k n k' fun x hx => h x (by simp [hx])]
   by_cases e : a = k'
   ·subst e;rw [if_pos rfl,if_neg ha,if_pos rfl]
   ·rw [if_neg e,if_neg e]
theorem jjc : ∀ (l : List (ByteArray × Nat)) (k : ByteArray) (n m : Nat) (j : Nat) (k' : ByteArray),l[j]? = some (k,m) → (l.map (·.1)).Nodup → cntS (l.set j (k,n)) k' = if k' = k then n else cntS l k'
 | [],_,_,_,j,_,h,_ => by simp at h
 | (a,b) :: l,k,n,m,0,k',h,_ => by
   simp at h
   obtain ⟨rfl,rfl⟩:=h
   show (if a = k' then n else cntS l k') = if k' = a then n else if a = k' then b else cntS l k'
   by_cases e : a = k'
   ·subst e;simp
   ·rw [if_neg e,if_neg (fun x => e x.symm),if_neg e]
 | (a,b) :: l,k,n,m,j + 1,k',h,hn => by
   simp only [List.map_cons,List.nodup_cons] at hn
   have h : l[j]? = some (k,m):=by simpa using h
   have ha : a ≠ k:=fun e => hn.1 (by subst e;exact List.mem_map_of_mem (f:=(·.1)) (List.mem_of_getElem? h))
   show (if a = k' then b else cntS (l.set j (k,n)) k') = if k' = k then n else if a = k' then b else cntS l k'
   rw [jjc l k n m j k' h hn.2]
   by_cases e : a = k'
   ·subst e;rw [if_pos rfl,if_neg ha,if_pos rfl]
   ·rw [if_neg e,if_neg e]
def SMap (w : World) (m : Nat) (f : ByteArray → Nat) : Prop := ∃ es clk cs,w.heap[m]? = some (.map es clk) ∧ Entries es Value.string numV cs ∧ (cs.map (·.1)).Nodup ∧ ∀ k,cntS cs k = f k
theorem SMap.keep {w w' : World} {m : Nat} {f : ByteArray → Nat} (h : SMap w m f) (k : w'.heap[m]? = w.heap[m]?) : SMap w' m f:=let ⟨es,clk,cs,h1,h2⟩:=h; ⟨es,clk,cs,by rw [k];exact h1,h2⟩
theorem SMap.up {w w' : World} {m : Nat} {f : ByteArray → Nat} (h : SMap w m f) (k : Up w w') : SMap w' m f:=let ⟨es,clk,cs,h1,h2⟩:=h; ⟨es,clk,cs,k.get h1,h2⟩
theorem SMap.lt {w : World} {m : Nat} {f : ByteArray → Nat} (h : SMap w m f) : m < w.heap.size:=let ⟨_,_,_,h1,_⟩:=h;ja0 h1
theorem SMap.look {w : World} {m : Nat} {f : ByteArray → Nat} (h : SMap w m f) (k : ByteArray) : (Instr.lookup MsT (.map (some m)) (.string k) false).run Tryz.prog w = .ok (.int .i64 (f k)) w:=by
 obtain ⟨es,clk,cs,h1,h2,h3,h4⟩:=h
 rw [← h4 k]
 rcases jbE cs k with hm | ⟨j,n,hj⟩
 ·rw [jfc cs k hm]
  exact (jbk (f:=numV) Tryz.underlying100 Tryz.underlying9 jb9 (show (zeroValue 3).run Tryz.prog w = .ok (.int .i64 0) w by kernel_rfl) h1 h2 k hm).2
 ·rw [jjd cs k j n hj h3]
  exact (jaG (f:=numV) Tryz.underlying100 Tryz.underlying9 jb9 h1 h2 k n j hj h3).2
theorem SMap.bump {w : World} {m : Nat} {f : ByteArray → Nat} (h : SMap w m f) (k : ByteArray) : ∃ es' clk',(Instr.mapUpdate MsT (.map (some m)) (.string k) (.int .i64 ((f k : Int) + 1))).run Tryz.prog w = .ok () (putB w m (.map es' clk')) ∧ ∀ W,W.heap[m]? = some (.map es' clk') → SMap W m (fun k' => if k' = k then f k + 1 else f k'):=by
 obtain ⟨es,clk,cs,h1,h2,h3,h4⟩:=h
 rcases jbE cs k with hm | ⟨j,n,hj⟩
 ·have e0 : f k = 0:=by rw [← h4 k,jfc cs k hm]
  obtain ⟨es',clk',hr,hE⟩:=jaP (f:=numV) Tryz.underlying100 Tryz.underlying9 jb9 h1 h2 k (f k + 1) hm
  refine ⟨es',clk',hr,fun W hW => ⟨es',clk',_,hW,hE,?_,fun k' => ?_⟩⟩
  ·rw [List.map_append,List.nodup_append]
   refine ⟨h3,by simp,?_⟩
   intro a ha b hb e
   simp at hb
   subst hb
   subst e
   obtain ⟨x,hx,hx2⟩:=List.mem_map.1 ha
   exact hm x hx hx2
  ·rw [jhE cs k _ k' hm,h4 k']
 ·obtain ⟨es',clk',hr,hE⟩:=jdk (f:=numV) Tryz.underlying100 Tryz.underlying9 jb9 h1 h2 k (f k + 1) n j hj h3
  refine ⟨es',clk',hr,fun W hW => ⟨es',clk',_,hW,hE,?_,fun k' => ?_⟩⟩
  ·have e : (cs.set j (k,f k + 1)).map (·.1) = cs.map (·.1):=by
    apply List.ext_getElem?
    intro i
    simp only [List.getElem?_map,List.getElem?_set]
    by_cases hij : j = i
    ·subst hij
     have hl : j < cs.length:=(List.getElem?_eq_some_iff.1 hj).1
     rw [if_pos rfl,if_pos hl,hj]
     rfl
    ·simp [hij]
   rw [e]
   exact h3
  ·rw [jjc cs k _ n j k' hj h3,h4 k']
theorem TyAt.putB {N : Nat → Prop} {B : Nat} {w : World} {m : Nat} {es es' : Array MapEntry} {c c' : Nat} (hm : w.heap[m]? = some (.map es c)) {b : Nat} {t : Ty} (h : TyAt N B w b t) : TyAt N B (putB w m (.map es' c')) b t :=
 h.keep (fun g cs T f _ _ q => by
  rw [jat _ _ _ _ (fun e => by rw [e,hm] at q;cases q)]
  exact q) (fun b' _ k n nm pv nv mv sz said _ q => ⟨said,by
  rw [jat _ _ _ _ (fun e => by rw [e,hm] at q;cases q)]
  exact q, .inl rfl⟩)
theorem Memo.putB {S : Nat → Prop} {B : Nat} {w : World} {m : Nat} {es es' : Array MapEntry} {c c' : Nat} (hm : w.heap[m]? = some (.map es c)) (hs : S m) (hB : B ≤ m) : Memo S B w (putB w m (.map es' c')) where
 os:=rfl
 tape:=rfl
 output:=rfl
 size:=by rw [jbK];exact Nat.le_refl _
 obj b o h1 _ h3:=by rw [jat _ _ _ _ (fun e => h3 (by rw [e];exact hs))];exact h1
 low b h1 _:=jat _ _ _ _ (by omega)
 ty _ _ _ _ ht:=ht.putB hm
 fld b cs f h:=⟨cs,by
  rw [jat _ _ _ _ (fun e => by rw [e,hm] at h;cases h)]
  exact h,fun _ _ => rfl⟩
structure FlatAt (N : Nat → Prop) (B : Nat) (w : World) (qs : List Nat) (t : Ty) : Prop where
 len : qs.length = t.flat.length
 at_ : ∀ (j q : Nat) (p : Ty),qs[j]? = some q → t.flat[j]? = some p → TyAt N B w q p
theorem FlatAt.memo {N : Nat → Prop} {B : Nat} {w w' : World} {qs : List Nat} {t : Ty} (h : FlatAt N B w qs t) (k : Memo jag B w w') : FlatAt N B w' qs t:=⟨h.len,fun j q p h1 h2 => (h.at_ j q p h1 h2).memo k⟩
theorem Memo.rows {S : Nat → Prop} {B : Nat} {g : Nat} : ∀ {vs : List Value} {w : World} {cs : Array Value} {f : Nat × Nat},w.heap[g]? = some (.cells cs TpT f) → S g → B ≤ g → ∀ (i : Nat) (_ : Unit),Memo S B w (w.setCells g i vs)
 | [],w,_,_,_,_,_,_,_ => Memo.refl _ _ _
 | v :: vs,w,cs,f,h,hs,hB,i,u => by
   rw [World.setCells]
   exact (Memo.row (i:=i) h hs hB v).trans (Memo.rows (ja6 (i:=i) h v) hs hB (i + 1) u)
set_option maxRecDepth 100000
set_option maxHeartbeats 1600000
theorem jit (B : Nat) (p : Nat → Bool) (xs : List Nat) (g off cap n3 n4 : Nat) (cs : Array Value) (fz : Nat × Nat) (w : World) (h1 : w.heap[g]? = some (.cells cs TpT fz)) (h3 : ∀ j x,xs[j]? = some x → cs[off + j]? = some (ptrV x)) (hlen : xs.length ≤ 1000000)
  (hp : ∀ x ∈ xs,∀ W,Memo jag B w W → Calls Tryz.prog 92 #[.pointer (some ⟨x,0,none⟩), .pointer (some ⟨n3,0,none⟩), .pointer (some ⟨n4,0,none⟩)] W fun e W' => e = .returned (.bool (p x)) ∧ Memo jag B W W') :
  Calls Tryz.prog 145 #[.slice (some ⟨g,off,none⟩) xs.length cap, .func (.func goesF) #[] #[.pointer (some ⟨n3,0,none⟩), .pointer (some ⟨n4,0,none⟩)]] w fun e w' =>
   Memo jag B w w' ∧ ((e = .returned (.int .i64 (-1)) ∧ ∀ x ∈ xs,p x = false) ∨ ∃ (j x : Nat),e = .returned (.int .i64 j) ∧ xs[j]? = some x ∧ p x = true ∧ ∀ y ∈ xs.take j,p y = false):=by
 have HP:=Lib.hid hp
 have HC:=Lib.hid (And.intro h1 h3)
 clear h1 h3 hp
 go_enter Tryz.func145,Tryz.ntmps145
 go_wp2_with fail
 go_loopw [8] (fun i wr => ∃ j : Nat,j ≤ xs.length ∧ i = .int .i64 j ∧ (∀ y ∈ xs.take j,p y = false) ∧ Memo jag B w wr) (fun i _ => xs.length - (intOf i).toNat)
 case atStart => exact ⟨0,Nat.zero_le _,rfl,(by simp),Memo.of_up _ _ uq⟩
 case round =>
  obtain ⟨j,hj,rfl,hno,hup⟩:=hrel
  have HN:=Lib.hid hno
  clear hno
  by_cases hlt : j < xs.length
  ·have hji : (j : Int) < xs.length:=by omega
   obtain ⟨x,hx⟩ : ∃ x,xs[j]? = some x:=⟨_,List.getElem?_eq_getElem hlt⟩
   have y0 : wr.cell? ⟨g,off + j,none⟩ = some (.pointer (some ⟨x,0,none⟩)):=(ja1 (hup.cells HC.out.1 (by decide) (fun e => e)) _).trans (HC.out.2 j x hx)
   have hc:=HP.out x (List.mem_of_getElem? hx)
   have HX:=Lib.hid hx
   have HQ:=Lib.hid hc
   clear hx hlt hc
   cases hq : p x with
   | true =>
     have hq2 : Hid (p x = true):=hq
     go_wp2_with (first | (go_at_call 92;refine (HQ.out _ (hup.up uq)).mono ?_;rintro e w2 ⟨rfl,hm2⟩;simp only [hq2.out];have hup:=(hup.up (show Up wr _ from uq)).trans hm2;clear hm2))
     refine bodyPost_ret (v := .int .i64 j) (by simp [results,Tryz.results145,go_sem]) rfl ?_
     exact ⟨hup, .inr ⟨j,x,rfl,HX.out,hq2.out,HN.out⟩⟩
   | false =>
     have hq2 : Hid (p x = false):=hq
     go_wp2_with (first | (go_at_call 92;refine (HQ.out _ (hup.up uq)).mono ?_;rintro e w2 ⟨rfl,hm2⟩;simp only [hq2.out];have hup:=(hup.up (show Up wr _ from uq)).trans hm2;clear hm2))
     refine ⟨⟨j + 1,by omega,by simp,fun y hy => ?_,hup⟩,by simp [intOf];omega⟩
     rw [List.take_add_one,HX.out] at hy
     rcases List.mem_append.1 hy with hy | hy
     ·exact HN.out y hy
     ·simp at hy;subst hy;exact hq2.out
  ·obtain rfl : j = xs.length:=by omega
   clear hlt
   go_wp2_with fail
   refine bodyPost_ret (v := .int .i64 (-1)) (by simp [results,Tryz.results145,go_sem]) rfl ?_
   exact ⟨hup.up uq, .inl ⟨rfl,by have:=HN.out;rwa [List.take_length] at this⟩⟩
set_option maxHeartbeats 3200000
theorem jhK (B : Nat) (p : Nat → Bool) (xs : List Nat) (g off cap n3 n4 : Nat) (cs : Array Value) (w : World) (h1 : w.heap[g]? = some (.cells cs TpT (0,0))) (h3 : ∀ j x,xs[j]? = some x → cs[off + j]? = some (ptrV x)) (hlen : xs.length ≤ 1000000) (hcap : xs.length ≤ cap) (hgB : B ≤ g)
  (hp : ∀ x ∈ xs,∀ W,Memo (fun b => b = g) B w W → Calls Tryz.prog 92 #[.pointer (some ⟨x,0,none⟩), .pointer (some ⟨n3,0,none⟩), .pointer (some ⟨n4,0,none⟩)] W fun e W' => e = .returned (.bool (p x)) ∧ Memo jag B W W') :
  Calls Tryz.prog 94 #[.slice (some ⟨g,off,none⟩) xs.length cap, .func (.func goesF) #[] #[.pointer (some ⟨n3,0,none⟩), .pointer (some ⟨n4,0,none⟩)]] w fun e w' =>
   e = .returned (.slice (some ⟨g,off,none⟩) (xs.filter fun x => !p x).length cap) ∧ Memo (fun b => b = g) B w w' ∧ ∃ cs',w'.heap[g]? = some (.cells cs' TpT (0,0)) ∧ cs'.size = cs.size ∧ ∀ j x,(xs.filter fun x => !p x)[j]? = some x → cs'[off + j]? = some (ptrV x):=by
 have HP:=Lib.hid hp
 have HC:=Lib.hid (And.intro h1 h3)
 have hsize : ∀ t,t < xs.length → off + t < cs.size:=fun t ht => by
  have:=h3 t _ (List.getElem?_eq_getElem ht)
  exact (Array.getElem?_eq_some_iff.1 this).1
 clear h1 h3 hp
 go_enter Tryz.func94,Tryz.ntmps94
 go_wp2_with (first | (go_at_call 145;refine (jit B p xs g off cap n3 n4 cs (0,0) _ HC.out.1 HC.out.2 hlen (fun x hx W hW => HP.out x hx W (hW.mono fun _ e => e.elim))).mono ?_;rintro e w2 ⟨hu2,⟨rfl,hno⟩ | ⟨j0,x0,rfl,hj0,hp0,hno⟩⟩))
 ·-- none goes
  have e0 : (xs.filter fun x => !p x) = xs:=List.filter_eq_self.2 fun x hx => by rw [hno x hx];rfl
  rw [e0]
  refine bodyPost_ret (v := .slice (some ⟨g,off,none⟩) xs.length cap) (by simp [results,Tryz.results94,go_sem]) rfl ?_
  exact ⟨rfl,hu2.mono fun _ e => e.elim,cs,hu2.cells HC.out.1 (by decide) (fun e => e),rfl,HC.out.2⟩
 have hjl : j0 < xs.length:=(List.getElem?_eq_some_iff.1 hj0).1
 have hji : ((j0 : Int) == -1) = false:=by simp <;> omega
 have hfl : (xs.take (j0 + 1)).filter (fun x => !p x) = xs.take j0:=by
  rw [List.take_add_one,hj0,List.filter_append]
  rw [show (some x0).toList.filter (fun x => !p x) = [] by simp [hp0]]
  rw [List.append_nil]
  exact List.filter_eq_self.2 fun x hx => by rw [hno x hx];rfl
 have HF:=Lib.hid hfl
 have HK0 : Hid (Memo (fun b => b = g) B w w2):=hu2.mono fun _ e => e.elim
 have HC2 : Hid (w2.heap[g]? = some (.cells cs TpT (0,0))):=hu2.cells HC.out.1 (by decide) (fun e => e)
 clear hj0 hp0 hno hfl hu2
 go_wp2_with fail
 go_loopw [5,6] (fun s5 s6 wr => ∃ (i j : Nat) (cs' : Array Value),s5 = .int .i64 i ∧ s6 = .int .i64 j ∧ j ≤ xs.length ∧ i < j ∧ i = ((xs.take j).filter fun x => !p x).length ∧ Memo (fun b => b = g) B w wr ∧ wr.heap[g]? = some (.cells cs' TpT (0,0)) ∧ cs'.size = cs.size ∧
  (∀ t x,((xs.take j).filter fun x => !p x)[t]? = some x → cs'[off + t]? = some (ptrV x)) ∧ (∀ t x,j ≤ t → xs[t]? = some x → cs'[off + t]? = some (ptrV x))) (fun _ s6 _ => xs.length - (intOf s6).toNat)
 case atStart =>
  refine ⟨j0,j0 + 1,cs,rfl,by simp [IntWalk.wrap64_in ((j0 : Int) + 1) (by omega)],by omega,by omega,by rw [HF.out];simp;omega,HK0.out,HC2.out,rfl,fun t x hx => ?_,fun t x _ hx => HC.out.2 t x hx⟩
  rw [HF.out,List.getElem?_take] at hx
  split at hx
  ·exact HC.out.2 t x hx
  ·cases hx
 case round =>
  obtain ⟨i,j,cs',rfl,rfl,hj,hij,hil,hk,hg,hsz,hlo,hhi⟩:=hrel
  have HI:=Lib.hid (And.intro hil (And.intro hsz (And.intro hlo hhi)))
  have HK:=Lib.hid hk
  have HG:=Lib.hid hg
  clear hil hlo hhi hk hg
  have gl:=ja0 HG.out
  by_cases hlt : j < xs.length
  ·have hjj : (j : Int) < xs.length:=by omega
   have hii : (i : Int) < xs.length:=by omega
   have hi2 : i < xs.length:=by omega
   obtain ⟨x,hx⟩ : ∃ x,xs[j]? = some x:=⟨_,List.getElem?_eq_getElem hlt⟩
   have y0 : wr.cell? ⟨g,off + j,none⟩ = some (.pointer (some ⟨x,0,none⟩)):=(ja1 HG.out _).trans (HI.out.2.2.2 j x (Nat.le_refl _) hx)
   obtain ⟨old,hold⟩ : ∃ old,cs'[off + i]? = some old:=by
    have:=hsize i hi2
    exact ⟨_,Array.getElem?_eq_getElem (by rw [hsz];exact this)⟩
   have HX:=Lib.hid (And.intro hx hold)
   have HQ:=Lib.hid (HP.out x (List.mem_of_getElem? hx))
   clear hx hold
   cases hq : p x with
   | true =>
     have hq2 : Hid (p x = true):=hq
     go_wp2_with (first | (go_at_call 92;refine (HQ.out _ (HK.out.up uq)).mono ?_;rintro e w3 ⟨rfl,hm3⟩;simp only [hq2.out];have K3:=Lib.hid (And.intro ((HK.out.up (show Up wr _ from uq)).trans (hm3.mono fun _ e => e.elim)) (hm3.cells (show _ from Up.get (w:=wr) uq HG.out) (by decide) (fun e => e)));clear hm3))
     refine ⟨⟨i,j + 1,cs',rfl,by simp,by omega,by omega,?_,K3.out.1,K3.out.2,HI.out.2.1,?_,fun t y ht hy => HI.out.2.2.2 t y (by omega) hy⟩,by simp [intOf];omega⟩
     ·rw [List.take_add_one,HX.out.1,List.filter_append]
      simp [hq2.out]
      exact HI.out.1
     ·rw [List.take_add_one,HX.out.1,List.filter_append]
      simp only [Option.toList_some,List.filter_cons,hq2.out,Bool.not_true,Bool.false_eq_true,if_false,List.filter_nil,List.append_nil]
      exact HI.out.2.2.1
   | false =>
     have hq2 : Hid (p x = false):=hq
     go_wp2_with (first | (go_at_call 92;refine (HQ.out _ (HK.out.up uq)).mono ?_;rintro e w3 ⟨rfl,hm3⟩;simp only [hq2.out];have K3:=Lib.hid ((HK.out.up (show Up wr _ from uq)).trans (hm3.mono fun _ e => e.elim));have hg3:=Lib.hid (hm3.cells (show _ from Up.get (w:=wr) uq HG.out) (by decide) (fun e => e));clear hm3;have x0:=(ja1 hg3.out (off + i)).trans HX.out.2;have f0:=jab hg3.out (off + i);have gl3:=ja0 hg3.out))
     have hb:=ja6 (i:=off + i) hg3.out (.pointer (some ⟨x,0,none⟩))
     refine ⟨⟨i + 1,j + 1,_,by simp,by simp,by omega,by omega,?_,K3.out.trans (Memo.row (S:=fun b => b = g) hg3.out rfl hgB _),hb,by simp [HI.out.2.1],?_,fun t y ht hy => ?_⟩,by simp [intOf];omega⟩
     ·rw [List.take_add_one,HX.out.1,List.filter_append]
      simp [hq2.out]
      exact HI.out.1
     ·rw [List.take_add_one,HX.out.1,List.filter_append]
      simp only [Option.toList_some,List.filter_cons,hq2.out,Bool.not_false,if_true,List.filter_nil]
      intro t y hy
      rcases Nat.lt_or_ge t i with ht | ht
      ·rw [List.getElem?_append_left (by rw [← HI.out.1];exact ht)] at hy
       rw [Array.getElem?_setIfInBounds_ne (by omega)]
       exact HI.out.2.2.1 t y hy
      ·rw [List.getElem?_append_right (by rw [← HI.out.1];exact ht), ← HI.out.1] at hy
       have e : t = i:=by
        have:=(List.getElem?_eq_some_iff.1 hy).1
        simp at this
        omega
       subst e
       simp at hy
       subst hy
       have:=hsize t hi2
       rw [Array.getElem?_setIfInBounds_self_of_lt (by rw [hsz];exact this)]
       rfl
     ·rw [Array.getElem?_setIfInBounds_ne (by omega)]
      exact HI.out.2.2.2 t y (by omega) hy
  ·obtain rfl : j = xs.length:=by omega
   have hii : (i : Int) < xs.length:=by omega
   have hic : (i : Int) ≤ cap:=by omega
   have hcl : ∀ ty,(Builtin.clear_ #[99] ty #[.slice (some ⟨g,off + i,none⟩) (xs.length - i) (cap - i)]).run Tryz.prog wr = .ok (.tuple #[]) (wr.setCells g (off + i) (List.replicate (xs.length - i) (.pointer none))) :=
    fun ty => Lib.run_clear_slice wr _ _ ty _ Tryz.underlying99 (fun _ => by kernel_rfl) rfl rfl g (off + i) _ _ (by omega) (fun t ht => by
     rw [ja1 HG.out,Array.getElem?_eq_getElem (by rw [hsz];have:=hsize (i + t) (by omega);omega)];rfl) (fun t ht => jab HG.out _)
   obtain ⟨cs2,hb1,hb2,hb3⟩:=jd3 (i:=off + i) (List.replicate (xs.length - i) (.pointer none)) HG.out
   have HE:=Lib.hid (And.intro hb1 (And.intro hb2 hb3))
   clear hlt hb1 hb2 hb3
   go_wp2_with fail
   refine bodyPost_ret (v := .slice (some ⟨g,off,none⟩) i cap) (by simp [results,Tryz.results94,go_sem]) rfl ?_
   have hil:=HI.out.1
   have hlo:=HI.out.2.2.1
   rw [List.take_length] at hil hlo
   refine ⟨by rw [hil],HK.out.trans (Memo.rows (S:=fun b => b = g) HG.out rfl hgB _ ()),cs2,HE.out.1,by rw [HE.out.2.1,hsz],fun t x hx => ?_⟩
   have:=(List.getElem?_eq_some_iff.1 hx).1
   rw [HE.out.2.2 (off + t) (by omega)]
   exact hlo t x hx
theorem CMap.memo {B : Nat} {w w' : World} {m : Nat} {f : Int → Nat} (h : CMap w m f) (k : Memo jag B w w') : CMap w' m f:=let ⟨es,clk,cs,h1,h2⟩:=h; ⟨es,clk,cs,k.obj _ _ h1 (fun _ _ e => by cases e) (fun e => e),h2⟩
theorem SMap.memo {B : Nat} {w w' : World} {m : Nat} {f : ByteArray → Nat} (h : SMap w m f) (k : Memo jag B w w') : SMap w' m f:=let ⟨es,clk,cs,h1,h2⟩:=h; ⟨es,clk,cs,k.obj _ _ h1 (fun _ _ e => by cases e) (fun e => e),h2⟩
theorem View.size {N : Nat → Prop} {B : Nat} {w : World} {b : Nat} {t : Ty} (h : TyAt N B w b t) : w.cell? ⟨b,0,none⟩ = some (.int .i64 t.kind) ∧ b < w.heap.size:=by
 cases t with
 | mk k n nm ps ns ms =>
   obtain ⟨pv,nv,mv,qs,V⟩:=h.view
   exact ⟨V.c0,V.lt⟩
def jd1 (f : Int → Nat) (h : ByteArray → Nat) (t : Ty) : Bool:=if t.kind = 3 then true else if t.kind = 11 then decide (0 < f 7) else if t.kind = 12 then decide (0 < f 8) else if t.kind = 20 then (match t.parts with | [] => false | e :: _ => decide (0 < h e.text)) else false
theorem goes_m (t : Ty) (f : Int → Nat) (h : ByteArray → Nat) (N : Nat → Prop) (B x m3 n3 m4 n4 : Nat) (W : World) (hx : TyAt N B W x t) (hG : Glob W) (b3 : W.heap[n3]? = some (.cells #[.map (some m3)] MiT (0,0))) (c3 : CMap W m3 f)
  (b4 : W.heap[n4]? = some (.cells #[.map (some m4)] MsT (0,0))) (c4 : SMap W m4 h) (hk : t.kind = 20 → ∃ e r,t.parts = e :: r ∧ jaL e) :
  Calls Tryz.prog 92 #[.pointer (some ⟨x,0,none⟩), .pointer (some ⟨n3,0,none⟩), .pointer (some ⟨n4,0,none⟩)] W fun e W' => e = .returned (.bool (jd1 f h t)) ∧ Memo jag B W W':=by
 cases t with
 | mk k n nm ps ns ms =>
   obtain ⟨pv,nv,mv,qs,V⟩:=hx.view
   have y0:=V.c0
   have yl:=V.lt
   have n0:=ja1 b3 0
   have nl:=ja0 b3
   have e0:=ja1 b4 0
   have el:=ja0 b4
   simp only [gQa,gQz] at n0 e0
   have h7:=c3.look 7
   have h8:=c3.look 8
   have HC:=Lib.hid (And.intro b3 (And.intro c3 (And.intro b4 (And.intro c4 (And.intro hG hk)))))
   have HV:=Lib.hid V
   clear hx hG b3 c3 b4 c4 hk V
   by_cases e3 : k = 3
   ·subst e3
    go_enter Tryz.func92,Tryz.ntmps92
    go_wp2_with fail
    go_ret
    exact ⟨rfl,Memo.of_up _ _ uq⟩
   by_cases e11 : k = 11
   ·subst e11
    by_cases h0 : 0 < f 7
    ·have h0' : (0 : Int) < (f 7 : Int):=by omega
     go_enter Tryz.func92,Tryz.ntmps92
     go_wp2_with fail
     go_ret
     exact ⟨by simp [jd1,Ty.kind,h0],Memo.of_up _ _ uq⟩
    ·have h0' : f 7 = 0:=by omega
     rw [h0'] at h7
     go_enter Tryz.func92,Tryz.ntmps92
     go_wp2_with fail
     go_ret
     exact ⟨by simp [jd1,Ty.kind,h0'],Memo.of_up _ _ uq⟩
   by_cases e12 : k = 12
   ·subst e12
    by_cases h0 : 0 < f 8
    ·have h0' : (0 : Int) < (f 8 : Int):=by omega
     go_enter Tryz.func92,Tryz.ntmps92
     go_wp2_with fail
     go_ret
     exact ⟨by simp [jd1,Ty.kind,h0],Memo.of_up _ _ uq⟩
    ·have h0' : f 8 = 0:=by omega
     rw [h0'] at h8
     go_enter Tryz.func92,Tryz.ntmps92
     go_wp2_with fail
     go_ret
     exact ⟨by simp [jd1,Ty.kind,h0'],Memo.of_up _ _ uq⟩
   by_cases e20 : k = 20
   ·subst e20
    obtain ⟨p,r,hpr,hT⟩:=HC.out.2.2.2.2.2 rfl
    have hpr : ps = p :: r:=hpr
    obtain ⟨q,g,off,cap,rfl,hcap,hgl,hcell,hpt,hkeep⟩:=HV.out.part (j:=0) (p:=p) (by rw [hpr];rfl)
    obtain ⟨tx,htx⟩ : ∃ tx,Hid (p.text = tx):=⟨_,rfl⟩
    have hgo : jd1 f h (.mk 20 n nm ps ns ms) = decide (0 < h tx):=by
     subst hpr
     simp only [jd1,Ty.kind,Ty.parts,htx.out]
     rfl
    rw [hgo]
    have hl1 : (0 : Int) < ps.length:=by rw [hpr];simp only [List.length_cons];omega
    have r3 : ∀ i : MemoOf B W,i.W.cell? ⟨x,3,none⟩ = some (.slice (some ⟨g,off,none⟩) ps.length cap):=fun i => (HV.out.memo i.memo).c3
    have r4 : ∀ i : MemoOf B W,i.W.cell? ⟨g,off,none⟩ = some (.pointer (some ⟨q,0,none⟩)):=fun i => by simpa using hkeep i.W i.memo
    have r5 : ∀ i : MemoOf B W,i.W.cell? ⟨n4,0,none⟩ = some (.map (some m4)):=fun i => ja1 (i.memo.cells HC.out.2.2.1 (by decide) (fun e => e)) 0
    have r6 : ∀ i : MemoOf B W,(Instr.lookup MsT (.map (some m4)) (.string tx) false).run Tryz.prog i.W = .ok (.int .i64 (h tx)) i.W:=fun i => (HC.out.2.2.2.1.memo i.memo).look tx
    have C1 : Hid (∀ i : MemoOf B W,Calls Tryz.prog 61 #[.pointer (some ⟨q,0,none⟩)] i.W fun e w' => e = .returned (.string tx) ∧ Memo jag B i.W w'):=fun i => by
     rw [← htx.out]
     exact hT N B q i.W (hpt.memo i.memo) (HC.out.2.2.2.2.1.memo i.memo)
    clear hpt hkeep hcell hpr hT hgo
    by_cases h0 : 0 < h tx
    ·have h0' : (0 : Int) < (h tx : Int):=by omega
     have h0 : Hid (decide (0 < h tx) = true):=by unfold Hid;simpa using h0
     go_enter Tryz.func92,Tryz.ntmps92
     go_wp2_with fail
     refine jbt B (by kernel_rfl) (by kernel_rfl) ?_
     repeat (go_big_quiet_step ((go_at_call 61;rename_i i;exact Calls.memo_of i (C1.out i))))
     refine wpQuiet_nil ?_
     intro _ hw'
     obtain ⟨⟨w2,hm2⟩,hw''⟩:=hw'
     subst hw''
     have M2:=Lib.hid hm2
     clear r3 r4 r5 r6 hm2
     go_wp2_with fail
     refine bodyPost_ret (v := .bool true) (by simp [results,Tryz.results92,go_sem]) rfl ?_
     exact ⟨by rw [h0.out],M2.out⟩
    ·have h0' : h tx = 0:=by omega
     have h0 : Hid (decide (0 < h tx) = false):=by unfold Hid;simpa using h0
     have r6 : ∀ i : MemoOf B W,(Instr.lookup MsT (.map (some m4)) (.string tx) false).run Tryz.prog i.W = .ok (.int .i64 0) i.W:=fun i => by have:=r6 i;rw [h0'] at this;exact this
     clear h0'
     go_enter Tryz.func92,Tryz.ntmps92
     go_wp2_with fail
     refine jbt B (by kernel_rfl) (by kernel_rfl) ?_
     repeat (go_big_quiet_step ((go_at_call 61;rename_i i;exact Calls.memo_of i (C1.out i))))
     refine wpQuiet_nil ?_
     intro _ hw'
     obtain ⟨⟨w2,hm2⟩,hw''⟩:=hw'
     subst hw''
     have M2:=Lib.hid hm2
     clear r3 r4 r5 r6 hm2
     go_wp2_with fail
     refine bodyPost_ret (v := .bool false) (by simp [results,Tryz.results92,go_sem]) rfl ?_
     exact ⟨by rw [h0.out],M2.out⟩
   have g3 : (k == 3) = false:=by simpa using e3
   have g11 : (k == 11) = false:=by simpa using e11
   have g12 : (k == 12) = false:=by simpa using e12
   have g20 : (k == 20) = false:=by simpa using e20
   have hg : jd1 f h (.mk k n nm ps ns ms) = false:=by simp [jd1,Ty.kind,e3,e11,e12,e20]
   rw [hg]
   clear e3 e11 e12 e20 hg
   go_enter Tryz.func92,Tryz.ntmps92
   go_wp2_with fail
   go_ret
   exact ⟨rfl,Memo.of_up _ _ uq⟩
theorem joq (t : Ty) (N : Nat → Prop) (B x : Nat) (w : World) (hx : TyAt N B w x t) (hG : Glob w) (hT : jaL t) (hs : t.text.size ≤ 100000000000000) :
  Calls Tryz.prog 95 #[.pointer (some ⟨x,0,none⟩)] w fun e w' => e = .returned (.string t.partT) ∧ Memo jag B w w':=by
 have HX:=Lib.hid (And.intro hx (And.intro hG hT))
 obtain ⟨pt,hpt⟩ : ∃ pt,Hid (t.partT = pt):=⟨_,rfl⟩
 have hpt2 : Hid (jas [15] t.kind t.text = pt):=hpt
 rw [hpt.out]
 clear hx hG hT
 go_enter Tryz.func95,Tryz.ntmps95
 go_wp2_with (first | (go_at_call 96;refine (jdl [15] w.heap.size 1 x t N B _ (HX.out.1.up uq) (HX.out.2.1.up uq) HX.out.2.2 hs (by intro j z hz;cases j with | zero => simp at hz;subst hz;simp | succ j => simp at hz) (by simp) (by simp)).mono ?_;rintro e w2 ⟨rfl,hm2⟩;rw [hpt2.out];have M2:=Lib.hid hm2;clear hm2))
 go_ret
 exact ⟨rfl,(Memo.of_up jag B (show Up w _ from uq)).trans M2.out⟩
def SortI (B g : Nat) (w1 W : World) : Prop:=Memo (fun b => b = g) B w1 W ∧ Glob W ∧ ∃ cs,W.heap[g]? = some (.cells cs TpT (0,0))
theorem SortI.keys (tr : Nat → Ty) (N : Nat → Prop) (B g b : Nat) (S : Nat → Prop) (w1 : World) (hgB : B ≤ g) (hb : b ≠ g) (hbox : w1.heap[b]? = some (.cells #[.func (.func byF) #[] #[]] FnT (0,0))) (hN : ∀ x,N x → x ≠ g) (ht : ∀ x,S x → TyAt N B w1 x (tr x) ∧ jaL (tr x) ∧ (tr x).text.size ≤ 100000000000000) :
  Keys (SortI B g w1) g b S (fun x => (tr x).partT) where
 set W i v:=fun ⟨h1,h2,cs,h3⟩ => ⟨h1.trans (Memo.row (S:=fun b => b = g) h3 rfl hgB v),h2.row h3 v,_,ja6 h3 v⟩
 drew W:=fun ⟨h1,h2,cs,h3⟩ => ⟨h1.up (Up.refl W).drew,h2.up (Up.refl W).drew,cs,h3⟩
 up W W':=fun ⟨h1,h2,cs,h3⟩ k => ⟨h1.up k,h2.up k,cs,k.get h3⟩
 box W:=fun ⟨h1,_⟩ => ja1 (h1.cells hbox (by decide) hb) 0
 lt W:=fun ⟨_,_,cs,h3⟩ => ja0 h3
 by_ W x:=fun ⟨h1,h2,cs,h3⟩ hx => by
  obtain ⟨q1,q2,q3⟩:=ht x hx
  refine (joq (tr x) N B x W (h1.ty N x _ hN q1) h2 q2 q3).mono ?_
  rintro e W' ⟨rfl,hm⟩
  have h4:=hm.cells h3 (by decide) (fun e => e)
  exact ⟨rfl,⟨h1.trans (hm.mono fun _ e => e.elim),h2.memo hm,cs,h4⟩,h4.trans h3.symm⟩
theorem ji1 (tr : Nat → Ty) (N : Nat → Prop) (B g off cap : Nat) (xs : List Nat) (w : World) (hrow : RowAt w g off xs) (hlen : xs.length ≤ 1000000) (hne : xs ≠ []) (hcap : xs.length ≤ cap) (hgB : B ≤ g) (hN : ∀ x,N x → x ≠ g) (ht : ∀ x ∈ xs,TyAt N B w x (tr x) ∧ jaL (tr x) ∧ (tr x).text.size ≤ 100000000000000) (hG : Glob w) :
  Calls Tryz.prog 93 #[.slice (some ⟨g,off,none⟩) xs.length cap, .func (.func byF) #[] #[]] w fun e w' => ∃ zs : List Nat,e = .returned (.slice (some ⟨g,off,none⟩) zs.length cap) ∧ RowAt w' g off zs ∧ Memo (fun b => b = g) B w w' ∧ Glob w' ∧
   zs.length ≤ xs.length ∧ zs.Pairwise (fun x y => ltS (tr x).partT (tr y).partT = true) ∧ (∀ z ∈ zs,z ∈ xs) ∧ ∀ x ∈ xs,∃ z ∈ zs,(tr z).partT = (tr x).partT:=by
 have hup : Up w (w.alloc (.cells #[.func (.func byF) #[] #[]] FnT)):=(Up.refl w).alloc _
 have hbg : w.heap.size ≠ g:=fun e => by have:=hrow.lt;omega
 obtain ⟨cs,hcs,hcx⟩:=hrow
 have hk:=SortI.keys tr N B g w.heap.size (fun x => x ∈ xs) _ hgB hbg (ja9 w (.cells #[.func (.func byF) #[] #[]] FnT)) hN (fun x hx => ⟨(ht x hx).1.up hup,(ht x hx).2⟩)
 refine (jjD (n:=xs.length) (off:=off) (cap:=cap) w hk (fun W hW => hW.2.2) hlen hcap xs (fun z hz => hz) ⟨cs,hcs,hcx⟩ rfl (List.length_pos_iff.2 hne) ⟨Memo.refl _ _ _,hG.up hup,cs,hup.get hcs⟩).mono ?_
 rintro e w' ⟨zs,h1,h2,⟨h3,h3',_⟩,h4,h5,h6,h7⟩
 exact ⟨zs,h1,h2,(Memo.of_up _ _ hup).trans h3,h3',h4,h5,h6,h7⟩
end Go.Proofs.YtiaepldmgighbaaGreatDoor
