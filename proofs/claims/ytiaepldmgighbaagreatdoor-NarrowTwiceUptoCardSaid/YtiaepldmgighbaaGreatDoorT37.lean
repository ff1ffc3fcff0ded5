import Derived.Deep.RegionHeld3
import Derived.Test.YtiaepldmgighbaaGreatDoorT20
import Derived.Test.YtiaepldmgighbaaGreatDoorT28
namespace Go.Proofs.YtiaepldmgighbaaGreatDoor
open Go.RowKit
set_option linter.unusedSimpArgs false
def oneS : ByteArray:=⟨#[49]⟩
structure Eleven (w : World) (B A : Nat) (bs : List Nat) (g c : Nat) (tv : Value) : Prop where
 ar : Ar w B A (bs ++ [c]) (jd2 10 ++ [oneS]) tv (.map (some g))
 len : bs.length = 10
 leaf : ∀ (i b : Nat),bs[i]? = some b → Leaf w b ((i : Int) + 1) (jaw ((i : Int) + 1))
 one : w.heap[c]? = some (.cells (jo4 11 1 ⟨#[]⟩ oneS) TyT (0,0))
theorem jhm {w : World} {B A N : Nat} {bs : List Nat} {ws : List ByteArray} {tv mv : Value} {kd : Nat → Int} (h : Ar w B A bs ws tv mv) (hl : bs.length = N) (hN : 0 < N) (hf : N ≤ 1000000) (hk : ∀ (i b : Nat),bs[i]? = some b → ∃ n nm s,w.heap[b]? = some (.cells (jo4 (kd i) n nm s) TyT (0,0)) ∧ 1 ≤ kd i ∧ kd i ≤ 12) : Leaves w A N kd ∧ HeadIs w A N:=by
 obtain ⟨gr,cap,cur,rfl,hgr,_,hcur⟩:=jaY h.row (by omega)
 have hh:=h.head
 rw [hl] at hh
 refine ⟨⟨fun i hi => ?_,hf⟩,_,_,_,hh⟩
 obtain ⟨b,hb⟩ : ∃ b,bs[i]? = some b:=⟨_,List.getElem?_eq_getElem (by omega)⟩
 obtain ⟨n,nm,s,h1,h2⟩:=hk i b hb
 have q:=hcur i (ptrV b) (by rw [List.getElem?_map,hb];rfl)
 rw [Nat.zero_add] at q
 exact ⟨n,nm,⟨gr,N,cap,b,mv,s,cur,hh,hi,hgr,q,h1⟩,h2⟩
theorem Few.leaves {w : World} {B A g : Nat} {bs : List Nat} {tv : Value} (h : Few w B A bs g tv 10) : Leaves w A 10 (fun i => (i : Int) + 1) ∧ HeadIs w A 10 :=
 jhm h.ar h.len (by decide) (by decide) fun i b hb => ⟨0,⟨#[]⟩,_,h.leaf i b hb,by omega,by have:=(List.getElem?_eq_some_iff.1 hb).1;have:=h.len;omega⟩
theorem Eleven.leaves {w : World} {B A g c : Nat} {bs : List Nat} {tv : Value} (h : Eleven w B A bs g c tv) : Leaves w A 11 (fun i => (i : Int) + 1) ∧ HeadIs w A 11 :=
 jhm h.ar (by rw [List.length_append,h.len];rfl) (by decide) (by decide) fun i b hb => by
   have hl:=h.len
   rcases Nat.lt_or_ge i bs.length with hi | hi
   · rw [List.getElem?_append_left hi] at hb
     exact ⟨0,⟨#[]⟩,_,h.leaf i b hb,by omega,by omega⟩
   · have e : i = bs.length:=by
       have:=(List.getElem?_eq_some_iff.1 hb).1
       rw [List.length_append] at this
       simp at this
       omega
     rw [e,List.getElem?_append_right (Nat.le_refl _),Nat.sub_self] at hb
     simp at hb
     subst hb
     rw [e,hl]
     exact ⟨1,⟨#[]⟩,oneS,h.one,by omega,by omega⟩
theorem Leaves.up {w w' : World} {A N : Nat} {kd : Nat → Int} (h : Leaves w A N kd) (u : Up w w') : Leaves w' A N kd:=⟨fun i hi => let ⟨n,nm,h1,h2⟩:=h.at_ i hi; ⟨n,nm,h1.up u,h2⟩,h.few⟩
theorem HeadIs.up {w w' : World} {A N : Nat} (h : HeadIs w A N) (u : Up w w') : HeadIs w' A N:=let ⟨ta,tcap,mv,hA⟩:=h; ⟨ta,tcap,mv,u.get hA⟩
end Go.Proofs.YtiaepldmgighbaaGreatDoor
