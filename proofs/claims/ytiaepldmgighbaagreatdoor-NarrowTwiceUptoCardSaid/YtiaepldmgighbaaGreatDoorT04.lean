import Derived.RangeFuncNested
import Derived.Test.YtiaepldmgighbaaGreatDoorT03
namespace Go.Proofs.YtiaepldmgighbaaGreatDoor
open Go.RowKit
structure Tags where
 own : Nat → Prop
 kept : Nat → Prop
structure Steps (own own' : Tags) (W W' : World) : Prop where
 os : W'.os = W.os
 tape : W'.tape = W.tape
 output : W'.output = W.output
 size : W.heap.size ≤ W'.heap.size
 same : ∀ b,b < W.heap.size → ¬ own.own b → W'.heap[b]? = W.heap[b]?
 news : ∀ b,own'.own b → own.own b ∨ W.heap.size ≤ b
 keeps : ∀ b,own'.kept b → own.kept b ∨ W.heap.size ≤ b
structure KeepOwn (own : Nat → Prop) (W W' : World) : Prop where
 os : W'.os = W.os
 tape : W'.tape = W.tape
 output : W'.output = W.output
 size : W.heap.size ≤ W'.heap.size
 same : ∀ b,own b → W'.heap[b]? = W.heap[b]?
theorem Steps.refl (own : Tags) (W : World) : Steps own own W W:=⟨rfl,rfl,rfl,Nat.le_refl _,fun _ _ _ => rfl,fun _ h => .inl h,fun _ h => .inl h⟩
theorem Steps.trans {o1 o2 o3 : Tags} {A B C : World} (h : Steps o1 o2 A B) (k : Steps o2 o3 B C) : Steps o1 o3 A C where
 os:=k.os.trans h.os
 tape:=k.tape.trans h.tape
 output:=k.output.trans h.output
 size:=Nat.le_trans h.size k.size
 same b hb hn:=(k.same b (Nat.lt_of_lt_of_le hb h.size) (fun e => by rcases h.news b e with q | q;exact hn q;omega)).trans (h.same b hb hn)
 news b hb:=by
   rcases k.news b hb with q | q
   · exact h.news b q
   · exact .inr (Nat.le_trans h.size q)
 keeps b hb:=by
   rcases k.keeps b hb with q | q
   · exact h.keeps b q
   · exact .inr (Nat.le_trans h.size q)
theorem Steps.up {own own' : Tags} {W W' : World} (h : Up W W') (hn : ∀ b,own'.own b → own.own b ∨ W.heap.size ≤ b) (hk : ∀ b,own'.kept b → own.kept b ∨ W.heap.size ≤ b) : Steps own own' W W':=⟨h.os,h.tape,h.output,h.size,fun b hb _ => h.block b hb,hn,hk⟩
theorem KeepOwn.refl (own : Nat → Prop) (W : World) : KeepOwn own W W:=⟨rfl,rfl,rfl,Nat.le_refl _,fun _ _ => rfl⟩
theorem KeepOwn.trans {own : Nat → Prop} {A B C : World} (h : KeepOwn own A B) (k : KeepOwn own B C) : KeepOwn own A C:=⟨k.os.trans h.os,k.tape.trans h.tape,k.output.trans h.output,Nat.le_trans h.size k.size,fun b hb => (k.same b hb).trans (h.same b hb)⟩
theorem KeepOwn.up {own : Nat → Prop} {W W' : World} (h : Up W W') (ho : ∀ b,own b → b < W.heap.size) : KeepOwn own W W':=⟨h.os,h.tape,h.output,h.size,fun b hb => h.block b (ho b hb)⟩
theorem KeepOwn.get {own : Nat → Prop} {W W' : World} (h : KeepOwn own W W') {b : Nat} {o : Obj} (hb : own b) (ho : W.heap[b]? = some o) : W'.heap[b]? = some o:=(h.same b hb).trans ho
theorem KeepOwn.mono {own own' : Nat → Prop} {W W' : World} (h : KeepOwn own W W') (k : ∀ b,own' b → own b) : KeepOwn own' W W':=⟨h.os,h.tape,h.output,h.size,fun b hb => h.same b (k b hb)⟩
theorem KeepOwn.grown {own : Nat → Prop} {W W' : World} {row : Option Nat} (hg : W.grownBy W' row) (ho : ∀ b,own b → b < W.heap.size) (hr : ∀ r,row = some r → ¬ own r) : KeepOwn own W W' :=
 ⟨hg.os,hg.tape,hg.output,hg.size,fun b hb => hg.block b (ho b hb) (fun e => hr b e.symm hb)⟩
theorem Steps.grown {own : Tags} {W W' : World} {row : Option Nat} (hg : W.grownBy W' row) (hr : ∀ r,row = some r → own.own r) : Steps own own W W' :=
 ⟨hg.os,hg.tape,hg.output,hg.size,fun b hb hn => hg.block b hb (fun e => hn (hr b e.symm)),fun _ h => .inl h,fun _ h => .inl h⟩
theorem Steps.more {o1 o2 o3 : Tags} {W W' : World} (h : Steps o1 o2 W W') (hn : ∀ b,o3.own b → o2.own b ∨ W.heap.size ≤ b) (hk : ∀ b,o3.kept b → o2.kept b ∨ W.heap.size ≤ b) : Steps o1 o3 W W' :=
 { h with news:=fun b hb => by rcases hn b hb with q | q;exact h.news b q;exact .inr q
          keeps:=fun b hb => by rcases hk b hb with q | q;exact h.keeps b q;exact .inr q }
abbrev InvA (α : Type):=List α → Tags → World → Prop
def jny {α : Type} (J : InvA α) : Prop := ∀ (s : List α) (own own' : Tags) (W W' : World),J s own W → Steps own own' W W' → J s own' W'
variable {F : Fence} {n : Nat} {P : Program}
end Go.Proofs.YtiaepldmgighbaaGreatDoor
