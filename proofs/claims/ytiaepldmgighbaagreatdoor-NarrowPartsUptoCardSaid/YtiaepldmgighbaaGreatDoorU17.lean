import Derived.LoopNIn
import Derived.Shelf.RegionOpen
import Derived.Test.YtiaepldmgighbaaGreatDoorU08
import Derived.Test.YtiaepldmgighbaaGreatDoorU09
import Derived.Test.YtiaepldmgighbaaGreatDoorU03
namespace Go.Proofs.YtiaepldmgighbaaGreatDoor
open Go.RowKit
set_option linter.unusedSimpArgs false
attribute [local go_sem] Oper.semAt_some
structure Told where
 p : Pr
 va : Option Addr
 vc : Nat
abbrev Told.v (G : Pr → Que) (x : Told) : Value := .slice x.va (G x.p).pairs.length x.vc
def AsksAny (A : Nat) (G : Pr → Que) (V : Pr → Prop) (kept : Nat → Prop) (w : World) : Prop :=
 (∀ p,V p → ∀ q ∈ (G p).pairs,V q) ∧ ∀ p,V p → ∀ W,KeepOwn kept w W → Calls Tryz.prog 87 #[.agg #[.pointer (some ⟨A,0,none⟩)],jaZ p] W fun e W' => ∃ v,e = .returned (QV (G p) v) ∧ PairsAt (fun g => W.heap.size ≤ g) W' v (G p).pairs ∧ Up W W'
structure Reach (G : Pr → Que) (V : Pr → Prop) (most : Nat) (t0 : Tags) (J : InvA Told) (W0 : World) (mg : Nat) (lv : Value) (i : Nat) (L : List Pr) (t : Tags) (told : List Told) (W : World) : Prop where
 row : W.ownsRow 0 jbA 2 lv L.length (jcF L)
 rown : ∀ g,lv.ownBlock = some g → t.own g
 map : ∃ (es : Array MapEntry) (clk : Nat),W.heap[mg]? = some (.map es clk) ∧ Entries es jaZ numV L.zipIdx
 mown : t.own mg
 tolds : told.map Told.p = L.take i
 le : i ≤ L.length
 len : L.length ≤ most + 1
 nodup : L.Nodup
 inv : J told t W
 base : ∀ b,t0.kept b → t.kept b
 sub : ∀ b,t.own b → t.kept b
 new : ∀ b,t.own b → W0.heap.size ≤ b
 lt : ∀ b,t.kept b → b < W.heap.size
 keep : KeepOwn t0.kept W0 W
 fresh : ∀ b,t0.kept b → b < W0.heap.size
 val : ∀ p ∈ L,V p
theorem PairsAt.loose {B B' : Nat → Prop} {W : World} {v : Value} {ps : List Pr} (h : PairsAt B W v ps) (hb : ∀ g,B g → B' g) : PairsAt B' W v ps:=h.keep (Nat.le_refl _) fun g q _ => ⟨hb g q,fun _ _ q => q⟩
theorem jkm (ws : List Pr) (s : Pr) : (ws ++ [s]).zipIdx = ws.zipIdx ++ [(s,ws.length)]:=by
 rw [List.zipIdx_append];simp
theorem Reach.up {G : Pr → Que} {V : Pr → Prop} {most : Nat} {t0 : Tags} {J : InvA Told} {W0 : World} {mg : Nat} {lv : Value} {i : Nat} {L : List Pr} {t : Tags} {told : List Told} {W W' : World} (h : Reach G V most t0 J W0 mg lv i L t told W) (hJ : jny J) (hu : Up W W') : Reach G V most t0 J W0 mg lv i L t told W' where
 row:=ja5 h.row hu
 rown:=h.rown
 map:=let ⟨es,clk,q1,q2⟩:=h.map; ⟨es,clk,hu.get q1,q2⟩
 mown:=h.mown
 tolds:=h.tolds
 le:=h.le
 len:=h.len
 nodup:=h.nodup
 inv:=hJ _ _ _ _ _ h.inv (.up hu (fun _ h => .inl h) (fun _ h => .inl h))
 base:=h.base
 sub:=h.sub
 new:=h.new
 lt b hb:=Nat.lt_of_lt_of_le (h.lt b hb) hu.size
 keep:=h.keep.trans (.up hu fun b hb => h.lt b (h.base b hb))
 fresh:=h.fresh
 val:=h.val
def Tags.plus (t : Tags) (a b : Nat) : Tags:=⟨fun x => t.own x ∨ (a ≤ x ∧ x < b),fun x => t.kept x ∨ (a ≤ x ∧ x < b)⟩
theorem Reach.push {G : Pr → Que} {V : Pr → Prop} {most : Nat} {t0 : Tags} {J : InvA Told} {W0 : World} {mg : Nat} {lv lv' : Value} {i : Nat} {L : List Pr} {t : Tags} {told : List Told} {W W' : World} {z : Pr} {es : Array MapEntry} {clk : Nat} (h : Reach G V most t0 J W0 mg lv i L t told W) (hJ : jny J)
  (hz : z ∉ L) (hl : L.length ≤ most) (hV : V z) (hos : W'.os = W.os ∧ W'.tape = W.tape ∧ W'.output = W.output) (hs : W.heap.size ≤ W'.heap.size) (hold : ∀ b,b < W.heap.size → b ≠ mg → lv.ownBlock ≠ some b → W'.heap[b]? = W.heap[b]?)
  (hm : W'.heap[mg]? = some (.map es clk)) (hE : Entries es jaZ numV (L.zipIdx ++ [(z,L.length)])) (hrow : W'.ownsRow 0 jbA 2 lv' (L.length + 1) (jcF L ++ [.int .i64 z.1, .int .i64 z.2]))
  (hblk : lv'.ownBlock = lv.ownBlock ∨ ∃ g,lv'.ownBlock = some g ∧ W.heap.size ≤ g) : Reach G V most t0 J W0 mg lv' i (L ++ [z]) (t.plus W.heap.size W'.heap.size) told W':=by
 have hst : Steps t (t.plus W.heap.size W'.heap.size) W W':=⟨hos.1,hos.2.1,hos.2.2,hs,fun b hb hn => hold b hb (fun e => hn (by rw [e];exact h.mown)) (fun e => hn (h.rown b e)),fun b hb => hb.imp id And.left,fun b hb => hb.imp id And.left⟩
 exact {
  row:=by rw [List.length_append,jdX];exact hrow
  rown:=fun g hg => by
   rcases hblk with q | ⟨g',q,q2⟩
   ·rw [q] at hg;exact .inl (h.rown g hg)
   ·rw [q] at hg;cases hg;exact .inr ⟨q2,(hrow.lt g q).2⟩
  map:=⟨es,clk,hm,by rw [jkm];exact hE⟩
  mown := .inl h.mown
  tolds:=by rw [h.tolds,List.take_append_of_le_length h.le]
  le:=by simp;have:=h.le;omega
  len:=by simp;omega
  nodup:=by
   rw [List.nodup_append]
   refine ⟨h.nodup,by simp,fun x hx y hy => ?_⟩
   simp at hy
   subst hy
   exact fun e => hz (e ▸ hx)
  inv:=hJ _ _ _ _ _ h.inv hst
  base:=fun b hb => .inl (h.base b hb)
  sub:=fun b hb => hb.imp (h.sub b) id
  new:=fun b hb => by
   rcases hb with hb | hb
   ·exact h.new b hb
   ·exact Nat.le_trans h.keep.size hb.1
  lt:=fun b hb => by
   rcases hb with hb | hb
   ·exact Nat.lt_of_lt_of_le (h.lt b hb) hs
   ·exact hb.2
  keep:=h.keep.trans ⟨hos.1,hos.2.1,hos.2.2,hs,fun b hb => by
   have hnew : ¬ t.own b:=fun e => by
    have q1:=h.new b e
    have q2:=h.fresh b hb
    omega
   exact hold b (h.lt b (h.base b hb)) (fun e => hnew (by rw [e];exact h.mown)) (fun e => hnew (h.rown b e))⟩
  fresh:=h.fresh
  val:=fun p hp => by
   rcases List.mem_append.1 hp with q | q
   ·exact h.val p q
   ·simp at q;subst q;exact hV }
theorem Reach.next {G : Pr → Que} {V : Pr → Prop} {most : Nat} {t0 : Tags} {J : InvA Told} {W0 : World} {mg : Nat} {lv : Value} {i : Nat} {L : List Pr} {t t' : Tags} {told : List Told} {W W' : World} (h : Reach G V most t0 J W0 mg lv i L t told W) {p : Pr} {va : Option Addr} {vc : Nat} (hp : L[i]? = some p)
  (ho : t'.own = t.own) (hk : ∀ b,t.kept b → t'.kept b) (hlt : ∀ b,t'.kept b → b < W'.heap.size) (hkeep : KeepOwn t.kept W W') (hJ : J (told ++ [⟨p,va,vc⟩]) t' W') : Reach G V most t0 J W0 mg lv (i + 1) L t' (told ++ [⟨p,va,vc⟩]) W' where
 row:=ja8 h.row fun g hg => hkeep.same g (h.sub g (h.rown g hg))
 rown g hg:=by rw [ho];exact h.rown g hg
 map:=let ⟨es,clk,q1,q2⟩:=h.map; ⟨es,clk,hkeep.get (h.sub mg h.mown) q1,q2⟩
 mown:=by rw [ho];exact h.mown
 tolds:=by rw [List.map_append,h.tolds,List.take_add_one,hp];rfl
 le:=(List.getElem?_eq_some_iff.1 hp).1
 len:=h.len
 nodup:=h.nodup
 inv:=hJ
 base b hb:=hk b (h.base b hb)
 sub b hb:=hk b (h.sub b (by rw [← ho];exact hb))
 new b hb:=h.new b (by rw [← ho];exact hb)
 lt:=hlt
 keep:=h.keep.trans (hkeep.mono h.base)
 fresh:=h.fresh
 val:=h.val
end Go.Proofs.YtiaepldmgighbaaGreatDoor
namespace Go.Proofs.YtiaepldmgighbaaGreatDoor
open Go.RowKit
set_option linter.unusedSimpArgs false
def IntsV (w : World) (a : Option Addr) (zs : List Nat) : Prop := ∀ (j z : Nat),zs[j]? = some z → ∃ g off,a = some ⟨g,off,none⟩ ∧ g < w.heap.size ∧ w.cell? ⟨g,off + j,none⟩ = some (.int .i64 z)
def BoolsV (w : World) (a : Option Addr) (ms : List Bool) : Prop := ∀ (j : Nat) (m : Bool),ms[j]? = some m → ∃ g off,a = some ⟨g,off,none⟩ ∧ g < w.heap.size ∧ w.cell? ⟨g,off + j,none⟩ = some (.bool m)
theorem IntsV.up {w w' : World} {a : Option Addr} {zs : List Nat} (h : IntsV w a zs) (u : Up w w') : IntsV w' a zs:=fun j z hz => let ⟨g,off,h1,h2,h3⟩:=h j z hz; ⟨g,off,h1,Nat.lt_of_lt_of_le h2 u.size,(u.cells _ _ h2).trans h3⟩
theorem BoolsV.up {w w' : World} {a : Option Addr} {ms : List Bool} (h : BoolsV w a ms) (u : Up w w') : BoolsV w' a ms:=fun j z hz => let ⟨g,off,h1,h2,h3⟩:=h j z hz; ⟨g,off,h1,Nat.lt_of_lt_of_le h2 u.size,(u.cells _ _ h2).trans h3⟩
structure QBox (W0 : World) (al : Bool) (L : List Pr) (v : Value) (W : World) : Prop where
 box : W.heap[W0.heap.size]? = some (.cells #[.bool false, .bool false, .bool al, .bool false,v] QueT (0,0))
 row : W.ownsRow 0 jbA 2 v L.length (jcF L)
 own : ∀ g,v.ownBlock = some g → W0.heap.size < g
 up : Up W0 W
theorem QBox.start (W0 : World) (al : Bool) : QBox W0 al [] (.slice none 0 0) (W0.alloc (.cells #[.bool false, .bool false, .bool al, .bool false, .slice none 0 0] QueT)) :=
 ⟨ja9 _ _,⟨rfl, .inl ⟨rfl,rfl⟩⟩,fun g hg => by simp [Value.ownBlock] at hg,Up.alloc (Up.refl _) _⟩
theorem QBox.later {W0 W W' : World} {al : Bool} {L : List Pr} {v : Value} (h : QBox W0 al L v W) (k : Up W W') : QBox W0 al L v W':=⟨k.get h.box,ja5 h.row k,h.own,h.up.trans k⟩
theorem QBox.far {W0 W : World} {al : Bool} {L : List Pr} {v : Value} (h : QBox W0 al L v W) : v.ownBlock ≠ some W0.heap.size:=fun e => Nat.lt_irrefl _ (h.own _ e)
theorem QBox.push {W0 W w7 : World} {al : Bool} {L : List Pr} {p : Pr} {va sa : Option Addr} {n m vcap cap : Nat} {old : Value} {cs : List Value} (h : QBox W0 al L (.slice va n vcap) W) (hn : n = L.length) (hm : m = n + 1) (hcs : cs = [.int .i64 p.1, .int .i64 p.2]) (hrow : w7.ownsRow 0 jbA 2 (.slice sa m cap) m (jcF L ++ cs))
  (hblk : (Value.slice sa m cap).ownBlock = (Value.slice va n vcap).ownBlock ∨ ∃ g,(Value.slice sa m cap).ownBlock = some g ∧ W.heap.size + 1 ≤ g) (s0 : w7.heap[W0.heap.size]? = some (.cells #[.bool false, .bool false, .bool al, .bool false,old] QueT (0,0))) (U7 : Up W0 w7) :
  QBox W0 al (L ++ [p]) (.slice sa m cap) (w7.setCell ⟨W0.heap.size,4,none⟩ (.slice sa m cap)):=by
 subst hn hm hcs
 have hz : W0.heap.size < W.heap.size:=ja0 h.box
 have hown : ∀ g,(Value.slice sa (L.length + 1) cap).ownBlock = some g → W0.heap.size < g:=fun g hg => by
  rcases hblk with q | ⟨g',q,q2⟩
  ·exact h.own g (by rw [← q];exact hg)
  ·rw [q] at hg
   cases hg
   omega
 refine ⟨ja6 s0 _,?_,hown,U7.setCell (Nat.le_refl _) _⟩
 rw [List.length_append,jdX]
 exact ja8 hrow fun g hg => ja2 (by have:=hown g hg;omega) _
theorem QBox.pairs {W0 W : World} {al : Bool} {L : List Pr} {v : Value} (h : QBox W0 al L v W) (hl : L.length ≤ 1000000) {B : Nat → Prop} (hB : ∀ g,W0.heap.size ≤ g → B g) : PairsAt B W v L:=by
 obtain ⟨sa,cap,rfl⟩:=ja7 h.row
 refine ⟨hl,sa,cap,rfl,fun j p hp => ?_⟩
 obtain ⟨g,h1,h2,h3,h4,h5⟩:=jnN h.row hp
 exact ⟨g,0,h1,hB g (Nat.le_of_lt (h.own g h3)),h2,by simpa using h4,by simpa using h5⟩
theorem AsksAny.later {A : Nat} {G : Pr → Que} {V : Pr → Prop} {kept : Nat → Prop} {w w' : World} (h : AsksAny A G V kept w) (k : KeepOwn kept w w') : AsksAny A G V kept w':=⟨h.1,fun p hp W hW => h.2 p hp W (k.trans hW)⟩
abbrev ToldOk (G : Pr → Que) (V : Pr → Prop) (x : Told) (t : Tags) (W : World) : Prop:=PairsAt (fun g => ¬ t.own g ∧ t.kept g) W (x.v G) (G x.p).pairs ∧ V x.p
def look (Y : List (Pr × Nat)) (p : Pr) : Nat:=((Y.find? fun x => x.1 = p).map (·.2)).getD 0
theorem jdt {Y : List (Pr × Nat)} {p : Pr} {j x : Nat} (h : Y[j]? = some (p,x)) (hn : (Y.map (·.1)).Nodup) : look Y p = x:=by
 unfold look
 have hm:=List.mem_of_getElem? h
 cases hf : Y.find? fun x => decide (x.1 = p) with
 | none => exact absurd (List.find?_eq_none.1 hf _ hm) (by simp)
 | some y =>
   have h1:=List.mem_of_find?_eq_some hf
   have h2 : y.1 = p:=by simpa using List.find?_some hf
   obtain ⟨i,hi⟩:=List.getElem?_of_mem h1
   have hi2 : (Y.map (·.1))[i]? = some p:=by rw [List.getElem?_map,hi];simp [h2]
   have hj2 : (Y.map (·.1))[j]? = some p:=by rw [List.getElem?_map,h];rfl
   have hlt : i < (Y.map (·.1)).length:=(List.getElem?_eq_some_iff.1 hi2).1
   have e : i = j:=(List.getElem?_inj hlt hn).1 (hi2.trans hj2.symm)
   rw [e,h] at hi
   cases hi
   rfl
theorem jeT {Y : List (Pr × Nat)} {p : Pr} (h : ∀ x ∈ Y,x.1 ≠ p) : look Y p = 0:=by
 unfold look
 rw [List.find?_eq_none.2 (fun x hx => by simpa using h x hx)]
 rfl
def YMap (w : World) (m : Nat) (Y : List (Pr × Nat)) : Prop:=(Y.map (·.1)).Nodup ∧ ∃ (es : Array MapEntry) (clk : Nat),w.heap[m]? = some (.map es clk) ∧ Entries es jaZ numV Y
theorem YMap.up {w w' : World} {m : Nat} {Y : List (Pr × Nat)} (h : YMap w m Y) (k : Up w w') : YMap w' m Y:=⟨h.1,let ⟨es,clk,q1,q2⟩:=h.2; ⟨es,clk,k.get q1,q2⟩⟩
theorem YMap.keep {w w' : World} {m : Nat} {Y : List (Pr × Nat)} (h : YMap w m Y) (k : w'.heap[m]? = w.heap[m]?) : YMap w' m Y:=⟨h.1,let ⟨es,clk,q1,q2⟩:=h.2; ⟨es,clk,k.trans q1,q2⟩⟩
theorem YMap.lt {w : World} {m : Nat} {Y : List (Pr × Nat)} (h : YMap w m Y) : m < w.heap.size:=let ⟨_,_,q1,_⟩:=h.2;ja0 q1
theorem YMap.look {w : World} {m : Nat} {Y : List (Pr × Nat)} (h : YMap w m Y) (p : Pr) : (Instr.lookup MpT (.map (some m)) (.agg #[.int .i64 p.1, .int .i64 p.2]) false).run Tryz.prog w = .ok (.int .i64 (look Y p)) w:=by
 obtain ⟨es,clk,q1,q2⟩:=h.2
 rcases jbE Y p with hm | ⟨j,x,hj⟩
 ·rw [jeT hm]
  exact (jfr (f:=numV) q1 q2 p hm).2
 ·rw [jdt hj h.1]
  exact (jgh (f:=numV) q1 q2 p x j hj h.1).2
end Go.Proofs.YtiaepldmgighbaaGreatDoor
