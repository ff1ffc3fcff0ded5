import Derived.StillTailTactics
import Derived.RangeFuncNested
import Derived.RangeFuncBound
import Derived.RangeFuncCalls
import Derived.RangeFuncLeaves
import Derived.OwnWalkIn
import Derived.TacticsInMore
import Derived.LoopNIn
import Derived.LoopIn
import Derived.Deep.RegionLaw
import Derived.Deep.CutRange
import Derived.Deep.DeepCutAuto
import Derived.Deep.RegionHeld3
import Derived.Test.YtiaepldmgighbaaGreatDoorU01
namespace Go.Proofs.YtiaepldmgighbaaGreatDoor
open Go.RowKit
theorem ja0 {w : World} {g : Nat} {o : Obj} (h : w.heap[g]? = some o) : g < w.heap.size:=by
 rcases Nat.lt_or_ge g w.heap.size with h' | h'
 ·exact h'
 ·simp [Array.getElem?_eq_none h'] at h
theorem Up.get {w w' : World} (hu : Up w w') {g : Nat} {o : Obj} (h : w.heap[g]? = some o) : w'.heap[g]? = some o:=by
 rw [hu.block g (ja0 h)];exact h
theorem ja1 {w : World} {b : Nat} {cs : Array Value} {t : TypeId} {f : Nat × Nat} (h : w.heap[b]? = some (.cells cs t f)) (i : Nat) : w.cell? ⟨b,i,none⟩ = cs[i]? := by
 simp [World.cell?,h]
theorem jab {w : World} {b : Nat} {cs : Array Value} {t : TypeId} (h : w.heap[b]? = some (.cells cs t (0,0))) (i : Nat) : w.frozen? ⟨b,i,none⟩ = false:=by
 simp [World.frozen?,h]
theorem uc3 {w : World} {b : Nat} {x0 x1 x2 : Value} {t : TypeId} (h : w.heap[b]? = some (.cells #[x0,x1,x2] t (0,0))) : w.cell? ⟨b,0,none⟩ = some x0 ∧ w.frozen? ⟨b,0,none⟩ = false ∧ w.cell? ⟨b,1,none⟩ = some x1 ∧ w.frozen? ⟨b,1,none⟩ = false ∧ w.cell? ⟨b,2,none⟩ = some x2 ∧ w.frozen? ⟨b,2,none⟩ = false ∧ b < w.heap.size :=
 ⟨ja1 h 0,jab h 0,ja1 h 1,jab h 1,ja1 h 2,jab h 2,ja0 h⟩
theorem uc5 {w : World} {b : Nat} {x0 x1 x2 x3 x4 : Value} {t : TypeId} (h : w.heap[b]? = some (.cells #[x0,x1,x2,x3,x4] t (0,0))) : w.cell? ⟨b,0,none⟩ = some x0 ∧ w.frozen? ⟨b,0,none⟩ = false ∧ w.cell? ⟨b,1,none⟩ = some x1 ∧ w.frozen? ⟨b,1,none⟩ = false ∧ w.cell? ⟨b,2,none⟩ = some x2 ∧ w.frozen? ⟨b,2,none⟩ = false ∧ w.cell? ⟨b,3,none⟩ = some x3 ∧ w.frozen? ⟨b,3,none⟩ = false ∧ w.cell? ⟨b,4,none⟩ = some x4 ∧ w.frozen? ⟨b,4,none⟩ = false ∧ b < w.heap.size :=
 ⟨ja1 h 0,jab h 0,ja1 h 1,jab h 1,ja1 h 2,jab h 2,ja1 h 3,jab h 3,ja1 h 4,jab h 4,ja0 h⟩
theorem uc6 {w : World} {b : Nat} {x0 x1 x2 x3 x4 x5 : Value} {t : TypeId} (h : w.heap[b]? = some (.cells #[x0,x1,x2,x3,x4,x5] t (0,0))) : w.cell? ⟨b,0,none⟩ = some x0 ∧ w.frozen? ⟨b,0,none⟩ = false ∧ w.cell? ⟨b,1,none⟩ = some x1 ∧ w.frozen? ⟨b,1,none⟩ = false ∧ w.cell? ⟨b,2,none⟩ = some x2 ∧ w.frozen? ⟨b,2,none⟩ = false ∧ w.cell? ⟨b,3,none⟩ = some x3 ∧ w.frozen? ⟨b,3,none⟩ = false ∧ w.cell? ⟨b,4,none⟩ = some x4 ∧ w.frozen? ⟨b,4,none⟩ = false ∧ w.cell? ⟨b,5,none⟩ = some x5 ∧ w.frozen? ⟨b,5,none⟩ = false ∧ b < w.heap.size :=
 ⟨ja1 h 0,jab h 0,ja1 h 1,jab h 1,ja1 h 2,jab h 2,ja1 h 3,jab h 3,ja1 h 4,jab h 4,ja1 h 5,jab h 5,ja0 h⟩
theorem uc8 {w : World} {b : Nat} {x0 x1 x2 x3 x4 x5 x6 x7 : Value} {t : TypeId} (h : w.heap[b]? = some (.cells #[x0,x1,x2,x3,x4,x5,x6,x7] t (0,0))) : w.cell? ⟨b,0,none⟩ = some x0 ∧ w.frozen? ⟨b,0,none⟩ = false ∧ w.cell? ⟨b,1,none⟩ = some x1 ∧ w.frozen? ⟨b,1,none⟩ = false ∧ w.cell? ⟨b,2,none⟩ = some x2 ∧ w.frozen? ⟨b,2,none⟩ = false ∧ w.cell? ⟨b,3,none⟩ = some x3 ∧ w.frozen? ⟨b,3,none⟩ = false ∧ w.cell? ⟨b,4,none⟩ = some x4 ∧ w.frozen? ⟨b,4,none⟩ = false ∧ w.cell? ⟨b,5,none⟩ = some x5 ∧ w.frozen? ⟨b,5,none⟩ = false ∧ w.cell? ⟨b,6,none⟩ = some x6 ∧ w.frozen? ⟨b,6,none⟩ = false ∧ w.cell? ⟨b,7,none⟩ = some x7 ∧ w.frozen? ⟨b,7,none⟩ = false ∧ b < w.heap.size :=
 ⟨ja1 h 0,jab h 0,ja1 h 1,jab h 1,ja1 h 2,jab h 2,ja1 h 3,jab h 3,ja1 h 4,jab h 4,ja1 h 5,jab h 5,ja1 h 6,jab h 6,ja1 h 7,jab h 7,ja0 h⟩
theorem jah {W : World} {c : Nat} {o p : Obj} (h : W.heap[c]? = some p) : (W.alloc o).heap[c]? = some p:=by rw [jao W o c (ja0 h)];exact h
theorem jcX {w : World} {b o : Nat} {v : Value} (h : w.cell? ⟨b,o,none⟩ = some v) : b < w.heap.size:=by
 rcases Nat.lt_or_ge b w.heap.size with h' | h'
 ·exact h'
 ·simp [World.cell?,Array.getElem?_eq_none h'] at h
theorem jaa (W : World) (o : Obj) (n : Nat) (h : n = W.heap.size) : (W.alloc o).heap[n]? = some o:=by subst h;exact ja9 _ _
structure Kept (S : Nat → Prop) (w w' : World) : Prop where
 os : w'.os = w.os
 tape : w'.tape = w.tape
 output : w'.output = w.output
 size : w.heap.size ≤ w'.heap.size
 block : ∀ b,b < w.heap.size → ¬ S b → w'.heap[b]? = w.heap[b]?
theorem Kept.refl (S : Nat → Prop) (w : World) : Kept S w w:=⟨rfl,rfl,rfl,Nat.le_refl _,fun _ _ _ => rfl⟩
theorem Kept.trans {S : Nat → Prop} {a b c : World} (h : Kept S a b) (k : Kept S b c) : Kept S a c :=
 ⟨k.os.trans h.os,k.tape.trans h.tape,k.output.trans h.output,Nat.le_trans h.size k.size,fun x hx hn => (k.block x (Nat.lt_of_lt_of_le hx h.size) hn).trans (h.block x hx hn)⟩
theorem Kept.up {S : Nat → Prop} {a b c : World} (h : Kept S a b) (k : Up b c) : Kept S a c:=h.trans ⟨k.os,k.tape,k.output,k.size,fun x hx _ => k.block x hx⟩
theorem Kept.of_up {S : Nat → Prop} {a b : World} (k : Up a b) : Kept S a b:=⟨k.os,k.tape,k.output,k.size,fun x hx _ => k.block x hx⟩
theorem Kept.alloc {S : Nat → Prop} {a w : World} (h : Kept S a w) (o : Obj) : Kept S a (w.alloc o):=h.up ((Up.refl w).alloc o)
theorem Kept.drew {S : Nat → Prop} {a w : World} (h : Kept S a w) : Kept S a w.drew:=h.up (Up.refl w).drew
theorem Kept.drewN {S : Nat → Prop} {a w : World} (h : Kept S a w) (n : Nat) : Kept S a (w.drewN n):=h.up ((Up.refl w).drewN n)
theorem Kept.setCell {S : Nat → Prop} {a w : World} (h : Kept S a w) {p : Addr} (hp : S p.block ∨ a.heap.size ≤ p.block) (v : Value) : Kept S a (w.setCell p v) :=
 ⟨h.os,h.tape,h.output,by rw [jam];exact h.size,fun b hb hn => by
  rw [Below.heap_setCell _ _ _ _ (fun e => by
   subst e
   rcases hp with hp | hp
   ·exact hn hp
   ·omega)]
  exact h.block b hb hn⟩
theorem Kept.putB {S : Nat → Prop} {a w : World} (h : Kept S a w) {g : Nat} (hp : S g ∨ a.heap.size ≤ g) (o : Obj) : Kept S a (putB w g o) :=
 ⟨h.os,h.tape,h.output,by rw [jbK];exact h.size,fun b hb hn => by
  rw [jat _ _ _ _ (fun e => by
   subst e
   rcases hp with hp | hp
   ·exact hn hp
   ·omega)]
  exact h.block b hb hn⟩
theorem Kept.grow {S : Nat → Prop} {a w w' : World} {r : Option Nat} (h : Kept S a w) (hg : w.grownBy w' r) (hp : ∀ k,r = some k → S k ∨ a.heap.size ≤ k) : Kept S a w' :=
 ⟨hg.os.trans h.os,hg.tape.trans h.tape,hg.output.trans h.output,Nat.le_trans h.size hg.size,fun b hb hn => by
  rw [hg.block b (Nat.lt_of_lt_of_le hb h.size) (fun e => by
   rcases hp b e.symm with hp | hp
   ·exact hn hp
   ·omega)]
  exact h.block b hb hn⟩
theorem Kept.mono {S T : Nat → Prop} {a b : World} (h : Kept S a b) (hs : ∀ x,x < a.heap.size → S x → T x) : Kept T a b:=⟨h.os,h.tape,h.output,h.size,fun x hx hn => h.block x hx fun hs' => hn (hs x hx hs')⟩
theorem Kept.get {S : Nat → Prop} {a b : World} (h : Kept S a b) {x : Nat} {o : Obj} (hx : a.heap[x]? = some o) (hn : ¬ S x) : b.heap[x]? = some o:=by
 rw [h.block x (ja0 hx) hn];exact hx
theorem ja8 {w w' : World} {base : Nat} {e : TypeId} {size : Nat} {v : Value} {n : Nat} {xs : List Value} (h : w.ownsRow base e size v n xs) (hk : ∀ g,v.ownBlock = some g → w'.heap[g]? = w.heap[g]?) : w'.ownsRow base e size v n xs:=by
 obtain ⟨h1,h2⟩:=h
 refine ⟨h1,?_⟩
 rcases h2 with h2 | ⟨g,cap,cur,hv,hg,hc,r⟩
 ·exact .inl h2
 ·exact .inr ⟨g,cap,cur,hv,hg,by rw [hk g (by rw [hv];rfl)];exact hc,r⟩
theorem jan {W w2 : World} {r : Option Nat} {b : Nat} {o : Obj} (hg : W.grownBy w2 r) (h : W.heap[b]? = some o) (hne : r ≠ some b) : w2.heap[b]? = some o:=by
 rw [hg.block b (ja0 h) (fun e => hne e.symm)];exact h
theorem ja5 {w w' : World} {base : Nat} {e : TypeId} {size : Nat} {v : Value} {n : Nat} {xs : List Value} (h : w.ownsRow base e size v n xs) (hu : Up w w') : w'.ownsRow base e size v n xs:=by
 obtain ⟨h1,h2⟩:=h
 refine ⟨h1,?_⟩
 rcases h2 with h2 | ⟨g,cap,cur,hv,hg,hc,r⟩
 ·exact .inl h2
 ·exact .inr ⟨g,cap,cur,hv,hg,hu.get hc,r⟩
theorem jfm {P : Program} {id : Nat} {Q : Exit → Act → World → Prop} {a : Act} {w : World} {l : List Oper} (n : Nat) (hm : P.follows .mixedOrders = true) (hB : Region.lexTailB .any l.toArray n = true)
  (h : wpStill P l.toArray w.drew (fun a' => wpList P l.toArray Q (l.drop n) a' w.drew) (l.take n) a) : (Code.region id l.toArray true).wp P Q a w:=wp_region_still_tail n hm hB h
theorem Up.grownBy {a b : World} (h : Up a b) (row : Option Nat) : a.grownBy b row:=⟨h.os,h.tape,h.output,h.size,fun i hi _ => h.block i hi⟩
theorem jaI {W W' : World} {row : Option Nat} {B b : Nat} {cs : Array Value} {t : TypeId} {f : Nat × Nat} (h : W.heap[b]? = some (.cells cs t f)) (hg : W.grownBy W' row) (hr : ∀ r,row = some r → B ≤ r ∧ ∃ o : Obj,W.heap[r]? = some o ∧ o.isCells = false) : W'.heap[b]? = some (.cells cs t f):=by
 rw [hg.block b (ja0 h) (fun e => by
  obtain ⟨_,o,h1,h2⟩:=hr b e.symm
  rw [h] at h1;cases h1;cases h2)]
 exact h
theorem Up.grown {a W W' : World} {row : Option Nat} (h : Up a W) (hg : W.grownBy W' row) (hr : ∀ r,row = some r → a.heap.size ≤ r) : Up a W' :=
 ⟨hg.os.trans h.os,hg.tape.trans h.tape,hg.output.trans h.output,Nat.le_trans h.size hg.size,fun b hb => (hg.block b (Nat.lt_of_lt_of_le hb h.size) (fun e => by have:=hr b e.symm;omega)).trans (h.block b hb)⟩
theorem ja4 {P : Program} {c : Code} {Q : Exit → Act → World → Prop} {a : Act} {w : World} (h : ∀ (A : Act) (W : World),A = a → W = w → c.wp P Q A W) : c.wp P Q a w:=h a w rfl rfl
theorem jcO {w : World} {base : Nat} {e : TypeId} {size : Nat} {v : Value} {n : Nat} {xs : List Value} (h : w.ownsRow base e size v n xs) : ∃ ao cap,v = .slice ao n cap:=ja7 h
set_option linter.unusedSimpArgs false
abbrev TyT : TypeId:=124
abbrev TpT : TypeId:=105
abbrev jmw (k : Int) (s : ByteArray) : Array Value := #[.int .i64 k, .int .i64 0, .string ⟨#[]⟩, .slice none 0 0, .slice none 0 0, .slice none 0 0, .int .i64 1, .string s]
def Leaf (w : World) (b : Nat) (k : Int) (s : ByteArray) : Prop:=w.heap[b]? = some (.cells (jmw k s) TyT (0,0))
def jaw (k : Int) : ByteArray :=
 if k = 1 then ⟨#[97,110,121]⟩ else if k = 2 then ⟨#[117,110,107,110,111,119,110]⟩ else if k = 3 then ⟨#[110,101,118,101,114]⟩ else if k = 4 then ⟨#[118,111,105,100]⟩
 else if k = 5 then ⟨#[117,110,100,101,102,105,110,101,100]⟩ else if k = 6 then ⟨#[110,117,108,108]⟩ else if k = 7 then ⟨#[110,117,109,98,101,114]⟩ else if k = 8 then ⟨#[115,116,114,105,110,103]⟩
 else if k = 9 then ⟨#[116,114,117,101]⟩ else ⟨#[102,97,108,115,101]⟩
theorem jmE (k : Int) (h1 : 1 ≤ k) (h2 : k ≤ 10) : ∀ w : World,(Instr.index 249 (.agg #[.string ⟨#[97,110,121]⟩, .string ⟨#[117,110,107,110,111,119,110]⟩, .string ⟨#[110,101,118,101,114]⟩, .string ⟨#[118,111,105,100]⟩, .string ⟨#[117,110,100,101,102,105,110,101,100]⟩, .string ⟨#[110,117,108,108]⟩, .string ⟨#[110,117,109,98,101,114]⟩, .string ⟨#[115,116,114,105,110,103]⟩, .string ⟨#[116,114,117,101]⟩, .string ⟨#[102,97,108,115,101]⟩]) (.int .i64 (k - 1))).run Tryz.prog w = .ok (.string (jaw k)) w:=by
 have hk : k = 1 ∨ k = 2 ∨ k = 3 ∨ k = 4 ∨ k = 5 ∨ k = 6 ∨ k = 7 ∨ k = 8 ∨ k = 9 ∨ k = 10:=by omega
 clear h1 h2
 intro w
 rcases hk with rfl | rfl | rfl | rfl | rfl | rfl | rfl | rfl | rfl | rfl <;> kernel_rfl
set_option maxRecDepth 100000
set_option maxHeartbeats 1600000
theorem jiz (k : Int) (h1 : 1 ≤ k) (h2 : k ≤ 10) (w : World) : Calls Tryz.prog 154 #[.int .i64 k] w fun e w' => e = .returned (.string (jaw k)) ∧ Up w w':=by
 have i0:=jmE k h1 h2
 obtain ⟨s,hs⟩ : ∃ s,Hid (jaw k = s):=⟨_,rfl⟩
 rw [hs.out] at i0 ⊢
 go_enter Tryz.func154,Tryz.ntmps154
 go_wp2_with fail
 go_ret
 exact ⟨rfl,uq⟩
def jjE (n : Nat) (l : List (Nat × Nat)) : Nat:=l.foldl (fun a x => min (a + x.2) 1099511627776) n
structure Parts (w : World) (pv : Value) (ps : List (Nat × Nat)) : Prop where
 form : ∃ pa cap,pv = .slice pa ps.length cap
 at_ : ∀ (j : Nat) (x : Nat × Nat),ps[j]? = some x → ∃ g off cap,pv = .slice (some ⟨g,off,none⟩) ps.length cap ∧ g < w.heap.size ∧ w.cell? ⟨g,off + j,none⟩ = some (.pointer (some ⟨x.1,0,none⟩)) ∧ x.1 < w.heap.size ∧ w.cell? ⟨x.1,6,none⟩ = some (.int .i64 x.2) ∧ x.2 ≤ 1099511627776
 few : ps.length ≤ 1000000000
theorem Parts.up {w w' : World} {pv : Value} {ps : List (Nat × Nat)} (h : Parts w pv ps) (k : Up w w') : Parts w' pv ps :=
 ⟨h.form,fun j x hx => let ⟨g,off,cap,h1,h2,h3,h4,h5,h6⟩:=h.at_ j x hx; ⟨g,off,cap,h1,Nat.lt_of_lt_of_le h2 k.size,(k.cells _ _ h2).trans h3,Nat.lt_of_lt_of_le h4 k.size,(k.cells _ _ h4).trans h5,h6⟩,h.few⟩
theorem Parts.nil (w : World) : Parts w (.slice none 0 0) []:=⟨⟨_,0,rfl⟩,fun j x hx => by simp at hx,by simp⟩
set_option maxHeartbeats 3200000
theorem jiS (k n : Int) (nm : ByteArray) (pv nv mv : Value) (ps : List (Nat × Nat)) (w : World) (h : Parts w pv ps) (hn : ∃ a l c,nv = .slice a l c) (hm : ∃ a l c,mv = .slice a l c) :
  Calls Tryz.prog 57 #[.agg #[.int .i64 k, .int .i64 n, .string nm,pv,nv,mv, .int .i64 0, .string ⟨#[]⟩]] w fun e w' => ∃ b,e = .returned (.pointer (some ⟨b,0,none⟩)) ∧ w'.heap[b]? = some (.cells #[.int .i64 k, .int .i64 n, .string nm,pv,nv,mv, .int .i64 (jjE 1 ps), .string ⟨#[]⟩] TyT (0,0)) ∧ w.heap.size ≤ b ∧ Up w w':=by
 obtain ⟨a1,l1,c1,rfl⟩:=hn
 obtain ⟨a2,l2,c2,rfl⟩:=hm
 have HP:=Lib.hid h
 obtain ⟨pa,cap,rfl⟩:=h.form
 have hfew:=h.few
 have X0:=Lib.hid (ja9 w (.cells #[.int .i64 k, .int .i64 n, .string nm, .slice pa ps.length cap, .slice a1 l1 c1, .slice a2 l2 c2, .int .i64 0, .string ⟨#[]⟩] TyT (0,0)))
 clear h
 obtain ⟨tot,htot⟩ : ∃ tot,Hid (jjE 1 ps = tot):=⟨_,rfl⟩
 rw [htot.out]
 go_enter Tryz.func57,Tryz.ntmps57
 go_wp2_with fail
 refine ja4 fun A W hA hW => ?_
 have hUW : Up w W:=by subst hW;exact uq
 have hb : W.heap[w.heap.size]? = some (.cells #[.int .i64 k, .int .i64 n, .string nm, .slice pa ps.length cap, .slice a1 l1 c1, .slice a2 l2 c2, .int .i64 (1 : Nat), .string ⟨#[]⟩] TyT (0,0)):=by
  subst hW
  exact ja9 _ _
 clear hW
 subst hA
 go_loopw [9] (fun i wr => ∃ (j m : Nat),j ≤ ps.length ∧ i = .int .i64 j ∧ m ≤ 1099511627776 ∧ Hid (jjE m (ps.drop j) = tot) ∧ wr.heap[w.heap.size]? = some (.cells #[.int .i64 k, .int .i64 n, .string nm, .slice pa ps.length cap, .slice a1 l1 c1, .slice a2 l2 c2, .int .i64 m, .string ⟨#[]⟩] TyT (0,0)) ∧ Up w wr) (fun i _ => ps.length - (intOf i).toNat)
 case atStart => exact ⟨0,1,Nat.zero_le _,rfl,by omega,by unfold Hid;rw [List.drop_zero];exact htot.out,hb,hUW⟩
 case round =>
  obtain ⟨j,m,hj,rfl,hm,hq,hbr,hup⟩:=hrel
  by_cases hlt : j < ps.length
  ·have hji : (j : Int) < ps.length:=by omega
   obtain ⟨x,hx⟩ : ∃ x,ps[j]? = some x:=⟨_,List.getElem?_eq_getElem hlt⟩
   obtain ⟨g,off,cap2,he,hg,hc,hxl,hs,hs2⟩:=HP.out.at_ j x hx
   cases he
   have y0:=(hup.cells _ _ hg).trans hc
   have y1:=(hup.cells _ _ hxl).trans hs
   have hcons : ps.drop j = x :: ps.drop (j + 1):=by
    rw [List.drop_eq_getElem_cons hlt,(List.getElem?_eq_some_iff.1 hx).2]
   have hnext : Hid (jjE (min (m + x.2) 1099511627776) (ps.drop (j + 1)) = tot):=by
    unfold Hid
    rw [← hq.out,hcons]
    rfl
   have HB:=Lib.hid hbr
   have b6:=ja1 hbr 6
   have f6:=jab hbr 6
   have hbl:=ja0 hbr
   simp only [gQa,gQz,gQs] at b6
   have i1 : (m : Int) ≤ 1099511627776:=by omega
   have i2 : (x.2 : Int) ≤ 1099511627776:=by omega
   clear hx hc hs hcons hq hbr hlt
   go_wp2_with fail
   have b6 : wr.drew.cell? ⟨w.heap.size,6,none⟩ = some (.int .i64 m):=b6
   have y1 : wr.drew.cell? ⟨x.1,6,none⟩ = some (.int .i64 x.2):=y1
   (refine jfm 9 (by kernel_rfl) (by kernel_rfl) ?_;simp only [List.take_succ_cons,List.take_zero,List.drop_succ_cons,List.drop_zero];(repeat still_step);refine wpStill_nil ?_)
   go_wp2_with fail
   have e : (if 1099511627776 < (m : Int) + x.2 then (1099511627776 : Int) else (m : Int) + x.2) = ((min (m + x.2) 1099511627776 : Nat) : Int):=by split <;> omega
   have q:=ja6 (i:=6) (show wr.drew.heap[w.heap.size]? = _ from HB.out) (.int .i64 ((min (m + x.2) 1099511627776 : Nat) : Int))
   exact ⟨⟨j + 1,min (m + x.2) 1099511627776,by omega,by simp,Nat.min_le_right _ _,hnext,by rw [e];exact q,uq⟩,by simp [intOf];omega⟩
  ·obtain rfl : j = ps.length:=by omega
   have hend : m = tot:=by
    rw [← hq.out,List.drop_length]
    rfl
   subst hend
   clear hq hlt
   go_wp2_with fail
   refine jba (by (simp [results,Tryz.results57,go_sem, *]) <;> rfl) rfl rfl ?_
   exact ⟨_,rfl,hbr,Nat.le_refl _,uq⟩
theorem jc4 (k : Int) (w : World) : Calls Tryz.prog 49 #[.int .i64 k] w fun e w' => ∃ b,e = .returned (.pointer (some ⟨b,0,none⟩)) ∧ Leaf w' b k ⟨#[]⟩ ∧ w.heap.size ≤ b ∧ Up w w':=by
 go_enter Tryz.func49,Tryz.ntmps49
 go_wp2_with (first | (go_at_call 57;refine (jiS k 0 ⟨#[]⟩ (.slice none 0 0) (.slice none 0 0) (.slice none 0 0) [] _ (Parts.nil _) ⟨_,_,_,rfl⟩ ⟨_,_,_,rfl⟩).mono ?_;rintro e w2 ⟨b,rfl,hb,hl,hu2⟩))
 go_ret
 exact ⟨b,rfl,hb,hl,uq⟩
theorem jgV (b : Nat) (k : Int) (s : ByteArray) (h1 : 1 ≤ k) (h2 : k ≤ 10) (w : World) (h : Leaf w b k s) : Calls Tryz.prog 101 #[.pointer (some ⟨b,0,none⟩)] w fun e w' => e = .returned (.string (jaw k)) ∧ Up w w':=by
 have HK:=Lib.hid (And.intro h1 h2)
 have e11 : (k == 11) = false:=by simp;omega
 have e12 : (k == 12) = false:=by simp;omega
 have e13 : (k == 13) = false:=by simp;omega
 have e14 : (k == 14) = false:=by simp;omega
 have e15 : (k == 15) = false:=by simp;omega
 have e16 : (k == 16) = false:=by simp;omega
 have e17 : (k == 17) = false:=by simp;omega
 have e18 : (k == 18) = false:=by simp;omega
 have e19 : (k == 19) = false:=by simp;omega
 have e20 : (k == 20) = false:=by simp;omega
 have e21 : (k == 21) = false:=by simp;omega
 have e22 : (k == 22) = false:=by simp;omega
 have e23 : (k == 23) = false:=by simp;omega
 have a0:=ja1 h 0
 have a4:=ja0 h
 simp only [gQa,gQz,gQs] at a0
 clear h h1 h2
 go_enter Tryz.func101,Tryz.ntmps101
 go_wp2_with (first | (go_at_call 154;refine (jiz k HK.out.1 HK.out.2 _).mono ?_;rintro e w2 ⟨rfl,hu2⟩))
 go_ret
 exact ⟨rfl,uq⟩
theorem jgQ (b : Nat) (k : Int) (h1 : 1 ≤ k) (h2 : k ≤ 10) (w : World) (h : Leaf w b k ⟨#[]⟩) : Calls Tryz.prog 61 #[.pointer (some ⟨b,0,none⟩)] w fun e w' => e = .returned (.string (jaw k)) ∧ Leaf w' b k (jaw k) ∧ Kept (fun x => x = b) w w':=by
 have HK:=Lib.hid (And.intro h1 h2)
 have HL:=Lib.hid h
 have a7:=ja1 h 7
 have f7:=jab h 7
 have a4:=ja0 h
 simp only [gQa,gQz,gQs] at a7
 clear h h1 h2
 go_enter Tryz.func61,Tryz.ntmps61
 go_wp2_with (first | (go_at_call 101;refine (jgV b k ⟨#[]⟩ HK.out.1 HK.out.2 _ HL.out).mono ?_;rintro e w2 ⟨rfl,hu2⟩;have HL2:=Lib.hid (hu2.get HL.out);have f7:=jab HL2.out 7;have a7:=ja1 HL2.out 7;simp only [gQa,gQz,gQs] at a7;have a4:=ja0 HL2.out))
 go_ret
 refine ⟨rfl,?_,Kept.setCell (S:=fun x => x = b) (p:=⟨b,7,none⟩) (Kept.of_up hu2) (.inl rfl) _⟩
 have q:=ja6 (i:=7) HL2.out (.string (jaw k))
 exact q
theorem jey (b : Nat) (s : ByteArray) (hs : (s.toList == []) = false) (w : World) (h : w.cell? ⟨b,7,none⟩ = some (.string s)) : Calls Tryz.prog 61 #[.pointer (some ⟨b,0,none⟩)] w fun e w' => e = .returned (.string s) ∧ w = w':=by
 go_enter Tryz.func61,Tryz.ntmps61
 go_wp2_with fail
 go_ret
 exact ⟨rfl,rfl⟩
section
variable {P : Program}
end
abbrev ArT : TypeId:=103
def ptrV (b : Nat) : Value := .pointer (some ⟨b,0,none⟩)
def numV (i : Nat) : Value := .int .i64 i
def Said (w : World) (b : Nat) (s : ByteArray) : Prop := ∃ cs : Array Value,w.heap[b]? = some (.cells cs TyT (0,0)) ∧ cs[7]? = some (.string s)
theorem Leaf.said {w : World} {b : Nat} {k : Int} {s : ByteArray} (h : Leaf w b k s) : Said w b s:=⟨_,h,rfl⟩
theorem Said.cell {w : World} {b : Nat} {s : ByteArray} (h : Said w b s) : w.cell? ⟨b,7,none⟩ = some (.string s):=by
 obtain ⟨cs,h1,h2⟩:=h
 rw [ja1 h1,h2]
theorem Said.up {w w' : World} {b : Nat} {s : ByteArray} (h : Said w b s) (k : Up w w') : Said w' b s:=let ⟨cs,h1,h2⟩:=h; ⟨cs,k.get h1,h2⟩
structure Ar (w : World) (B A : Nat) (bs : List Nat) (ws : List ByteArray) (tv mv : Value) : Prop where
 base : B ≤ A
 head : w.heap[A]? = some (.cells #[tv,mv, .map none] ArT (0,0))
 row : w.ownsRow 0 TpT 1 tv bs.length (bs.map ptrV)
 rowB : ∀ g,tv.ownBlock = some g → B ≤ g
 ids : (mv = .map none ∧ ws = []) ∨ ∃ g es clk,mv = .map (some g) ∧ B ≤ g ∧ w.heap[g]? = some (.map es clk) ∧ Entries es Value.string numV (ws.zipIdx)
 len : ws.length = bs.length
 nodup : ws.Nodup
 few : bs.length ≤ 1000
 said : ∀ (i b : Nat) (s : ByteArray),bs[i]? = some b → ws[i]? = some s → B ≤ b ∧ Said w b s ∧ (s.toList == []) = false
theorem Ar.up {w w' : World} {B A : Nat} {bs : List Nat} {ws : List ByteArray} {tv mv : Value} (h : Ar w B A bs ws tv mv) (k : Up w w') : Ar w' B A bs ws tv mv where
 base:=h.base
 head:=k.get h.head
 row:=ja5 h.row k
 rowB:=h.rowB
 ids:=h.ids.imp id fun ⟨g,es,clk,h1,h2,h3,h4⟩ => ⟨g,es,clk,h1,h2,k.get h3,h4⟩
 len:=h.len
 nodup:=h.nodup
 few:=h.few
 said i b s h1 h2:=let ⟨h3,h4,h5⟩:=h.said i b s h1 h2; ⟨h3,h4.up k,h5⟩
theorem Ar.texted {w w' : World} {B A : Nat} {bs : List Nat} {ws : List ByteArray} {tv mv : Value} (h : Ar w B A bs ws tv mv) {b : Nat} {cs : Array Value} (hb : w.heap[b]? = some (.cells cs TyT (0,0))) (hn : b ∉ bs) (k : Kept (fun x => x = b) w w') : Ar w' B A bs ws tv mv where
 base:=h.base
 head:=k.get h.head (fun e => by
  have h9:=h.head
  rw [show A = b from e,hb] at h9
  injection h9 with h9
  injection h9 with _ h9 _
  exact absurd h9 (by decide))
 row:=ja8 h.row fun g hg => k.block g (h.row.lt g hg).2 (fun e => by
  obtain ⟨cur,hc⟩ : ∃ cur,w.heap[g]? = some (.cells cur TpT (0,0)):=by
   rcases h.row.2 with ⟨hv,_⟩ | ⟨g',cap,cur,hv,_,hg',_⟩
   ·rw [hv] at hg;cases hg
   ·rw [hv] at hg;cases hg;exact ⟨cur,hg'⟩
  rw [show g = b from e,hb] at hc
  injection hc with hc
  injection hc with _ hc _
  exact absurd hc (by decide))
 rowB:=h.rowB
 ids:=h.ids.imp id fun ⟨g,es,clk,h1,h2,h3,h4⟩ => ⟨g,es,clk,h1,h2,k.get h3 (fun e => by subst e;rw [hb] at h3;cases h3),h4⟩
 len:=h.len
 nodup:=h.nodup
 few:=h.few
 said i c s h1 h2:=by
  obtain ⟨h3,⟨cs,h4,h5⟩,h6⟩:=h.said i c s h1 h2
  exact ⟨h3,⟨cs,k.get h4 (fun e => by subst e;exact hn (List.mem_of_getElem? h1)),h5⟩,h6⟩
theorem jg7 (ws : List ByteArray) (k : Nat) : (ws.zipIdx k).map (·.1) = ws:=by
 induction ws generalizing k with
 | nil => rfl
 | cons x l ih => simp [List.zipIdx_cons,ih]
theorem jn8 (ws : List ByteArray) (i : Nat) (s : ByteArray) (h : ws[i]? = some s) : (ws.zipIdx)[i]? = some (s,i):=by
 rw [List.getElem?_zipIdx,h];simp
theorem jeh {ws : List ByteArray} {s : ByteArray} (h : s ∉ ws) : ∀ x ∈ ws.zipIdx,x.1 ≠ s:=fun x hx e => by
 subst e
 exact h (by have:=List.mem_map_of_mem (f:=(·.1)) hx;rwa [jg7] at this)
theorem jo5 (B A c : Nat) (bs : List Nat) (ws : List ByteArray) (tv mv : Value) (i : Nat) (s : ByteArray) (w : World) (h : Ar w B A bs ws tv mv) (hs : Said w c s) (hne : (s.toList == []) = false) (hi : ws[i]? = some s) :
  Calls Tryz.prog 48 #[.pointer (some ⟨A,0,none⟩), .pointer (some ⟨c,0,none⟩)] w fun e w' => e = .returned (.int .i64 i) ∧ Up w w':=by
 rcases h.ids with ⟨_,rfl⟩ | ⟨g,es,clk,rfl,hg,hm,hE⟩
 ·simp at hi
 have HM:=Lib.hid (And.intro hm (And.intro hE (And.intro (jn8 ws i s hi) (show ((ws.zipIdx).map (·.1)).Nodup by rw [jg7];exact h.nodup))))
 have HS:=Lib.hid (And.intro hs hne)
 have a1:=ja1 h.head 1
 have a4:=ja0 h.head
 simp only [gQa,gQz,gQs] at a1
 have hlk : (Instr.lookup 100 (.map (some g)) (.string s) true).run Tryz.prog w.drew = .ok (.tuple #[.int .i64 i, .bool true]) w.drew:=(jaG (f:=numV) Tryz.underlying100 Tryz.underlying9 jb9 (Up.get (w:=w) uq HM.out.1) HM.out.2.1 s i i HM.out.2.2.1 HM.out.2.2.2).1
 clear h hs hne hi hm hE hg
 go_enter Tryz.func48,Tryz.ntmps48
 go_wp2_with fail
 go_region_law (first | (go_simp;go_at_call 61;refine (jey c s HS.out.2 _ (HS.out.1.up uq).cell).mono ?_;rintro e w2 ⟨rfl,rfl⟩))
 all_goals (go_wp2_with fail)
 all_goals go_ret
 all_goals exact ⟨rfl,uq⟩
structure LayK (B A b : Nat) (tv : Value) (w w' : World) : Prop where
 low : Below B w w'
 kept : ∀ (x : Nat) (cs : Array Value) (t : TypeId) (fz : Nat × Nat),x ≠ A → tv.ownBlock ≠ some x → x ≠ b → w.heap[x]? = some (.cells cs t fz) → w'.heap[x]? = some (.cells cs t fz)
def jnx (b : Nat) (s : ByteArray) (Pc : Array Value → Prop) (w : World) : Prop :=
 ∀ W,Up w W → Calls Tryz.prog 61 #[.pointer (some ⟨b,0,none⟩)] W fun e w' => e = .returned (.string s) ∧ (∃ cs,w'.heap[b]? = some (.cells cs TyT (0,0)) ∧ Pc cs) ∧ Kept (fun x => x = b) W w'
theorem jiy (ws : List ByteArray) (s : ByteArray) : (ws ++ [s]).zipIdx = ws.zipIdx ++ [(s,ws.length)]:=by
 rw [List.zipIdx_append];simp
theorem jl8 {B A b g n tcap cap' : Nat} {bs : List Nat} {ws : List ByteArray} {ta sa' : Option Addr} {s : ByteArray} {Pc : Array Value → Prop} {cs0 cs : Array Value} {w w2 wr W3 w7 : World} {es es' : Array MapEntry} {clk clk' : Nat}
  (hn : n = bs.length) (HA : Ar w B A bs ws (.slice ta n tcap) (.map (some g))) (HB : w.heap[b]? = some (.cells cs0 TyT (0,0))) (hbB : B ≤ b) (hbn : b ∉ bs) (HK2 : Kept (fun x => x = b) w.drew w2) (HCS : w2.heap[b]? = some (.cells cs TyT (0,0)) ∧ Pc cs)
  (hP : cs[7]? = some (.string s)) (hne : (s.toList == []) = false) (hs : s ∉ ws) (hfw : bs.length < 1000) (hup : Up w2 wr) (hm : w.heap[g]? = some (.map es clk)) (hz3 : W3.heap.size = wr.heap.size)
  (HZ : (∀ x,x ≠ g → W3.heap[x]? = wr.heap[x]?) ∧ (Value.slice ta n tcap).ownBlock ≠ some A ∧ (Value.slice ta n tcap).ownBlock ≠ some g ∧ A ≠ g) (hg3 : W3.heap[g]? = some (.map es' clk')) (hos3 : W3.os = wr.os ∧ W3.tape = wr.tape ∧ W3.output = wr.output)
  (HE' : Entries es' Value.string numV (ws.zipIdx ++ [(s,n)])) (hd : w7.heap[A]? = some (.cells #[.slice ta n tcap, .map (some g), .map none] ArT (0,0)))
  (hown' : w7.ownsRow 0 TpT 1 (.slice sa' (n + 1) cap') (n + 1) (bs.map ptrV ++ [.pointer (some ⟨b,0,none⟩)])) (hgrow : (W3.alloc (.cells #[.pointer (some ⟨b,0,none⟩)] TpT)).grownBy w7 (Value.slice ta n tcap).ownBlock)
  (hblk : (Value.slice sa' (n + 1) cap').ownBlock = (Value.slice ta n tcap).ownBlock ∨ ∃ g',(Value.slice sa' (n + 1) cap').ownBlock = some g' ∧ W3.heap.size + 1 ≤ g') :
  (∃ tv',Ar (w7.setCell ⟨A,0,none⟩ (.slice sa' (n + 1) cap')) B A (bs ++ [b]) (ws ++ [s]) tv' (.map (some g))) ∧ (∃ cs,(w7.setCell ⟨A,0,none⟩ (.slice sa' (n + 1) cap')).heap[b]? = some (.cells cs TyT (0,0)) ∧ Pc cs) ∧
   LayK B A b (.slice ta n tcap) w (w7.setCell ⟨A,0,none⟩ (.slice sa' (n + 1) cap')):=by
 have hrb : ∀ g',(Value.slice ta n tcap).ownBlock = some g' → B ≤ g' ∧ ∃ cur,w.heap[g']? = some (.cells cur TpT (0,0)):=fun g' hg' => by
  refine ⟨HA.rowB g' hg',?_⟩
  rcases HA.row.2 with ⟨hv,_⟩ | ⟨g'',cap,cur,hv,_,hc,_⟩
  ·rw [hv] at hg'; cases hg'
  ·rw [hv] at hg'; cases hg'; exact ⟨cur,hc⟩
 have hAw:=HA.head
 have hbA : b ≠ A:=fun e => by
  rw [e,hAw] at HB
  injection HB with q
  injection q with _ q _
  exact absurd q (by decide)
 have hbr : (Value.slice ta n tcap).ownBlock ≠ some b:=fun e => by
  obtain ⟨_,cur,hc⟩:=hrb b e
  rw [HB] at hc
  injection hc with q
  injection q with _ q _
  exact absurd q (by decide)
 have hbg : b ≠ g:=fun e => by rw [e,hm] at HB;cases HB
 have hBg : B ≤ g:=by
  rcases HA.ids with ⟨h9,_⟩ | ⟨g',_,_,h9,h,_,_⟩
  ·cases h9
  ·cases h9;exact h
 have hsz : w.heap.size ≤ w7.heap.size:=by
  have q1:=HK2.size
  have q2:=hup.size
  have q3:=hgrow.size
  have q4 : (W3.alloc (.cells #[.pointer (some ⟨b,0,none⟩)] TpT)).heap.size = W3.heap.size + 1:=by simp
  have q5 : w.drew.heap.size = w.heap.size:=rfl
  omega
 have k2 : ∀ x o,w2.heap[x]? = some o → x ≠ g → x ≠ A → (Value.slice ta n tcap).ownBlock ≠ some x → (w7.setCell ⟨A,0,none⟩ (.slice sa' (n + 1) cap')).heap[x]? = some o:=fun x o hx h1 h2 h3 => by
  rw [ja2 h2]
  have q : W3.heap[x]? = some o:=(HZ.1 x h1).trans (hup.get hx)
  rw [hgrow.block x (by have:=ja0 q;simp;omega) (fun e => h3 e.symm)]
  exact jah q
 have k1 : ∀ x cs t fz,w.heap[x]? = some (.cells cs t fz) → x ≠ A → (Value.slice ta n tcap).ownBlock ≠ some x → x ≠ b → (w7.setCell ⟨A,0,none⟩ (.slice sa' (n + 1) cap')).heap[x]? = some (.cells cs t fz):=fun x cs t fz hx h1 h2 h3 =>
  k2 x _ (HK2.get (show w.drew.heap[x]? = _ from hx) h3) (fun e => by rw [e,hm] at hx;cases hx) h1 h2
 have hbl : (w7.setCell ⟨A,0,none⟩ (.slice sa' (n + 1) cap')).heap[b]? = some (.cells cs TyT (0,0)):=k2 b _ HCS.1 hbg hbA hbr
 have hsA : (Value.slice sa' (n + 1) cap').ownBlock ≠ some A:=fun e => by
  rcases hblk with q | ⟨g',q,q2⟩
  ·exact HZ.2.1 (by rw [← q];exact e)
  ·rw [q] at e
   cases e
   have:=ja0 hAw
   have q1:=HK2.size
   have q3:=hup.size
   have q5 : w.drew.heap.size = w.heap.size:=rfl
   omega
 have hlow : Below B w (w7.setCell ⟨A,0,none⟩ (.slice sa' (n + 1) cap')):=by
  refine ⟨hgrow.os.trans (hos3.1.trans (hup.os.trans HK2.os)),hgrow.tape.trans (hos3.2.1.trans (hup.tape.trans HK2.tape)),hgrow.output.trans (hos3.2.2.trans (hup.output.trans HK2.output)),by rw [jam];exact hsz,fun x hx => ?_⟩
  have hBw : B ≤ w.heap.size:=Nat.le_trans HA.base (Nat.le_of_lt (ja0 hAw))
  rw [ja2 (by have:=HA.base;omega)]
  have l1 : x < w.heap.size:=by omega
  have l2 : x < w2.heap.size:=by have q1:=HK2.size;have q5 : w.drew.heap.size = w.heap.size:=rfl;omega
  have l3 : x < wr.heap.size:=Nat.lt_of_lt_of_le l2 hup.size
  rw [hgrow.block x (by simp;omega) (fun e => by have:=(hrb x e.symm).1;omega),jao _ _ _ (by omega),HZ.1 x (by omega),hup.block x l2]
  exact HK2.block x l1 (fun e => by have : x = b:=e;omega)
 refine ⟨⟨.slice sa' (n + 1) cap',?_⟩,⟨cs,hbl,HCS.2⟩,hlow,fun x cs t fz h1 h2 h3 hx => k1 x cs t fz hx h1 h2 h3⟩
 exact {
  base:=HA.base
  head:=ja6 (i:=0) hd _
  row:=by
   have q:=ja8 (w':=w7.setCell ⟨A,0,none⟩ (.slice sa' (n + 1) cap')) hown' fun g' hg' => ja2 (fun e => hsA (by rw [← e];exact hg')) _
   have e1 : (bs ++ [b]).length = n + 1:=by simp [hn]
   have e2 : (bs ++ [b]).map ptrV = bs.map ptrV ++ [.pointer (some ⟨b,0,none⟩)]:=by simp [ptrV]
   rw [e1,e2]
   exact q
  rowB:=fun g' hg' => by
   rcases hblk with q | ⟨g'',q,q2⟩
   ·exact HA.rowB g' (by rw [← q];exact hg')
   ·rw [q] at hg'
    cases hg'
    have hBw : B ≤ w.heap.size:=Nat.le_trans HA.base (Nat.le_of_lt (ja0 hAw))
    have q1:=HK2.size
    have q3:=hup.size
    have q5 : w.drew.heap.size = w.heap.size:=rfl
    omega
  ids := .inr ⟨g,es',clk',rfl,hBg,by
   rw [ja2 (fun e => HZ.2.2.2 e.symm),hgrow.block g (by have:=ja0 hg3;simp;omega) (fun e => HZ.2.2.1 e.symm)]
   exact jah hg3,by rw [jiy,HA.len, ← hn];exact HE'⟩
  len:=by simp [HA.len]
  nodup:=by
   rw [List.nodup_append]
   refine ⟨HA.nodup,by simp,fun x hx y hy => ?_⟩
   simp at hy
   subst hy
   intro e
   subst e
   exact hs hx
  few:=by simp;omega
  said:=fun i c u h1 h2 => by
   rcases Nat.lt_or_ge i bs.length with hi | hi
   ·rw [List.getElem?_append_left hi] at h1
    rw [List.getElem?_append_left (by rw [HA.len];exact hi)] at h2
    obtain ⟨q1,⟨cu,q2,q3⟩,q4⟩:=HA.said i c u h1 h2
    refine ⟨q1,⟨cu,k1 c _ _ _ q2 (fun e => ?_) (fun e => ?_) (fun e => hbn (by rw [← e];exact List.mem_of_getElem? h1)),q3⟩,q4⟩
    ·rw [e,hAw] at q2
     injection q2 with q
     injection q with _ q _
     exact absurd q (by decide)
    ·obtain ⟨_,cur,hc⟩:=hrb c e
     rw [q2] at hc
     injection hc with q
     injection q with _ q _
     exact absurd q (by decide)
   ·have e0 : i = bs.length:=by
     have:=(List.getElem?_eq_some_iff.1 h1).1
     simp at this
     omega
    subst e0
    rw [List.getElem?_append_right (Nat.le_refl _),Nat.sub_self] at h1
    rw [List.getElem?_append_right (by rw [HA.len];exact Nat.le_refl _),HA.len,Nat.sub_self] at h2
    simp at h1 h2
    subst h1 h2
    exact ⟨hbB,⟨cs,hbl,hP⟩,hne⟩ }
theorem jcN : (Tryz.prog.info? TpT).map (fun i => (i.zero,i.size,i.bytes)) = some (some (.pointer none),1,8):=by kernel_rfl
set_option maxHeartbeats 6400000
theorem jo6 (B A b g : Nat) (bs : List Nat) (ws : List ByteArray) (tv : Value) (s : ByteArray) (Pc : Array Value → Prop) (pv : Value) (ps : List (Nat × Nat)) (cs0 : Array Value) (w : World) (h : Ar w B A bs ws tv (.map (some g))) (hb : w.heap[b]? = some (.cells cs0 TyT (0,0))) (hbB : B ≤ b) (hbn : b ∉ bs)
  (ht : jnx b s Pc w) (hP : ∀ cs,Pc cs → cs[7]? = some (.string s) ∧ cs[3]? = some pv) (hne : (s.toList == []) = false) (hs : s ∉ ws) (hps : Parts w pv ps) (hin : ∀ x ∈ ps,∃ (i : Nat) (u : ByteArray),Said w x.1 u ∧ x.1 ≠ b ∧ (u.toList == []) = false ∧ ws[i]? = some u) (hpb : ∀ g' off cap,pv = .slice (some ⟨g',off,none⟩) ps.length cap → g' ≠ b) (hfw : bs.length < 1000) :
  Calls Tryz.prog 48 #[.pointer (some ⟨A,0,none⟩), .pointer (some ⟨b,0,none⟩)] w fun e w' => e = .returned (.int .i64 bs.length) ∧ (∃ tv',Ar w' B A (bs ++ [b]) (ws ++ [s]) tv' (.map (some g))) ∧ (∃ cs,w'.heap[b]? = some (.cells cs TyT (0,0)) ∧ Pc cs) ∧ LayK B A b tv w w':=by
 rcases h.ids with ⟨h9,_⟩ | ⟨g',es,clk,h9,hg,hm,hE⟩
 ·cases h9
 cases h9
 obtain ⟨pa,pcap,rfl⟩:=hps.form
 obtain ⟨ta,tcap,rfl⟩:=ja7 h.row
 have HA:=Lib.hid h
 have HPB:=Lib.hid hpb
 have hpl:=hps.few
 have HT:=Lib.hid ht
 have HM:=Lib.hid (And.intro hm hE)
 have HB:=Lib.hid hb
 have HX:=Lib.hid (And.intro hP (And.intro hne (And.intro hs (And.intro hps (And.intro hin (And.intro hbB hbn))))))
 have a1:=ja1 h.head 1
 have a4:=ja0 h.head
 simp only [gQa,gQz,gQs] at a1
 have hneq : ∀ w,(binOp .eql 100 (.map (some g)) (.map none)).run Tryz.prog w = .ok (.bool false) w:=fun _ => by kernel_rfl
 clear h ht hm hE hb hP hne hs hps hin hbB hbn hg hpb
 go_enter Tryz.func48,Tryz.ntmps48
 go_wp2_with fail
 go_region_law (first | (go_simp;go_at_call 61;refine (HT.out _ uq).mono ?_;rintro e w2 ⟨rfl,⟨cs,hcs,hpc⟩,hk2⟩;have HA2:=Lib.hid (Ar.texted (HA.out.up (show Up w w.drew from uq)) HB.out HX.out.2.2.2.2.2.2 hk2);have a1:=ja1 HA2.out.head 1;simp only [gQa,gQz,gQs] at a1;have a4:=ja0 HA2.out.head;have b3:=(ja1 hcs 3).trans (HX.out.1 cs hpc).2;have bl:=ja0 hcs;have hm2 : Hid (w2.heap[g]? = some (.map es clk)):=hk2.get (Up.get (w:=w) uq HM.out.1) (fun e => by have q:=HM.out.1;rw [show g = b from e,HB.out] at q;cases q);have hlk : (Instr.lookup 100 (.map (some g)) (.string s) true).run Tryz.prog w2 = .ok (.tuple #[.int .i64 0, .bool false]) w2:=(jbk (f:=numV) Tryz.underlying100 Tryz.underlying9 jb9 (show (zeroValue 3).run Tryz.prog w2 = .ok (.int .i64 0) w2 by kernel_rfl) hm2.out HM.out.2 s (jeh HX.out.2.2.1)).1))
 all_goals (go_wp2_with fail)
 all_goals
  have HCS:=Lib.hid (And.intro hcs hpc)
  have HK2:=Lib.hid hk2
  clear hcs hpc hk2 hlk
  refine ja4 fun A2 W2 hA2 hW2 => ?_
  have hu2 : Up w2 W2:=by subst hW2;exact uq
  clear hW2
  subst hA2
  go_loopw [26] (fun i wr => ∃ j : Nat,j ≤ ps.length ∧ i = .int .i64 j ∧ Up w2 wr) (fun i _ => ps.length - (intOf i).toNat)
  case atStart => exact ⟨0,Nat.zero_le _,rfl,hu2⟩
  case round =>
   obtain ⟨j,hj,rfl,hup⟩:=hrel
   by_cases hlt : j < ps.length
   ·have hji : (j : Int) < ps.length:=by omega
    obtain ⟨x,hx⟩ : ∃ x,ps[j]? = some x:=⟨_,List.getElem?_eq_getElem hlt⟩
    obtain ⟨g',off,cap2,he,hg,hc,hxl,_,_⟩:=HX.out.2.2.2.1.at_ j x hx
    have hgb:=HPB.out g' off cap2 he
    cases he
    obtain ⟨i,u,hsu,hxb,hun,hiu⟩:=HX.out.2.2.2.2.1 x (List.mem_of_getElem? hx)
    have y0 : wr.cell? ⟨g',off + j,none⟩ = some (.pointer (some ⟨x.1,0,none⟩)):=by
     have q : wr.heap[g']? = w.heap[g']? := (hup.block g' (Nat.lt_of_lt_of_le hg HK2.out.size)).trans (HK2.out.block g' hg hgb)
     rw [← hc]
     simp only [World.cell?,q]
    have HSU : Hid (Said wr x.1 u):=by
     obtain ⟨cu,q1,q2⟩:=hsu
     exact ⟨cu,hup.get (HK2.out.get (Up.get (w:=w) uq q1) hxb),q2⟩
    have HIU:=Lib.hid (And.intro hun hiu)
    clear hx hc hg hgb hsu hxb hun hiu hlt
    go_wp2_with (first | (go_at_call 48;refine (jo5 B A x.1 bs ws _ _ i u _ (HA2.out.up uq) (HSU.out.up uq) HIU.out.1 HIU.out.2).mono ?_;rintro e w4 ⟨rfl,hu4⟩))
    exact ⟨⟨j + 1,by omega,by simp,uq⟩,by simp [intOf];omega⟩
   ·obtain rfl : j = ps.length:=by omega
    have HA3:=Lib.hid (HA2.out.up hup)
    have a1:=ja1 HA3.out.head 1
    have a0:=ja1 HA3.out.head 0
    have f0:=jab HA3.out.head 0
    have a4:=ja0 HA3.out.head
    simp only [gQa,gQz,gQs] at a0 a1
    have HS3 : Hid (Said wr b s):=⟨cs,hup.get HCS.out.1,(HX.out.1 cs HCS.out.2).1⟩
    have hm3 : Hid (wr.drew.heap[g]? = some (.map es clk)):=Up.get (w:=w2) uq hm2.out
    obtain ⟨es',clk',hst,hE'⟩:=jaP (f:=numV) Tryz.underlying100 Tryz.underlying9 jb9 hm3.out HM.out.2 s bs.length (jeh HX.out.2.2.1)
    have HE':=Lib.hid hE'
    have hst : (Instr.mapUpdate 100 (.map (some g)) (.string s) (.int .i64 bs.length)).run Tryz.prog wr.drew = .ok () (putB wr.drew g (.map es' clk')):=hst
    clear hE' hlt
    go_wp2_with fail
    go_region_law (first | (go_simp;go_at_call 61;refine (jey b s HX.out.2.1 _ (HS3.out.up uq).cell).mono ?_;rintro e w5 ⟨rfl,rfl⟩))
    all_goals (go_upto_region 12 with (fail))
    all_goals
     refine ja4 fun A3 W3 hA3 hW3 => ?_
     have hAg : A ≠ g:=fun e => by
      have q:=hm3.out
      rw [← e,show wr.drew.heap[A]? = _ from HA3.out.head] at q
      cases q
     have hz3 : W3.heap.size = wr.heap.size:=by subst hW3;exact jbK _ _ _
     have hot3 : ∀ x,x ≠ g → W3.heap[x]? = wr.heap[x]? := fun x hx => by subst hW3;exact jat _ _ _ _ hx
     have hg3 : Hid (W3.heap[g]? = some (.map es' clk')):=by subst hW3;exact jbL _ _ _ (ja0 hm3.out)
     have hos3 : Hid (W3.os = wr.os ∧ W3.tape = wr.tape ∧ W3.output = wr.output):=by subst hW3;exact ⟨rfl,rfl,rfl⟩
     clear hW3
     subst hA3
     have hhd3 : Hid (W3.heap[A]? = some (.cells #[.slice ta bs.length tcap, .map (some g), .map none] ArT (0,0))):=(hot3 A hAg).trans HA3.out.head
     have hrb : ∀ g',(Value.slice ta bs.length tcap).ownBlock = some g' → ∃ cur,wr.heap[g']? = some (.cells cur TpT (0,0)):=fun g' hg' => by
      rcases HA3.out.row.2 with ⟨hv,_⟩ | ⟨g'',cap,cur,hv,_,hc,_⟩
      ·rw [hv] at hg'; cases hg'
      ·rw [hv] at hg'; cases hg'; exact ⟨cur,hc⟩
     have hrA : (Value.slice ta bs.length tcap).ownBlock ≠ some A:=fun e => by
      obtain ⟨cur,hc⟩:=hrb A e
      rw [HA3.out.head] at hc
      injection hc with hc
      injection hc with _ hc _
      exact absurd hc (by decide)
     have hrg : (Value.slice ta bs.length tcap).ownBlock ≠ some g:=fun e => by
      obtain ⟨cur,hc⟩:=hrb g e
      have q:=hm3.out
      rw [show wr.drew.heap[g]? = _ from hc] at q
      cases q
     have row3 : Hid (W3.ownsRow 0 TpT 1 (.slice ta bs.length tcap) bs.length (bs.map ptrV)):=ja8 HA3.out.row fun g' hg' => hot3 g' (fun e => hrg (by rw [← e];exact hg'))
     have HZ:=Lib.hid (And.intro hot3 (And.intro hrA (And.intro hrg hAg)))
     have a0:=ja1 hhd3.out 0
     have f0:=jab hhd3.out 0
     have a4:=ja0 hhd3.out
     simp only [gQa,gQz,gQs] at a0
     clear hot3 hrb hrA hrg hAg hst
     obtain ⟨i0,hi,hz0,hz1,hz2⟩:=info_parts jcN
     go_wp2_with (first | (at_builtin;go_must (refine jae rfl _ _ 99 rfl TpT i0 (.pointer none) 1 8 Tryz.underlying99 hi hz0 hz1 hz2 rfl (by decide) (.slice ta bs.length tcap) bs.length (bs.map ptrV) rfl (ja5 row3.out uq) _ 1 1 rfl (by first | rfl | (simp;done) | omega | (trace_state;exact rfl)) rfl (by intro u hu;have hu2 : u = .pointer (some ⟨b,0,none⟩):=(by simpa using hu);rw [hu2];rfl) (by unfold maxLen;omega) (by omega) ?_;intro sa' cap' w7 hown' hgrow hblk;(try simp only [gQw] at hblk);have hd:=Lib.hid (jan hgrow (Up.get (w:=W3) uq hhd3.out) HZ.out.2.1);have a0:=ja1 hd.out 0;have f0:=jab hd.out 0;have a4:=ja0 hd.out;simp only [gQa,gQz,gQs] at a0;have HY:=Lib.hid (And.intro hown' (And.intro hgrow hblk));clear hown' hgrow hblk)))
    all_goals
     go_ret
     exact ⟨rfl,jl8 rfl HA.out HB.out HX.out.2.2.2.2.2.1 HX.out.2.2.2.2.2.2 HK2.out HCS.out (HX.out.1 cs HCS.out.2).1 HX.out.2.1 HX.out.2.2.1 hfw hup HM.out.1 hz3 HZ.out hg3.out hos3.out HE'.out hd.out HY.out.1 HY.out.2.1 HY.out.2.2⟩
theorem jl6 (b : Nat) (k : Int) (h1 : 1 ≤ k) (h2 : k ≤ 10) (w : World) (h : Leaf w b k ⟨#[]⟩) : jnx b (jaw k) (fun cs => cs = jmw k (jaw k)) w:=fun W hW =>
 (jgQ b k h1 h2 W (hW.get h)).mono fun _ _ ⟨e,l,kp⟩ => ⟨e,⟨_,l,rfl⟩,kp⟩
theorem Kept.belowB {S : Nat → Prop} {B : Nat} {w w' : World} (h : Kept S w w') (hs : ∀ x,x < B → ¬ S x) (hB : B ≤ w.heap.size) : Below B w w' :=
 ⟨h.os,h.tape,h.output,h.size,fun x hx => h.block x (by omega) (hs x hx)⟩
theorem jkn (k : Int) : ((jaw k).toList == []) = false:=by
 unfold jaw
 repeat' split
 all_goals kernel_rfl
theorem jl7 (B A b : Nat) (k : Int) (h1 : 1 ≤ k) (h2 : k ≤ 10) (w : World) (hA : w.heap[A]? = some (.cells #[.slice none 0 0, .map none, .map none] ArT (0,0))) (hb : Leaf w b k ⟨#[]⟩) (hBA : B ≤ A) (hBb : B ≤ b) :
  Calls Tryz.prog 48 #[.pointer (some ⟨A,0,none⟩), .pointer (some ⟨b,0,none⟩)] w fun e w' => e = .returned (.int .i64 0) ∧ (∃ g tv',Ar w' B A [b] [jaw k] tv' (.map (some g))) ∧ Leaf w' b k (jaw k) ∧ LayK B A b (.slice none 0 0) w w':=by
 have HA:=Lib.hid hA
 have HK:=Lib.hid (And.intro h1 h2)
 have HB:=Lib.hid hb
 have HBB:=Lib.hid (And.intro hBA hBb)
 have hAb : A ≠ b:=fun e => by
  rw [e] at hA
  rw [show w.heap[b]? = _ from hb] at hA
  injection hA with q
  injection q with _ q _
  exact absurd q (by decide)
 have a1:=ja1 hA 1
 have a4:=ja0 hA
 simp only [gQa,gQz,gQs] at a1
 obtain ⟨s,hs⟩ : ∃ s,Hid (jaw k = s):=⟨_,rfl⟩
 have hne : Hid ((s.toList == []) = false):=by rw [← hs.out];exact jkn k
 have hneq : ∀ w,(binOp .eql 100 (.map none) (.map none)).run Tryz.prog w = .ok (.bool true) w:=fun _ => by kernel_rfl
 have hl0 : ∀ W : World,(Instr.lookup 100 (.map none) (.string s) true).run Tryz.prog W = .ok (.tuple #[.int .i64 0, .bool false]) W:=fun W =>
  (jbI (kf:=Value.string) (z := .int .i64 0) Tryz.underlying100 Tryz.underlying9 jb9 (show (zeroValue 3).run Tryz.prog W = .ok (.int .i64 0) W by kernel_rfl) s).1
 have hmm:=@run_makeMap Tryz.prog
 clear hA hb h1 h2 hBA hBb
 rw [hs.out]
 go_enter Tryz.func48,Tryz.ntmps48
 go_wp2_with fail
 go_region_law (first | (go_simp;go_at_call 61;refine (jgQ b k HK.out.1 HK.out.2 _ (Up.get (w:=w) uq HB.out)).mono ?_;rintro e w2 ⟨rfl,hl2,hk2⟩;rw [hs.out] at *; have hA2:=Lib.hid (hk2.get (show w.drew.heap[A]? = _ from HA.out) hAb);have f1:=jab hA2.out 1;have a1:=ja1 hA2.out 1;simp only [gQa,gQz,gQs] at a1;have a4:=ja0 hA2.out;have b3:=ja1 hl2 3;simp only [gQa,gQz,gQs] at b3;have bl:=ja0 hl2))
 all_goals (go_wp2_with fail)
 all_goals refine wp_loop_rounds 1 ?_
 all_goals rw [rounds_succ]
 all_goals (go_upto_region 11 with (fail))
 all_goals
  refine ja4 fun A2 W2 hA2' hW2 => ?_
  have hg2 : Hid (W2.heap[w2.heap.size]? = some (.map #[] 0)):=by subst hW2;exact jaa _ _ _ (by simp [jam])
  have hh2 : Hid (W2.heap[A]? = some (.cells #[.slice none 0 0, .map (some w2.heap.size), .map none] ArT (0,0))):=by subst hW2;exact jah (ja6 (i:=1) hA2.out _)
  have hl3 : Hid (Leaf W2 b k s):=by subst hW2;exact jah ((ja2 (fun e => hAb e.symm) _).trans hl2)
  have hk3 : Hid (Kept (fun x => x = A) w2 W2):=by subst hW2;exact (Kept.setCell (S:=fun x => x = A) (p:=⟨A,1,none⟩) (Kept.refl _ _) (.inl rfl) _).alloc _
  obtain ⟨g,hg⟩ : ∃ g,Hid (w2.heap.size = g):=⟨_,rfl⟩
  rw [hg.out] at hg2 hh2 hA2'
  have hBs : B ≤ w2.heap.size:=Nat.le_trans HBB.out.1 (Nat.le_of_lt (ja0 hA2.out))
  have HAr : Hid (Ar W2 B A [] [] (.slice none 0 0) (.map (some g))):={
   base:=HBB.out.1
   head:=hh2.out
   row:=⟨rfl, .inl ⟨rfl,rfl⟩⟩
   rowB:=fun g' hg' => by cases hg'
   ids := .inr ⟨g,#[],0,rfl,by rw [← hg.out];exact hBs,hg2.out,rfl⟩
   len:=rfl
   nodup:=List.nodup_nil
   few:=by simp
   said:=fun i c u h1 _ => by simp at h1 }
  have HS3 : Hid (Said W2 b s):=hl3.out.said
  have hlow : Hid (Below B w W2):=Below.trans (Kept.belowB (w:=w) ⟨hk2.os,hk2.tape,hk2.output,hk2.size,hk2.block⟩ (fun x hx e => by have:=HBB.out.2;have e : x = b:=e;omega) (Nat.le_trans HBB.out.1 (Nat.le_of_lt (ja0 HA.out)))) (hk3.out.belowB (fun x hx e => by have:=HBB.out.1;have e : x = A:=e;omega) hBs)
  have hkk : Hid (∀ (x : Nat) (cs : Array Value) (t : TypeId) (fz : Nat × Nat),x ≠ A → x ≠ b → w.heap[x]? = some (.cells cs t fz) → W2.heap[x]? = some (.cells cs t fz)):=fun x cs t fz h1 h2 hx => hk3.out.get (hk2.get (show w.drew.heap[x]? = _ from hx) h2) h1
  obtain ⟨es',clk',hst,hE'⟩:=jaP (f:=numV) (P:=Tryz.prog) (es := #[]) (clk:=0) (l := []) (w:=W2.drew) Tryz.underlying100 Tryz.underlying9 jb9 hg2.out rfl s 0 (by simp)
  have HE':=Lib.hid hE'
  have hst : (Instr.mapUpdate 100 (.map (some g)) (.string s) (.int .i64 0)).run Tryz.prog W2.drew = .ok () (putB W2.drew g (.map es' clk')):=hst
  have a1:=ja1 HAr.out.head 1
  have a0:=ja1 HAr.out.head 0
  have f0:=jab HAr.out.head 0
  have a4:=ja0 HAr.out.head
  simp only [gQa,gQz,gQs] at a0 a1
  clear hE' hW2 hBs hl2 hk2
  subst hA2'
  go_region_law (first | (go_simp;go_at_call 61;refine (jey b s hne.out _ (HS3.out.up uq).cell).mono ?_;rintro e w5 ⟨rfl,rfl⟩))
 all_goals (go_upto_region 12 with (fail))
 all_goals
  refine ja4 fun A3 W3 hA3 hW3 => ?_
  have hAg : A ≠ g:=fun e => by
   have q : W2.drew.heap[g]? = _:=hg2.out
   rw [← e,show W2.drew.heap[A]? = _ from HAr.out.head] at q
   cases q
  have hz3 : W3.heap.size = W2.heap.size:=by subst hW3;exact jbK _ _ _
  have hot3 : ∀ x,x ≠ g → W3.heap[x]? = W2.heap[x]? := fun x hx => by subst hW3;exact jat _ _ _ _ hx
  have hg3 : Hid (W3.heap[g]? = some (.map es' clk')):=by subst hW3;exact jbL _ _ _ (ja0 hg2.out)
  have hos3 : Hid (W3.os = W2.os ∧ W3.tape = W2.tape ∧ W3.output = W2.output):=by subst hW3;exact ⟨rfl,rfl,rfl⟩
  clear hW3
  subst hA3
  have hhd3 : Hid (W3.heap[A]? = some (.cells #[.slice none 0 0, .map (some g), .map none] ArT (0,0))):=(hot3 A hAg).trans HAr.out.head
  have hrb : ∀ g',(Value.slice none 0 0).ownBlock = some g' → ∃ cur,W2.heap[g']? = some (.cells cur TpT (0,0)):=fun g' hg' => by
   rcases HAr.out.row.2 with ⟨hv,_⟩ | ⟨g'',cap,cur,hv,_,hc,_⟩
   ·rw [hv] at hg'; cases hg'
   ·rw [hv] at hg'; cases hg'; exact ⟨cur,hc⟩
  have hrA : (Value.slice none 0 0).ownBlock ≠ some A:=fun e => by
   obtain ⟨cur,hc⟩:=hrb A e
   rw [HAr.out.head] at hc
   injection hc with hc
   injection hc with _ hc _
   exact absurd hc (by decide)
  have hrg : (Value.slice none 0 0).ownBlock ≠ some g:=fun e => by
   obtain ⟨cur,hc⟩:=hrb g e
   have q : W2.drew.heap[g]? = _:=hg2.out
   rw [show W2.drew.heap[g]? = _ from hc] at q
   cases q
  have row3 : Hid (W3.ownsRow 0 TpT 1 (.slice none 0 0) 0 []):=ja8 HAr.out.row fun g' hg' => hot3 g' (fun e => hrg (by rw [← e];exact hg'))
  have HZ:=Lib.hid (And.intro hot3 (And.intro hrA (And.intro hrg hAg)))
  have a0:=ja1 hhd3.out 0
  have f0:=jab hhd3.out 0
  have a4:=ja0 hhd3.out
  simp only [gQa,gQz,gQs] at a0
  clear hot3 hrb hrA hrg hAg hst
  obtain ⟨i0,hi,hz0,hz1,hz2⟩:=info_parts jcN
  go_wp2_with (first | (at_builtin;go_must (refine jae rfl _ _ 99 rfl TpT i0 (.pointer none) 1 8 Tryz.underlying99 hi hz0 hz1 hz2 rfl (by decide) (.slice none 0 0) 0 [] rfl (ja5 row3.out uq) _ 1 1 rfl (by first | rfl | (simp;done) | omega | (trace_state;exact rfl)) rfl (by intro u hu;have hu2 : u = .pointer (some ⟨b,0,none⟩):=(by simpa using hu);rw [hu2];rfl) (by unfold maxLen;omega) (by omega) ?_;intro sa' cap' w7 hown' hgrow hblk;(try simp only [gQw] at hblk);have hd:=Lib.hid (jan hgrow (Up.get (w:=W3) uq hhd3.out) HZ.out.2.1);have a0:=ja1 hd.out 0;have f0:=jab hd.out 0;have a4:=ja0 hd.out;simp only [gQa,gQz,gQs] at a0;have HY:=Lib.hid (And.intro hown' (And.intro hgrow hblk));clear hown' hgrow hblk)))
  go_ret
  obtain ⟨⟨tv',h1⟩,⟨cs9,h2,h3⟩,h4⟩:=jl8 (Pc:=fun cs => cs = jmw k s) (bs := []) (ws := []) rfl HAr.out hl3.out HBB.out.2 (by simp) (show Kept (fun x => x = b) W2.drew W2 from ⟨rfl,rfl,rfl,Nat.le_refl _,fun _ _ _ => rfl⟩) ⟨hl3.out,rfl⟩ rfl hne.out (by simp) (by simp) (Up.refl W2) hg2.out hz3 HZ.out hg3.out hos3.out HE'.out hd.out HY.out.1 HY.out.2.1 HY.out.2.2
  subst h3
  exact ⟨rfl,⟨g,tv',h1⟩,h2,Below.trans hlow.out h4.low,fun x cs t fz q1 q2 q3 q4 => h4.kept x cs t fz q1 q2 q3 (hkk.out x cs t fz q1 q3 q4)⟩
def jd2 (j : Nat) : List ByteArray:=(List.range j).map fun i : Nat => jaw ((i : Int) + 1)
theorem jhO (j : Nat) : jd2 (j + 1) = jd2 j ++ [jaw ((j : Int) + 1)]:=by simp [jd2,List.range_succ]
theorem jlX (j : Nat) (hj : j < 10) : jaw ((j : Int) + 1) ∉ jd2 j:=by
 have h : j = 0 ∨ j = 1 ∨ j = 2 ∨ j = 3 ∨ j = 4 ∨ j = 5 ∨ j = 6 ∨ j = 7 ∨ j = 8 ∨ j = 9:=by omega
 intro hm
 have hm:=List.mem_map_of_mem (f:=fun s : ByteArray => s.data.toList) hm
 rcases h with rfl | rfl | rfl | rfl | rfl | rfl | rfl | rfl | rfl | rfl <;> exact absurd hm (by decide +kernel)
structure Few (w : World) (B A : Nat) (bs : List Nat) (g : Nat) (tv : Value) (j : Nat) : Prop where
 ar : Ar w B A bs (jd2 j) tv (.map (some g))
 len : bs.length = j
 leaf : ∀ (i b : Nat),bs[i]? = some b → Leaf w b ((i : Int) + 1) (jaw ((i : Int) + 1))
theorem Few.up {w w' : World} {B A : Nat} {bs : List Nat} {g : Nat} {tv : Value} {j : Nat} (h : Few w B A bs g tv j) (k : Up w w') : Few w' B A bs g tv j:=⟨h.ar.up k,h.len,fun i b hb => k.get (h.leaf i b hb)⟩
theorem Few.next {w w' : World} {B A : Nat} {bs : List Nat} {g : Nat} {tv tv' : Value} {j b : Nat} (h : Few w B A bs g tv j) (h1 : Ar w' B A (bs ++ [b]) (jd2 j ++ [jaw ((j : Int) + 1)]) tv' (.map (some g))) (h2 : Leaf w' b ((j : Int) + 1) (jaw ((j : Int) + 1))) (h3 : LayK B A b tv w w') (hb : b ∉ bs) : Few w' B A (bs ++ [b]) g tv' (j + 1) where
 ar:=by rw [jhO];exact h1
 len:=by simp [h.len]
 leaf:=fun i c hc => by
  rcases Nat.lt_or_ge i bs.length with hi | hi
  ·rw [List.getElem?_append_left hi] at hc
   have q:=h.leaf i c hc
   refine h3.kept c _ _ _ (fun e => ?_) (fun e => ?_) (fun e => hb (by rw [← e];exact List.mem_of_getElem? hc)) q
   ·have q2:=h.ar.head
    rw [← e,show w.heap[c]? = _ from q] at q2
    injection q2 with q2
    injection q2 with _ q2 _
    exact absurd q2 (by decide)
   ·rcases h.ar.row.2 with ⟨hv,_⟩ | ⟨g',cap,cur,hv,_,hc2,_⟩
    ·rw [hv] at e;cases e
    ·rw [hv] at e
     have e : g' = c:=by simpa [Value.ownBlock] using e
     rw [e,show w.heap[c]? = _ from q] at hc2
     injection hc2 with q2
     injection q2 with _ q2 _
     exact absurd q2 (by decide)
  ·have e0 : i = bs.length:=by
    have:=(List.getElem?_eq_some_iff.1 hc).1
    simp at this
    omega
   rw [e0,List.getElem?_append_right (Nat.le_refl _),Nat.sub_self] at hc
   simp at hc
   subst hc
   rw [e0,h.len]
   exact h2
theorem Few.old {w : World} {B A : Nat} {bs : List Nat} {g : Nat} {tv : Value} {j : Nat} (h : Few w B A bs g tv j) {b : Nat} (hb : w.heap.size ≤ b) : b ∉ bs:=fun hm => by
 obtain ⟨i,hi⟩:=List.getElem?_of_mem hm
 have:=ja0 (h.leaf i b hi)
 omega
theorem jis (w : World) : Calls Tryz.prog 17 #[] w fun e w' => ∃ A bs g tv,e = .returned (.pointer (some ⟨A,0,none⟩)) ∧ Few w' w.heap.size A bs g tv 10 ∧ Up w w':=by
 have X0:=Lib.hid (ja9 w (.cells #[.slice none 0 0, .map none, .map none] ArT (0,0)))
 go_enter Tryz.func17,Tryz.ntmps17
 go_wp2_with fail
 refine ja4 fun A W hA hW => ?_
 have hb : W.heap[w.heap.size]? = some (.cells #[.slice none 0 0, .map none, .map none] ArT (0,0)):=by subst hW;exact X0.out
 have hUW : Up w W:=by subst hW;exact uq
 clear hW
 subst hA
 go_loopw [2] (fun i wr => ∃ j : Nat,j ≤ 10 ∧ i = .int .i64 ((j : Int) + 1) ∧ Up w wr ∧ ((j = 0 ∧ wr.heap[w.heap.size]? = some (.cells #[.slice none 0 0, .map none, .map none] ArT (0,0))) ∨ (0 < j ∧ ∃ bs g tv,Few wr w.heap.size w.heap.size bs g tv j))) (fun i _ => 11 - (intOf i).toNat)
 case atStart => exact ⟨0,Nat.zero_le _,rfl,hUW, .inl ⟨rfl,hb⟩⟩
 case round =>
  obtain ⟨j,hj,rfl,hup,hq⟩:=hrel
  by_cases hlt : j < 10
  ·have hji : (j : Int) + 1 ≤ 10:=by omega
   have hsz:=hup.size
   rcases hq with ⟨rfl,hf⟩ | ⟨hj0,bs,g,tv,hf⟩
   ·have HF:=Lib.hid hf
    have hal:=ja0 hf
    clear hf hlt
    go_wp2_with (first | (go_at_call 49;refine (jc4 _ _).mono ?_;rintro e w3 ⟨b,rfl,hb3,hl3,hu3⟩) | (go_at_call 48;refine (jl7 w.heap.size w.heap.size b _ (by decide) (by decide) _ (hu3.get HF.out) hb3 (Nat.le_refl _) (by omega)).mono ?_;rintro e w4 ⟨rfl,⟨g,tv',h1⟩,h2,h3⟩))
    refine ⟨⟨1,by omega,by simp,Below.trans (Up.trans hup hu3) h3.low, .inr ⟨by omega,[b],g,tv',h1,rfl,fun i c hc => ?_⟩⟩,by simp [intOf]⟩
    cases i with
    | zero => simp at hc;subst hc;exact h2
    | succ i => simp at hc
   ·have HF:=Lib.hid hf
    have hk1 : Hid (1 ≤ (j : Int) + 1 ∧ (j : Int) + 1 ≤ 10):=⟨by omega,hji⟩
    have hjl:=hf.len
    clear hf hj0
    go_wp2_with (first | (go_at_call 49;refine (jc4 _ _).mono ?_;rintro e w3 ⟨b,rfl,hb3,hl3,hu3⟩) | (go_at_call 48;refine (jo6 w.heap.size w.heap.size b g bs (jd2 j) tv (jaw ((j : Int) + 1)) (fun cs => cs = jmw ((j : Int) + 1) (jaw ((j : Int) + 1))) (.slice none 0 0) [] _ _ (HF.out.up hu3).ar hb3 (by omega) (HF.out.old hl3) (jl6 b _ hk1.out.1 hk1.out.2 _ hb3) (by rintro cs rfl;exact ⟨rfl,rfl⟩) (jkn _) (jlX j hlt) (Parts.nil _) (by simp) (by intro g' off cap he;cases he) (by omega)).mono ?_;rintro e w4 ⟨rfl,⟨tv',h1⟩,⟨cs,h2,rfl⟩,h3⟩))
    exact ⟨⟨j + 1,by omega,by simp,Below.trans (Up.trans hup hu3) h3.low, .inr ⟨by omega,bs ++ [b],g,tv',(HF.out.up hu3).next h1 h2 h3 (HF.out.old hl3)⟩⟩,by simp [intOf];omega⟩
  ·obtain rfl : j = 10:=by omega
   rcases hq with ⟨h9,_⟩ | ⟨_,bs,g,tv,hf⟩
   ·omega
   clear hlt
   go_wp2_with fail
   refine jba (by (simp [results,Tryz.results17,go_sem, *]) <;> rfl) rfl rfl ?_
   exact ⟨w.heap.size,bs,g,tv,rfl,hf,uq⟩
attribute [local go_sem] Oper.semAt_some
abbrev SlT : TypeId:=99
abbrev jev : Nat:=172
def Item (w : World) (b : Nat) (k : Int) (s : ByteArray) : Prop := ∃ cs : Array Value,w.heap[b]? = some (.cells cs TyT (0,0)) ∧ cs[0]? = some (.int .i64 k) ∧ cs[7]? = some (.string s) ∧ (s.toList == []) = false
theorem Item.up {w w' : World} {b : Nat} {k : Int} {s : ByteArray} (h : Item w b k s) (u : Up w w') : Item w' b k s:=let ⟨cs,h1,h2⟩:=h; ⟨cs,u.get h1,h2⟩
theorem Item.said {w : World} {b : Nat} {k : Int} {s : ByteArray} (h : Item w b k s) : Said w b s:=let ⟨cs,h1,_,h3,_⟩:=h; ⟨cs,h1,h3⟩
def SeqAt (w : World) (t g : Nat) (xs : List Nat) : Prop := ∃ (off cap : Nat) (cs : Array Value) (fz : Nat × Nat),w.heap[t]? = some (.cells #[.slice (some ⟨g,off,none⟩) xs.length cap] SlT (0,0)) ∧ w.heap[g]? = some (.cells cs TpT fz) ∧ ∀ j x,xs[j]? = some x → cs[off + j]? = some (ptrV x)
theorem SeqAt.up {w w' : World} {t g : Nat} {xs : List Nat} (h : SeqAt w t g xs) (u : Up w w') : SeqAt w' t g xs:=let ⟨off,cap,cs,fz,h1,h2,h3⟩:=h; ⟨off,cap,cs,fz,u.get h1,u.get h2,h3⟩
theorem jg6 (a : Option Addr) (n cap : Nat) (w : World) :
  Calls Tryz.prog 140 #[.slice a n cap] w fun e w' => e = .returned (.func (.func jev) #[] #[.pointer (some ⟨w.heap.size,0,none⟩)]) ∧ w' = w.alloc (.cells #[.slice a n cap] SlT):=by
 go_enter Tryz.func140,Tryz.ntmps140
 go_wp2
 go_ret
 exact ⟨rfl,rfl⟩
theorem jhP (l tb : Nat) (xs : List Nat) (K : World → World → Prop) (hKr : ∀ W,K W W) (hKt : ∀ a b c,K a b → K b c → K a c) (J Jx : List Nat → World → Prop) (W : World)
  (hY : ∀ pre x W1,x ∈ xs → J pre W1 → pre.length < xs.length → YieldAt Fence.wide 0 Tryz.prog l #[ptrV x] W1 fun e W' =>
   (e = .returned (.bool true) ∧ J (pre ++ [x]) W' ∧ K W1 W') ∨ (e = .returned (.bool false) ∧ Jx (pre ++ [x]) W'))
  (hlen : xs.length ≤ 1000000) (hbox : ∃ g off cap,∀ W',K W W' → W'.cell? ⟨tb,0,none⟩ = some (.slice (some ⟨g,off,none⟩) xs.length cap) ∧ ∀ j x,xs[j]? = some x → W'.cell? ⟨g,off + j,none⟩ = some (ptrV x)) (h0 : J [] W) :
  CallsIn Fence.wide 1 Tryz.prog jev #[.func (.yield l) #[] #[], .pointer (some ⟨tb,0,none⟩)] W fun e W' => (∃ v,e = .returned v) ∧
   (J xs W' ∨ (∃ pre,pre <+: xs ∧ Jx pre W')):=by
 obtain ⟨g,off,cap,hbox⟩:=hbox
 have hb0:=(hbox W (hKr W)).1
 have HB:=Lib.hid hbox
 clear hbox
 refine callsIn_of_wp Tryz.func172 rfl trivial ?_ rfl
 simp only [Tryz.ntmps172,List.size_toArray,List.length_cons,List.length_nil,Nat.reduceAdd,Nat.reduceSub,Array.replicate_succ,Array.replicate_zero,List.push_toArray,List.append_toArray,List.nil_append,List.cons_append]
 gi_wp2
 gi_loopw [7] (fun i wr => ∃ (j : Nat),j ≤ xs.length ∧ i = .int .i64 j ∧ J (xs.take j) wr ∧ K W wr) (fun i _ => xs.length - (intOf i).toNat)
 case atStart => exact ⟨0,Nat.zero_le _,rfl,h0,hKr _⟩
 case round =>
  obtain ⟨j,hj,rfl,hJs,hnx⟩:=hrel
  by_cases hlt : j < xs.length
  ·have hji : (j : Int) < xs.length:=by omega
   obtain ⟨x,hx⟩ : ∃ x,xs[j]? = some x:=⟨_,List.getElem?_eq_getElem hlt⟩
   have y0 : wr.cell? ⟨g,off + j,none⟩ = some (.pointer (some ⟨x,0,none⟩)):=(HB.out wr hnx).2 j x hx
   obtain ⟨fn,tmps,assign,body,hy,hR⟩:=hY _ x wr (List.mem_of_getElem? hx) hJs (by simp;omega)
   have hnext : xs.take (j + 1) = xs.take j ++ [x]:=by rw [List.take_add_one,hx];rfl
   have HX:=Lib.hid hx
   simp only [ptrV] at hy
   clear hx hlt
   gi_wp2
   refine hR.mono ?_
   rintro e W3 (⟨rfl,hJ3,hk3⟩ | ⟨rfl,hJx3⟩)
   ·gi_wp2
    go_roundw
    case rel => exact ⟨j + 1,by omega,by simp,by rw [hnext];exact hJ3,hKt _ _ _ hnx hk3⟩
    case measure => simp [intOf];omega
   ·gi_wp2
    refine bodyPost_ret (results_none rfl _ _ _) rfl ?_
    exact ⟨⟨_,rfl⟩, .inr ⟨_,by rw [← hnext];exact List.take_prefix _ _,hJx3⟩⟩
  ·obtain rfl : j = xs.length:=by omega
   gi_wp2
   go_end0
   rw [List.take_length] at hJs
   exact ⟨⟨_,rfl⟩, .inl hJs⟩
structure TwoKeep (S : Nat → Prop) (a b : World) : Prop where
 size : a.heap.size ≤ b.heap.size
 same : ∀ x o,S x → a.heap[x]? = some o → o.isCells = true → b.heap[x]? = some o
theorem TwoKeep.refl (S : Nat → Prop) (w : World) : TwoKeep S w w:=⟨Nat.le_refl _,fun _ _ _ h _ => h⟩
theorem TwoKeep.trans {S : Nat → Prop} {a b c : World} (h : TwoKeep S a b) (k : TwoKeep S b c) : TwoKeep S a c:=⟨Nat.le_trans h.size k.size,fun x o hx h1 h2 => k.same x o hx (h.same x o hx h1 h2) h2⟩
theorem TwoKeep.up {S : Nat → Prop} {a b c : World} (h : TwoKeep S a b) (k : Up b c) : TwoKeep S a c:=⟨Nat.le_trans h.size k.size,fun x o hx h1 h2 => k.get (h.same x o hx h1 h2)⟩
theorem TwoKeep.putObj (S : Nat → Prop) (W : World) (l : Nat) (o o' : Obj) (h : W.heap[l]? = some o) (hc : o.isCells = false) : TwoKeep S W (W.putObj l o') where
 size:=by simp
 same:=fun x u _ hx hu => by
  rw [World.putObj_heap_other (fun e => by subst e;rw [h] at hx;cases hx;rw [hc] at hu;cases hu)]
  exact hx
abbrev jfj (xs : List Nat):={ x : Nat // x ∈ xs }
theorem jgG (tb : Nat) (xs : List Nat) (hlen : xs.length ≤ 1000000) (w : World) (g : Nat) (h : SeqAt w tb g xs) :
  SeqStopsK Fence.wide 1 Tryz.prog jev #[.pointer (some ⟨tb,0,none⟩)] (fun x : jfj xs => #[ptrV x.1]) (TwoKeep fun x => x = tb ∨ x = g) (fun ys => ys.map (·.1) = xs) (fun _ => True) xs.length w:=by
 obtain ⟨off,cap,cs,fz,h1,h2,h3⟩:=h
 intro l J0 Jx0 W hW hJ0 hJx0 hY0 h00
 refine CallsIn.mono (jhP l tb xs (TwoKeep fun x => x = tb ∨ x = g) (TwoKeep.refl _) (fun _ _ _ => TwoKeep.trans) (fun pre W => ∃ ys : List (jfj xs),ys.map (·.1) = pre ∧ J0 ys W) (fun pre W => ∃ ys : List (jfj xs),ys.map (·.1) = pre ∧ Jx0 ys W) W ?_ hlen ⟨g,off,cap,fun W' hk => ?_⟩ ⟨[],rfl,h00⟩) ?_
 ·rintro pre x W1 hx ⟨ys,rfl,hj⟩ hl
  obtain ⟨fn,tmps,assign,body,hy,hR⟩:=hY0 ys ⟨x,hx⟩ W1 hj (by simpa using hl)
  refine ⟨fn,tmps,assign,body,hy,hR.mono ?_⟩
  rintro e W' (⟨rfl,h1,h2⟩ | ⟨rfl,h1⟩)
  ·exact .inl ⟨rfl,⟨ys ++ [⟨x,hx⟩],by simp,h1⟩,h2⟩
  ·exact .inr ⟨rfl,ys ++ [⟨x,hx⟩],by simp,h1⟩
 ·refine ⟨?_,fun j x hx => ?_⟩
  ·exact ja1 (hk.same tb _ (.inl rfl) (Up.get hW h1) rfl) 0
  ·exact (ja1 (hk.same g _ (.inr rfl) (Up.get hW h2) rfl) _).trans (h3 j x hx)
 ·rintro e W' ⟨hv,⟨ys,hy,hj⟩ | ⟨pre,hp,ys,hy,hj⟩⟩
  ·exact ⟨hv,Or.inl ⟨ys,hy,hj⟩⟩
  ·exact ⟨hv,Or.inr ⟨ys,trivial,hj⟩⟩
end Go.Proofs.YtiaepldmgighbaaGreatDoor
namespace Go.Proofs.YtiaepldmgighbaaGreatDoor
open Go.RowKit
section
variable {P : Program} {w : World}
theorem jeC {ops : Array Oper} {o : Oper} {a : Act} {K : Act → World → Prop} {Q : Exit → Act → World → Prop} {E : Prop} (hgd : o.guard = none) (s x : Operand) (t : TypeId)
  (ho : o.op = .call { callee := .builtin .append,args := #[s,x],argTypes := #[t,t] })
  (e : TypeId) (i : TypeInfo) (z : Value) (size bytes : Nat) (ht : P.underlying t = some (.slice e)) (hi : P.info? e = some i) (hz : i.zero = some z)
  (hsize : i.size = size) (hby : i.bytes = bytes) (hzs : z.cells.size = size) (hsz : 0 < size)
  (v : Value) (n : Nat) (xs : List Value) (hs : a.eval s = v) (hown : w.ownsRow 0 e size v n xs)
  (ad : Addr) (m c : Nat) (news : List Value) (hx : a.eval x = .slice (some ad) m c) (hl : news.length = m * size) (hnews : ∀ j u,news[j]? = some u → w.cell? (ad.add j) = some u) (h1 : ∀ u ∈ news,u.oneCell' = true)
  (h63 : n + m ≤ maxLen) (hbytes : (n + m) * bytes ≤ 140737488355328)
  (h : ∀ sa cap w',w'.ownsRow 0 e size (.slice sa (n + m) cap) (n + m) (xs ++ news) → w.grownBy w' v.ownBlock →
   ((Value.slice sa (n + m) cap).ownBlock = v.ownBlock ∨ ∃ g,(Value.slice sa (n + m) cap).ownBlock = some g ∧ w.heap.size ≤ g) → K (a.put o.dst (.slice sa (n + m) cap)) w') :
  if Region.wanted o (yielded ops a.tmps) = true then Oper.wp P o a w K Q else E:=by
 have hw : Region.wanted o (yielded ops a.tmps) = true:=by simp [Region.wanted,hgd]
 rw [if_pos hw]
 exact jde s x t ho e i z size bytes ht hi hz hsize hby hzs hsz v n xs hs hown ad m c news hx hl hnews h1 h63 hbytes h
theorem jcp {W : World} {cs : Array Value} {te : TypeId} {ops : Array Oper} {o : Oper} {a : Act} {K : Act → World → Prop} {Q : Exit → Act → World → Prop} {E : Prop} (hgd : o.guard = none) (s x : Operand) (t : TypeId)
  (ho : o.op = .call { callee := .builtin .append,args := #[s,x],argTypes := #[t,t] })
  (e : TypeId) (i : TypeInfo) (z : Value) (size bytes : Nat) (ht : P.underlying t = some (.slice e)) (hi : P.info? e = some i) (hz : i.zero = some z)
  (hsize : i.size = size) (hby : i.bytes = bytes) (hzs : z.cells.size = size) (hsz : 0 < size)
  (v : Value) (n : Nat) (xs : List Value) (hs : a.eval s = v) (hown : (W.alloc (.cells cs te)).ownsRow 0 e size v n xs)
  (b m c : Nat) (hx : a.eval x = .slice (some ⟨b,0,none⟩) m c) (hb : b = W.heap.size) (hl : cs.size = m * size) (h1 : ∀ u ∈ cs.toList,u.oneCell' = true)
  (h63 : n + m ≤ maxLen) (hbytes : (n + m) * bytes ≤ 140737488355328)
  (h : ∀ sa cap w',w'.ownsRow 0 e size (.slice sa (n + m) cap) (n + m) (xs ++ cs.toList) → (W.alloc (.cells cs te)).grownBy w' v.ownBlock →
   ((Value.slice sa (n + m) cap).ownBlock = v.ownBlock ∨ ∃ g,(Value.slice sa (n + m) cap).ownBlock = some g ∧ W.heap.size + 1 ≤ g) → K (a.put o.dst (.slice sa (n + m) cap)) w') :
  if Region.wanted o (yielded ops a.tmps) = true then Oper.wp P o a (W.alloc (.cells cs te)) K Q else E :=
 jeC hgd s x t ho e i z size bytes ht hi hz hsize hby hzs hsz v n xs hs hown ⟨b,0,none⟩ m c cs.toList hx (by rw [Array.length_toList];exact hl) (jfg W cs te b hb) h1 h63 hbytes
  (fun sa cap w' g1 g2 g3 => h sa cap w' g1 g2 (by simpa only [gQw] using g3))
end
end Go.Proofs.YtiaepldmgighbaaGreatDoor
namespace Go.Proofs.YtiaepldmgighbaaGreatDoor
open Go.RowKit
structure Tags where
 own : Nat → Prop
 kept : Nat → Prop
structure Steps (own own' : Tags) (W W' : World) : Prop where
 os : W'.os = W.os
 tape : W'.tape = W.tape
 output : W'.output = W.output
 size : W.heap.size ≤ W'.heap.size
 same : ∀ b,b < W.heap.size → ¬ own.own b → W'.heap[b]? = W.heap[b]?
 news : ∀ b,own'.own b → own.own b ∨ W.heap.size ≤ b
 keeps : ∀ b,own'.kept b → own.kept b ∨ W.heap.size ≤ b
structure KeepOwn (own : Nat → Prop) (W W' : World) : Prop where
 os : W'.os = W.os
 tape : W'.tape = W.tape
 output : W'.output = W.output
 size : W.heap.size ≤ W'.heap.size
 same : ∀ b,own b → W'.heap[b]? = W.heap[b]?
theorem Steps.refl (own : Tags) (W : World) : Steps own own W W:=⟨rfl,rfl,rfl,Nat.le_refl _,fun _ _ _ => rfl,fun _ h => .inl h,fun _ h => .inl h⟩
theorem Steps.trans {o1 o2 o3 : Tags} {A B C : World} (h : Steps o1 o2 A B) (k : Steps o2 o3 B C) : Steps o1 o3 A C where
 os:=k.os.trans h.os
 tape:=k.tape.trans h.tape
 output:=k.output.trans h.output
 size:=Nat.le_trans h.size k.size
 same b hb hn:=(k.same b (Nat.lt_of_lt_of_le hb h.size) (fun e => by rcases h.news b e with q | q;exact hn q;omega)).trans (h.same b hb hn)
 news b hb:=by
  rcases k.news b hb with q | q
  ·exact h.news b q
  ·exact .inr (Nat.le_trans h.size q)
 keeps b hb:=by
  rcases k.keeps b hb with q | q
  ·exact h.keeps b q
  ·exact .inr (Nat.le_trans h.size q)
theorem Steps.up {own own' : Tags} {W W' : World} (h : Up W W') (hn : ∀ b,own'.own b → own.own b ∨ W.heap.size ≤ b) (hk : ∀ b,own'.kept b → own.kept b ∨ W.heap.size ≤ b) : Steps own own' W W':=⟨h.os,h.tape,h.output,h.size,fun b hb _ => h.block b hb,hn,hk⟩
theorem KeepOwn.refl (own : Nat → Prop) (W : World) : KeepOwn own W W:=⟨rfl,rfl,rfl,Nat.le_refl _,fun _ _ => rfl⟩
theorem KeepOwn.trans {own : Nat → Prop} {A B C : World} (h : KeepOwn own A B) (k : KeepOwn own B C) : KeepOwn own A C:=⟨k.os.trans h.os,k.tape.trans h.tape,k.output.trans h.output,Nat.le_trans h.size k.size,fun b hb => (k.same b hb).trans (h.same b hb)⟩
theorem KeepOwn.up {own : Nat → Prop} {W W' : World} (h : Up W W') (ho : ∀ b,own b → b < W.heap.size) : KeepOwn own W W':=⟨h.os,h.tape,h.output,h.size,fun b hb => h.block b (ho b hb)⟩
theorem KeepOwn.get {own : Nat → Prop} {W W' : World} (h : KeepOwn own W W') {b : Nat} {o : Obj} (hb : own b) (ho : W.heap[b]? = some o) : W'.heap[b]? = some o:=(h.same b hb).trans ho
theorem KeepOwn.mono {own own' : Nat → Prop} {W W' : World} (h : KeepOwn own W W') (k : ∀ b,own' b → own b) : KeepOwn own' W W':=⟨h.os,h.tape,h.output,h.size,fun b hb => h.same b (k b hb)⟩
theorem KeepOwn.grown {own : Nat → Prop} {W W' : World} {row : Option Nat} (hg : W.grownBy W' row) (ho : ∀ b,own b → b < W.heap.size) (hr : ∀ r,row = some r → ¬ own r) : KeepOwn own W W' :=
 ⟨hg.os,hg.tape,hg.output,hg.size,fun b hb => hg.block b (ho b hb) (fun e => hr b e.symm hb)⟩
theorem Steps.grown {own : Tags} {W W' : World} {row : Option Nat} (hg : W.grownBy W' row) (hr : ∀ r,row = some r → own.own r) : Steps own own W W' :=
 ⟨hg.os,hg.tape,hg.output,hg.size,fun b hb hn => hg.block b hb (fun e => hn (hr b e.symm)),fun _ h => .inl h,fun _ h => .inl h⟩
theorem Steps.more {o1 o2 o3 : Tags} {W W' : World} (h : Steps o1 o2 W W') (hn : ∀ b,o3.own b → o2.own b ∨ W.heap.size ≤ b) (hk : ∀ b,o3.kept b → o2.kept b ∨ W.heap.size ≤ b) : Steps o1 o3 W W' :=
 { h with news:=fun b hb => by rcases hn b hb with q | q;exact h.news b q;exact .inr q
          keeps:=fun b hb => by rcases hk b hb with q | q;exact h.keeps b q;exact .inr q }
abbrev InvA (α : Type):=List α → Tags → World → Prop
def jny {α : Type} (J : InvA α) : Prop := ∀ (s : List α) (own own' : Tags) (W W' : World),J s own W → Steps own own' W W' → J s own' W'
variable {F : Fence} {n : Nat} {P : Program}
end Go.Proofs.YtiaepldmgighbaaGreatDoor
