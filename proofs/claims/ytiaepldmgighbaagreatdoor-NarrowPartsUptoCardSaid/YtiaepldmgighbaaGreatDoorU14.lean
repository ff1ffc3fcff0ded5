import Derived.Lib.SlicesDelete
import Derived.Deep.QuietTactic
import Derived.Test.YtiaepldmgighbaaGreatDoorU10
namespace Go.Proofs.YtiaepldmgighbaaGreatDoor
open Go.RowKit
set_option linter.unusedSimpArgs false
abbrev goesF : Nat:=92
theorem jd3 {w : World} {b i : Nat} {cs : Array Value} {t : TypeId} {f : Nat × Nat} (vs : List Value) (h : w.heap[b]? = some (.cells cs t f)) : ∃ cs',(w.setCells b i vs).heap[b]? = some (.cells cs' t f) ∧ cs'.size = cs.size ∧ ∀ j,j < i → cs'[j]? = cs[j]? := by
 induction vs generalizing w i cs with
 | nil => exact ⟨cs,h,rfl,fun _ _ => rfl⟩
 | cons v vs ih =>
   have h1:=ja6 (i:=i) h v
   obtain ⟨cs',h2,h3,h4⟩:=ih (i:=i + 1) h1
   refine ⟨cs',?_,by rw [h3];simp,fun j hj => ?_⟩
   ·rw [World.setCells];exact h2
   ·rw [h4 j (by omega),Array.getElem?_setIfInBounds_ne (by omega)]
theorem Kept.setCells {S : Nat → Prop} {a w : World} (h : Kept S a w) {b i : Nat} (hb : S b) (vs : List Value) : Kept S a (w.setCells b i vs):=by
 induction vs generalizing w i with
 | nil => exact h
 | cons v vs ih => rw [World.setCells];exact ih (h.setCell (p:=⟨b,i,none⟩) (.inl hb) v)
set_option maxHeartbeats 1600000
theorem jkj (zs : List Int) (g off cap : Nat) (v : Int) (w : World) (hc : ∀ j z,zs[j]? = some z → w.cell? ⟨g,off + j,none⟩ = some (.int .i64 z)) (hg : g < w.heap.size) (hlen : zs.length ≤ 1000000) :
  Calls Tryz.prog 174 #[.slice (some ⟨g,off,none⟩) zs.length cap, .int .i64 v] w fun e w' => Up w w' ∧ ((e = .returned (.int .i64 (-1)) ∧ v ∉ zs) ∨ ∃ j : Nat,e = .returned (.int .i64 j) ∧ v ∈ zs):=by
 have HC:=Lib.hid hc
 clear hc
 go_enter Tryz.func174,Tryz.ntmps174
 go_wp2_with fail
 go_loopw [8] (fun i wr => ∃ j : Nat,j ≤ zs.length ∧ i = .int .i64 j ∧ v ∉ zs.take j ∧ Up w wr) (fun i _ => zs.length - (intOf i).toNat)
 case atStart => exact ⟨0,Nat.zero_le _,rfl,(by simp),uq⟩
 case round =>
  obtain ⟨j,hj,rfl,hno,hup⟩:=hrel
  have HN:=Lib.hid hno
  clear hno
  by_cases hlt : j < zs.length
  ·have hji : (j : Int) < zs.length:=by omega
   obtain ⟨z,hz⟩ : ∃ z,zs[j]? = some z:=⟨_,List.getElem?_eq_getElem hlt⟩
   have y0 : wr.cell? ⟨g,off + j,none⟩ = some (.int .i64 z):=(hup.cells _ _ hg).trans (HC.out j z hz)
   have HZ:=Lib.hid hz
   clear hz hlt
   by_cases he : v = z
   ·subst he
    go_wp2_with fail
    refine bodyPost_ret (v := .int .i64 j) (by simp [results,Tryz.results174,go_sem]) rfl ?_
    exact ⟨uq, .inr ⟨j,rfl,List.mem_of_getElem? HZ.out⟩⟩
   ·have hb : (v == z) = false:=by simpa using he
    have HE:=Lib.hid he
    clear he
    go_wp2_with fail
    refine ⟨⟨j + 1,by omega,by simp,fun hm => ?_,uq⟩,by simp [intOf];omega⟩
    rw [List.take_add_one,HZ.out] at hm
    rcases List.mem_append.1 hm with hm | hm
    ·exact HN.out hm
    ·exact HE.out (by simpa using hm)
  ·obtain rfl : j = zs.length:=by omega
   clear hlt
   go_wp2_with fail
   refine bodyPost_ret (v := .int .i64 (-1)) (by simp [results,Tryz.results174,go_sem]) rfl ?_
   exact ⟨uq, .inl ⟨rfl,by have:=HN.out;rwa [List.take_length] at this⟩⟩
theorem jdI (zs : List Int) (g off cap : Nat) (v : Int) (w : World) (hc : ∀ j z,zs[j]? = some z → w.cell? ⟨g,off + j,none⟩ = some (.int .i64 z)) (hg : g < w.heap.size) (hlen : zs.length ≤ 1000000) :
  Calls Tryz.prog 146 #[.slice (some ⟨g,off,none⟩) zs.length cap, .int .i64 v] w fun e w' => e = .returned (.bool (decide (v ∈ zs))) ∧ Up w w':=by
 have HC:=Lib.hid hc
 clear hc
 go_enter Tryz.func146,Tryz.ntmps146
 go_wp2_with (first | (go_at_call 174;refine (jkj zs g off cap v _ HC.out hg hlen).mono ?_;rintro e w2 ⟨hu2,⟨rfl,hn⟩ | ⟨j,rfl,hn⟩⟩))
 ·go_ret
  exact ⟨by simp [hn],uq⟩
 ·go_ret
  exact ⟨by simp [hn],uq⟩
def jas (zs : List Int) (k : Int) (s : ByteArray) : ByteArray:=if k ∈ zs then ⟨#[40]⟩ ++ s ++ ⟨#[41]⟩ else s
def jaK (k : Int) (s : ByteArray) : ByteArray:=jas [15] k s
abbrev byF : Nat:=95
theorem jlj (a : ByteArray) (w : World) : Calls Tryz.prog 165 #[.string a] w fun e w' => e = .returned (.bool false) ∧ Up w w':=by
 go_enter Tryz.func165,Tryz.ntmps165
 go_wp2_with fail
 go_ret
 exact ⟨by simp,uq⟩
def cmpS (a b : ByteArray) : Int:=if Op.bytesLess a.toList b.toList = true then -1 else if (a.toList == b.toList) = true then 0 else 1
theorem jiu (a b : ByteArray) (w : World) : Calls Tryz.prog 118 #[.string a, .string b] w fun e w' => e = .returned (.int .i64 (cmpS a b)) ∧ Up w w':=by
 go_enter Tryz.func118,Tryz.ntmps118
 go_wp2_with (first | (go_at_call 165;refine (jlj _ _).mono ?_;rintro e w2 ⟨rfl,hu2⟩))
 ·rename_i h
  go_ret
  exact ⟨by simp [cmpS,h],uq⟩
 ·have h1 : Op.bytesLess a.toList b.toList = false:=by assumption
  have h2 : (!a.toList == b.toList) = true:=by assumption
  go_ret
  refine ⟨?_,uq⟩
  have h2 : (a.toList == b.toList) = false:=by simpa using h2
  unfold cmpS
  rw [h1,h2]
  rfl
 ·have h1 : Op.bytesLess a.toList b.toList = false:=by assumption
  have h2 : (!a.toList == b.toList) = false:=by assumption
  go_ret
  refine ⟨?_,uq⟩
  have h2 : (a.toList == b.toList) = true:=by simpa using h2
  unfold cmpS
  rw [h1,h2]
  rfl
abbrev FnT : TypeId:=170
def ByAt (w : World) (b : Nat) : Prop := ∃ fz,w.heap[b]? = some (.cells #[.func (.func byF) #[] #[]] FnT fz)
theorem ByAt.up {w w' : World} {b : Nat} (h : ByAt w b) (k : Up w w') : ByAt w' b:=let ⟨fz,h⟩:=h; ⟨fz,k.get h⟩
abbrev lessF : Nat:=142
abbrev sameF : Nat:=144
structure UpOf (w : World) where
 W : World
 up : Up w W
instance (w : World) : Nonempty (UpOf w):=⟨⟨w,Up.refl w⟩⟩
theorem jck {P : Program} {id : Nat} {Q : Exit → Act → World → Prop} {a : Act} {w : World} {l : List Oper} (hm : P.follows .mixedOrders = true) (hB : Region.lexB .any l.toArray = true)
  (h : wpQuiet P l.toArray (fun w' => ∃ i : UpOf w,w' = i.W) (fun a' => ∀ w',(∃ i : UpOf w,w' = i.W) → Q .normal a' w') l a) : (Code.region id l.toArray true).wp P Q a w :=
 wp_region_quiet (C:=fun w' => ∃ i : UpOf w,w' = i.W) hm hB ⟨⟨_,(Up.refl w).drew⟩,rfl⟩ (by simpa using h)
theorem Calls.up_of {P : Program} {f : FuncId} {args : Array Value} {w : World} (i : UpOf w) {v : Value} (h : Calls P f args i.W fun e w' => e = .returned v ∧ Up i.W w') : Calls P f args i.W fun e w'' => e = .returned v ∧ ∃ j : UpOf w,w'' = j.W :=
 h.mono fun _ w' ⟨he,hu⟩ => ⟨he,⟨w',i.up.trans hu⟩,rfl⟩
structure TwoAt (w : World) (g off : Nat) (x y : Nat) (kx ky : Int) (s t : ByteArray) : Prop where
 ix : Item w x kx s
 iy : Item w y ky t
 c0 : w.cell? ⟨g,off,none⟩ = some (.pointer (some ⟨x,0,none⟩))
 c1 : w.cell? ⟨g,off + 1,none⟩ = some (.pointer (some ⟨y,0,none⟩))
 lt : g < w.heap.size
 sx : s.size ≤ 1000000000
 sy : t.size ≤ 1000000000
theorem TwoAt.up {w w' : World} {g off x y : Nat} {kx ky : Int} {s t : ByteArray} (h : TwoAt w g off x y kx ky s t) (k : Up w w') : TwoAt w' g off x y kx ky s t:=⟨h.ix.up k,h.iy.up k,(k.cells _ _ h.lt).trans h.c0,(k.cells _ _ h.lt).trans h.c1,Nat.lt_of_lt_of_le h.lt k.size,h.sx,h.sy⟩
theorem jn7 (a : Addr) (n cap : Nat) (hn : n ≤ cap) (hn0 : 0 < n) (w : World) :
  Calls Tryz.prog 97 #[.slice (some a) n cap] w fun e w' => e = .returned (.slice (some a) n n) ∧ Up w w':=by
 have hi : (n : Int) ≤ cap:=by omega
 go_enter Tryz.func97,Tryz.ntmps97
 go_wp2_with fail
 go_ret
 exact ⟨rfl,uq⟩
end Go.Proofs.YtiaepldmgighbaaGreatDoor
