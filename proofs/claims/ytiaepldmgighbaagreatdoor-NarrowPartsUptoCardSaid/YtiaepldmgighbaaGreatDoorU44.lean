import Derived.Test.YtiaepldmgighbaaGreatDoorU42
import Derived.Test.YtiaepldmgighbaaGreatDoorU27
import Derived.Test.YtiaepldmgighbaaGreatDoorU17
import Derived.Test.YtiaepldmgighbaaGreatDoorU12
namespace Go.Proofs.YtiaepldmgighbaaGreatDoor
open Go.RowKit
set_option linter.unusedSimpArgs false
theorem Are.rows {w : World} {B A : Nat} {bs : List Nat} {ts : List Ty} {tv mv dv : Value} (h : Are w B A bs ts tv mv dv) : Rows ts:=⟨h.nodup,fun t ht => (h.good t ht).1,h.closed⟩
abbrev tyA (t : Ty) (zl : Nat) (pa : Option Addr) (pc : Nat) (na : Option Addr) (nc : Nat) (ma : Option Addr) (mc : Nat) : Array Value := #[.int .i64 t.kind, .int .i64 t.num, .string t.name, .slice pa zl pc, .slice na t.names.length nc, .slice ma t.marks.length mc]
def RowT (w : World) (a : Option Addr) (us : List Value) : Prop := ∀ (j : Nat) (u : Value),us[j]? = some u → ∃ g off cs T f,a = some ⟨g,off,none⟩ ∧ w.heap[g]? = some (Obj.cells cs T f) ∧ (T ≠ AtyT ∧ T ≠ QueT ∧ (T = IntE ∨ T = BooT)) ∧ cs[off + j]? = some u
theorem RowT.keep {w w' : World} {a : Option Addr} {us : List Value} (h : RowT w a us) (k : ∀ (g : Nat) (cs : Array Value) (T : TypeId) (f : Nat × Nat),T ≠ AtyT → w.heap[g]? = some (Obj.cells cs T f) → w'.heap[g]? = some (Obj.cells cs T f)) : RowT w' a us:=fun j u hu => let ⟨g,off,cs,T,f,h1,h2,h3,h4⟩:=h j u hu; ⟨g,off,cs,T,f,h1,k g cs T f h3.1 h2,h3,h4⟩
structure TyV (w : World) (t : Ty) (zs : List Nat) (pa ma : Option Addr) : Prop where
 parts : RowT w pa (zs.map fun z => Value.int .i64 (Int.ofNat z))
 marks : RowT w ma (t.marks.map .bool)
 few : zs.length ≤ 100000 ∧ t.marks.length ≤ 100000 ∧ t.names.length ≤ 100000
theorem TyV.keep {w w' : World} {t : Ty} {zs : List Nat} {pa ma : Option Addr} (h : TyV w t zs pa ma) (k : ∀ (g : Nat) (cs : Array Value) (T : TypeId) (f : Nat × Nat),T ≠ AtyT → w.heap[g]? = some (Obj.cells cs T f) → w'.heap[g]? = some (Obj.cells cs T f)) : TyV w' t zs pa ma:=⟨h.parts.keep k,h.marks.keep k,h.few⟩
theorem TyV.up {w w' : World} {t : Ty} {zs : List Nat} {pa ma : Option Addr} (h : TyV w t zs pa ma) (u : Up w w') : TyV w' t zs pa ma:=h.keep fun _ _ _ _ _ q => u.get q
theorem TyV.ints {w : World} {t : Ty} {zs : List Nat} {pa ma : Option Addr} (h : TyV w t zs pa ma) : IntsV w pa zs:=fun j z hz => by
 obtain ⟨g,off,cs,T,f,h1,h2,_,h4⟩:=h.parts j (.int .i64 z) (by rw [List.getElem?_map,hz];rfl)
 exact ⟨g,off,h1,ja0 h2,(ja1 h2 _).trans h4⟩
theorem TyV.far {w : World} {t : Ty} {zs : List Nat} {pa ma : Option Addr} (h : TyV w t zs pa ma) (hz : zs ≠ []) : ∃ g off,pa = some ⟨g,off,none⟩ ∧ ∀ cs f,w.heap[g]? ≠ some (Obj.cells cs QueT f):=by
 cases zs with
 | nil => exact absurd rfl hz
 | cons z r =>
   obtain ⟨g,off,cs,T,f,h1,h2,h3,h4⟩:=h.parts 0 (.int .i64 (Int.ofNat z)) rfl
   refine ⟨g,off,h1,fun cs' f' e => ?_⟩
   rw [h2] at e
   injection e with e
   injection e with _ e _
   exact h3.2.1 e
theorem TyV.set6 {w : World} {t : Ty} {zs : List Nat} {pa ma : Option Addr} (h : TyV w t zs pa ma) {b : Nat} {cs0 : Array Value} {f0 : Nat × Nat} (hb : w.heap[b]? = some (.cells cs0 AtyT f0)) (x0 x1 x2 x3 x4 x5 : Value) :
  TyV ((((((w.setCell ⟨b,0,none⟩ x0).setCell ⟨b,1,none⟩ x1).setCell ⟨b,2,none⟩ x2).setCell ⟨b,3,none⟩ x3).setCell ⟨b,4,none⟩ x4).setCell ⟨b,5,none⟩ x5) t zs pa ma :=
 h.keep fun g cs T f hT q => by
  have hne:=jb1 q hb hT
  rw [ja2 hne,ja2 hne,ja2 hne,ja2 hne,ja2 hne,ja2 hne]
  exact q
theorem Are.atH {w : World} {B A : Nat} {bs : List Nat} {ts : List Ty} {tv mv dv : Value} (h : Are w B A bs ts tv mv dv) {i : Nat} {t : Ty} (ht : ts[i]? = some t) :
  ∃ (n tcap gr b g : Nat) (es : Array MapEntry) (clk : Nat) (pv nv kv : Value) (said : ByteArray) (qs : List Nat),qs.length = t.parts.length ∧
    AtH (fun _ => True) A i n tcap gr b g es clk dv t.kind t.num t.name pv nv kv t.size said qs (t.parts.map (idOf ts)) ((ts.map Ty.text).zipIdx) t.names t.marks w:=by
 have hil : i < bs.length:=by rw [← h.len];exact (List.getElem?_eq_some_iff.1 ht).1
 obtain ⟨b,hb⟩ : ∃ b,bs[i]? = some b:=⟨_,List.getElem?_eq_getElem hil⟩
 obtain ⟨gr,tcap,g,es,clk,pv,nv,kv,said,qs,e1,e2,h1,h2,h3,h4,h5,h6,h7,h8,h9,h10⟩:=h.reads hb ht
 have hf:=h.few (List.mem_of_getElem? ht)
 have hh:=h.head
 rw [e1,e2] at hh
 refine ⟨bs.length,tcap,gr,b,g,es,clk,pv,nv,kv,said,qs,h7,?_⟩
 exact {
  head:=hh
  less:=h1
  row:=h2
  blk:=h3
  parts:=h4
  map_:=h5
  ents:=h6
  nodup:=by rw [jg7];exact h.nodup
  len:=by rw [List.length_map,h7]
  part:=fun j q z hq hz => by
   rw [List.getElem?_map,Option.map_eq_some_iff] at hz
   obtain ⟨p,hp,rfl⟩:=hz
   obtain ⟨k1,k2,k3,k4⟩:=h8 j q p hq hp
   exact ⟨p.text,k1,k2,k3,k4⟩
  names:=h9
  marks:=h10
  few:=by omega }
theorem jlT {w : World} {B A : Nat} {bs : List Nat} {ts : List Ty} {tv mv dv : Value} (h : Are w B A bs ts tv mv dv) {i : Nat} {t : Ty} (ht : ts[i]? = some t) :
  Calls Tryz.prog 64 #[.pointer (some ⟨A,0,none⟩), .int .i64 i] w fun e w' => ∃ pa pc na nc ma mc,e = .returned (.tuple #[.agg (tyA t (t.parts.map (idOf ts)).length pa pc na nc ma mc), .int .i64 0]) ∧ TyV w' t (t.parts.map (idOf ts)) pa ma ∧ Up w w':=by
 obtain ⟨n,tcap,gr,b,g,es,clk,pv,nv,kv,said,qs,hql,hH⟩:=h.atH ht
 have hf:=h.few (List.mem_of_getElem? ht)
 refine (jox _ A i n tcap gr b g es clk dv t.kind t.num t.name pv nv kv t.size said qs _ _ t.names t.marks w hH).mono ?_
 rintro e w' ⟨v,nv',mv',rfl,hv,hn,hm,hu⟩
 obtain ⟨va,vcap,rfl⟩:=ja7 hv
 obtain ⟨na,nc,rfl,_,_⟩:=hn.form
 obtain ⟨ma,mc,hme,_,_,hmm⟩:=hm
 simp only [List.length_map] at hme ⊢
 subst hme
 refine ⟨va,vcap,na,nc,ma,mc,rfl,⟨fun j u hu => ?_,fun j u hj => ?_,by rw [List.length_map];omega⟩,hu⟩
 ·have hj:=(List.getElem?_eq_some_iff.1 hu).1
  rw [List.length_map] at hj
  rcases hv.2 with ⟨_,h0⟩ | ⟨g',cap',cur,hv',_,hg,_⟩
  ·omega
  ·cases hv'
   have q:=hv.cells (g:=g') rfl j u hu
   rw [Addr.add_lit,ja1 hg] at q
   exact ⟨g',0,_,_,_,rfl,hg,⟨by decide,by decide, .inl rfl⟩,by simpa using q⟩
 ·obtain ⟨g',off,cs,fz,k1,_,k3,k4⟩:=hmm j u hj
  exact ⟨g',off,_,_,_,k1,k3,⟨by decide,by decide, .inr rfl⟩,k4⟩
set_option linter.unusedVariables false
theorem jc6 {w : World} {B A : Nat} {bs : List Nat} {ts : List Ty} {tv mv dv : Value} (h : Are w B A bs ts tv mv dv) {i : Nat} {t : Ty} (ht : ts[i]? = some t) (kb : Nat) (K T : Int) (s : ByteArray) (er : Int) (hk : w.heap[kb]? = some (.cells (jbC A K s T er) TesT (0,0))) :
  Calls Tryz.prog 108 #[.pointer (some ⟨kb,0,none⟩), .int .i64 i] w fun e w' => ∃ pa pc na nc ma mc,e = .returned (.agg (tyA t (t.parts.map (idOf ts)).length pa pc na nc ma mc)) ∧ TyV w' t (t.parts.map (idOf ts)) pa ma ∧ Up w w':=by
 have HA:=Lib.hid (fun W (hW : Up w W) => jlT (h.up hW) ht)
 obtain ⟨b0,g0,b1,g1,b2,g2,b3,g3,b4,g4,b9⟩:=uc5 hk;clear hk
 clear h ht
 go_enter Tryz.func108,Tryz.ntmps108
 go_wp2_with (first | (go_at_call 64;refine (HA.out _ (show Up w _ from uq)).mono ?_;rintro e w2 ⟨pa,pc,na,nc,ma,mc,rfl,hv2,hu2⟩;have s1:=hu2.get (ja9 _ _);(try simp only [gQw] at s1);have HB:=Lib.hid s1;obtain ⟨q0,p0,q1,p1,q2,p2,q3,p3,q4,p4,q5,p5,q9⟩:=uc6 s1;clear s1;have HV:=Lib.hid hv2;have u2 : Up w w2:=uq;clear hv2))
 all_goals refine bodyPost_ret (v := .agg (tyA t (t.parts.map (idOf ts)).length pa pc na nc ma mc)) (by simp [results,Tryz.results108,go_sem, *]) rfl ?_
 all_goals exact ⟨pa,pc,na,nc,ma,mc,rfl,(HV.out.set6 HB.out _ _ _ _ _ _).up (Up.alloc (Up.refl _) _),uq⟩
def jfo (k : Int) : ByteArray:=if k = 7 ∨ k = 11 then ⟨#[110,117,109,98,101,114]⟩ else if k = 8 ∨ k = 12 then ⟨#[115,116,114,105,110,103]⟩ else if k = 9 ∨ k = 10 then ⟨#[98,111,111,108,101,97,110]⟩ else if k = 5 ∨ k = 4 then ⟨#[117,110,100,101,102,105,110,101,100]⟩ else if k = 15 ∨ k = 21 then ⟨#[102,117,110,99,116,105,111,110]⟩ else if k = 6 ∨ k = 13 ∨ k = 14 ∨ k = 22 ∨ k = 23 ∨ k = 17 then ⟨#[111,98,106,101,99,116]⟩ else ⟨#[]⟩
set_option maxRecDepth 100000
set_option maxHeartbeats 3200000
theorem jfB (k : Int) (w : World) : Calls Tryz.prog 156 #[.int .i64 k] w fun e w' => e = .returned (.string (jfo k)) ∧ w' = w:=by
 have hk:=k
 go_enter Tryz.func156,Tryz.ntmps156
 go_wp2_with fail
 all_goals go_ret
 all_goals refine ⟨?_,rfl⟩
 all_goals (unfold jfo;simp_all)
theorem jiE (b : Bool) (w : World) : Calls Tryz.prog 157 #[.bool b] w fun e w' => e = .returned (.int .i64 (if b = true then 1 else 0)) ∧ w' = w:=by
 go_enter Tryz.func157,Tryz.ntmps157
 go_wp2_with fail
 all_goals go_ret
 all_goals exact ⟨by simp_all,rfl⟩
theorem jcV (c0 c1 c2 c3 c4 c5 : Value) (w : World) : (Instr.field 46 (.agg #[c0,c1,c2,c3,c4,c5]) 0).run Tryz.prog w = .ok c0 w:=by kernel_rfl
attribute [local go_sem] jcV
def jdT (k : Int) (s : ByteArray) : Int:=if (jfo k).toList = [] then 2 else if (jfo k).toList = s.toList then 1 else 0
theorem jmA {w : World} {B A : Nat} {bs : List Nat} {ts : List Ty} {tv mv dv : Value} (h : Are w B A bs ts tv mv dv) {i : Nat} {t : Ty} (ht : ts[i]? = some t) (kb : Nat) (K T : Int) (s : ByteArray) (er : Int) (hk : w.heap[kb]? = some (.cells (jbC A K s T er) TesT (0,0))) :
  Calls Tryz.prog 103 #[.pointer (some ⟨kb,0,none⟩), .int .i64 i] w fun e w' => e = .returned (.int .i64 (jdT t.kind s)) ∧ Up w w':=by
 have HA:=Lib.hid (fun W (hW : Up w W) => jc6 (h.up hW) ht kb K T s er (hW.get hk))
 have HK:=Lib.hid hk
 have hk1:=hk
 obtain ⟨b0,g0,b1,g1,b2,g2,b3,g3,b4,g4,b9⟩:=uc5 hk1;clear hk1
 clear h ht hk
 go_enter Tryz.func103,Tryz.ntmps103
 go_wp2_with (first
  | (go_at_call 108;refine (HA.out _ (show Up w _ from uq)).mono ?_;rintro e w2 ⟨pa,pc,na,nc,ma,mc,rfl,hv2,hu2⟩;have hk2:=(show Up w w2 from uq).get HK.out;obtain ⟨b0,g0,b1,g1,b2,g2,b3,g3,b4,g4,b9⟩:=uc5 hk2;clear hk2;clear hv2)
  | (go_at_call 156;refine (jfB _ _).mono ?_;rintro e w3 ⟨rfl,rfl⟩)
  | (go_at_call 157;refine (jiE _ _).mono ?_;rintro e w3 ⟨rfl,rfl⟩))
 all_goals trace_state
 all_goals go_ret
 all_goals refine ⟨?_,uq⟩
 all_goals (unfold jdT;simp_all)
end Go.Proofs.YtiaepldmgighbaaGreatDoor
namespace Go.Proofs.YtiaepldmgighbaaGreatDoor
open Go.RowKit
set_option linter.unusedSimpArgs false
set_option linter.unusedVariables false
def jcD (r : Int) (asked : Bool) : Bool:=r == 2 || ((r == 1) == asked)
def oneB (k : Int) : Bool:=k == 11 || k == 12 || k == 9 || k == 10 || k == 5 || k == 6 || k == 20
def litB (k : Int) : Bool:=k == 11 || k == 12
def jdZ (x y : Int) : Bool:=(x == 20 && litB y) || (litB x && y == 20)
def isR (same : Bool) (x y : Int) : Int :=
 if same = true then 1 else if x = 4 ∧ y ≠ 5 then 0 else if oneB x = true ∧ oneB y = true ∧ jdZ x y = false then 0
 else if (jfo x).toList ≠ [] ∧ (jfo y).toList ≠ [] ∧ (jfo x).toList ≠ (jfo y).toList then 0 else 2
def isC (v t : Ty) : Int:=isR (decide (t.text = v.text)) t.kind v.kind
def jgP (k n : Int) (nm : ByteArray) : Int :=
 if k = 5 ∨ k = 4 ∨ k = 6 ∨ k = 10 then 0 else if k = 11 then (if n = 0 then 0 else 1) else if k = 12 then (if nm.toList = [] then 0 else 1)
 else if k = 9 ∨ k = 13 ∨ k = 14 ∨ k = 17 ∨ k = 15 ∨ k = 21 ∨ k = 22 ∨ k = 23 then 1 else 2
abbrev DefC:=Option (Int × ByteArray × Ty × Bool)
def jeo (D : DefC) (t : Ty) : Option (List (ByteArray × Ty × Bool)) :=
 if t.kind = 14 then some (t.names.zip (t.parts.zip t.marks))
 else if t.kind = 17 then match D with
  | some (n,x) => if t.num = n ∧ t.parts = [] then some [x] else none
  | none => none
 else none
inductive PieC where
 | no
 | lacks
 | has (p : Ty) (m : Bool)
def jdn (D : DefC) (s : ByteArray) (t : Ty) : PieC:=match jeo D t with
 | none => .no
 | some l => match l.find? fun x => decide (x.1 = s) with
   | none => .lacks
   | some (_,p,m) => .has p m
def hasR (D : DefC) (s : ByteArray) (t : Ty) : Int:=match jdn D s t with
 | .has _ false => 1
 | .lacks => if t.kind = 14 then 0 else 2
 | _ => 2
def jj9 (v p : Ty) : Int:=if p.flat.length = 1 then isC v (p.flat.headD (ja3 3)) else if p.flat.any (fun q => isC v q != 0) = true then 2 else 0
def jcG (D : DefC) (s : ByteArray) (v t : Ty) : Int:=match jdn D s t with
 | .lacks => if t.kind = 14 then 0 else 2
 | .has p false => jj9 v p
 | _ => 2
def jaQ (D : DefC) (K : Int) (s : ByteArray) (v t : Ty) : Int :=
 if K = 1 then jdT t.kind s else if K = 2 then isC v t else if K = 3 then jgP t.kind t.num t.name else if K = 4 then hasR D s t else jcG D s v t
abbrev jnY : List UInt8 := [110,117,109,98,101,114]
abbrev jnI : List UInt8 := [115,116,114,105,110,103]
abbrev jor : List UInt8 := [98,111,111,108,101,97,110]
abbrev jnB : List UInt8 := [117,110,100,101,102,105,110,101,100]
noncomputable def jbd (s : List UInt8) (t : Ty) : Ty:=if s = jnY then ja3 7 else if s = jnI then ja3 8 else if s = jor then jal [ja3 9,ja3 10] else if s = jnB then ja3 5 else t
def jdh (v t : Ty) : Bool:=t.kind == 2 || (t.kind == 7 && v.kind == 11) || (t.kind == 8 && v.kind == 12) || (t.kind == 19 && v.kind == 20 && decide ((v.parts.headD (ja3 3)).text = t.text))
noncomputable def jad (K : Int) (s : ByteArray) (v t : Ty) : Ty :=
 if K = 1 then (if t.kind = 2 then jbd s.toList t else t) else if K = 2 then (if jdh v t = true then v else t) else t
noncomputable def jaN (asked : Bool) (says : Ty → Int) (ins : Ty → Ty) (l : List Ty) : List Ty:=(l.filter fun u => jcD (says u) asked).map fun u => by classical exact if says u = 2 ∧ asked = true then ins u else u
noncomputable def keepC (asked : Bool) (says : Ty → Int) (ins : Ty → Ty) (t : Ty) : Ty:=jal (jaN asked says ins t.flat)
theorem jil {x : Ty} (h : x.kind ≠ 16) : x.flat = [x]:=by unfold Ty.flat;rw [if_neg h]
theorem jcM {l : List Ty} (h : ∀ t ∈ l,CV t) {z : Ty} (hz : z ∈ (jal l).flat) : z ∈ l.flatMap Ty.flat ∨ z = ja3 3:=by
 have hF:=Fl.of h
 have low : ∀ k : Int,k = 1 ∨ k = 2 → (∃ x ∈ l.flatMap Ty.flat,x.kind = k) → z ∈ (ja3 k).flat → z ∈ l.flatMap Ty.flat:=fun k hk ⟨x,hx,hxk⟩ hz => by
  rw [jbO k (by omega),List.mem_singleton] at hz
  have:=(hF x hx).1.valid.low (by omega)
  rw [hxk] at this
  rw [hz, ← this]
  exact hx
 unfold jal at hz
 rcases jaq (l.flatMap Ty.flat) with ⟨h1,e⟩ | ⟨_,h2,e⟩ | ⟨_,_,e⟩
 ·rw [e] at hz
  exact .inl (low 1 (.inl rfl) h1 hz)
 ·rw [e] at hz
  exact .inl (low 2 (.inr rfl) h2 hz)
 ·rw [e,jdK (fun x hx => (hF x (jaf.1 (jbX _ x hx)).1).2)] at hz
  split at hz
  ·exact .inr (List.mem_singleton.1 hz)
  ·exact .inl (jaf.1 (jbX _ z hz)).1
section
variable {asked : Bool} {says : Ty → Int} {ins : Ty → Ty}
theorem jhp (l m : List Ty) : jaN asked says ins (l ++ m) = jaN asked says ins l ++ jaN asked says ins m:=by
 unfold jaN
 rw [List.filter_append,List.map_append]
theorem jdv {l : List Ty} {y : Ty} : y ∈ jaN asked says ins l ↔ ∃ u ∈ l,jcD (says u) asked = true ∧ ((says u = 2 ∧ asked = true ∧ y = ins u) ∨ (¬ (says u = 2 ∧ asked = true) ∧ y = u)):=by
 unfold jaN
 simp only [List.mem_map,List.mem_filter]
 constructor
 ·rintro ⟨u,⟨h1,h2⟩,h3⟩
  refine ⟨u,h1,h2,?_⟩
  by_cases hc : says u = 2 ∧ asked = true
  ·rw [if_pos hc] at h3
   exact .inl ⟨hc.1,hc.2,h3.symm⟩
  ·rw [if_neg hc] at h3
   exact .inr ⟨hc,h3.symm⟩
 ·rintro ⟨u,h1,h2,⟨h3,h4,h5⟩ | ⟨h3,h5⟩⟩
  ·exact ⟨u,⟨h1,h2⟩,by rw [if_pos ⟨h3,h4⟩,h5]⟩
  ·exact ⟨u,⟨h1,h2⟩,by rw [if_neg h3,h5]⟩
theorem jmB {l : List Ty} (h : ∀ u ∈ l,CV u) (hi : ∀ u ∈ l,says u = 2 → CV (ins u)) : ∀ y ∈ jaN asked says ins l,CV y:=fun y hy => by
 obtain ⟨u,h1,_,⟨h3,_,rfl⟩ | ⟨_,rfl⟩⟩:=jdv.1 hy
 ·exact hi u h1 h3
 ·exact h _ h1
theorem jgK {F G : List Ty} (hF : Fl F) (hG : Fl G) (h : ∀ x,x.kind ≠ 3 → (x ∈ F ↔ x ∈ G)) : jaR F = jaR G:=by
 have hk : ∀ k : Int,k ≠ 3 → ((∃ x ∈ F,x.kind = k) ↔ ∃ x ∈ G,x.kind = k):=fun k hk =>
  ⟨fun ⟨x,h1,h2⟩ => ⟨x,(h x (by omega)).1 h1,h2⟩,fun ⟨x,h1,h2⟩ => ⟨x,(h x (by omega)).2 h1,h2⟩⟩
 have hg : ∀ x,x.kind ≠ 3 → (Goes F x ↔ Goes G x):=fun x hx => by
  have k19 : (∃ q ∈ F,q.kind = 19 ∧ ∃ e ∈ x.parts,q.text = e.text) ↔ ∃ q ∈ G,q.kind = 19 ∧ ∃ e ∈ x.parts,q.text = e.text :=
   ⟨fun ⟨q,h1,h2,h3⟩ => ⟨q,(h q (by omega)).1 h1,h2,h3⟩,fun ⟨q,h1,h2,h3⟩ => ⟨q,(h q (by omega)).2 h1,h2,h3⟩⟩
  unfold Goes
  rw [hk 7 (by decide),hk 8 (by decide),k19]
 have hr : ∀ x,x ∈ jbg F ↔ x ∈ jbg G:=fun x => by
  rw [jaf,jaf]
  by_cases h3 : x.kind = 3
  ·exact ⟨fun q => absurd (.inl h3) q.2,fun q => absurd (.inl h3) q.2⟩
  ·rw [h x h3,hg x h3]
 have hs : jbH (jbg F) = jbH (jbg G):=by
  refine jbW (jaS _) (jaS _) fun x => ?_
  rw [jbj _ (fun a ha b hb => hF.key a (jaf.1 ha).1 b (jaf.1 hb).1),jbj _ (fun a ha b hb => hG.key a (jaf.1 ha).1 b (jaf.1 hb).1)]
  exact hr x
 unfold jaR
 simp only [hk 1 (by decide),hk 2 (by decide),hs]
end
structure TestOk (K : Int) (v : Ty) : Prop where
 low : 1 ≤ K
 high : K ≤ 5
 one : K = 2 ∨ K = 5 → CV v ∧ oneB v.kind = true
theorem jiN {k : Int} (h : oneB k = true) : k = 11 ∨ k = 12 ∨ k = 9 ∨ k = 10 ∨ k = 5 ∨ k = 6 ∨ k = 20:=by
 unfold oneB at h
 simp at h
 omega
theorem jkY {v : Ty} (h : CV v) (ho : oneB v.kind = true) : v.nodes ≤ 2:=by
 have hk:=jiN ho
 have hv:=h.valid
 cases hv with
 | basic => rw [Ty.nodes_mk];decide
 | num => rw [Ty.nodes_mk];decide
 | str => rw [Ty.nodes_mk];decide
 | case => rw [Ty.nodes_mk];simp only [List.map_cons,List.map_nil,Ty.nodes_mk];decide
 | arr => simp only [Ty.kind] at hk;omega
 | obj => simp only [Ty.kind] at hk;omega
 | fn => simp only [Ty.kind] at hk;omega
 | un => simp only [Ty.kind] at hk;omega
 | ref => simp only [Ty.kind] at hk;omega
 | named hk' => simp only [Ty.kind] at hk;omega
theorem jfC : (jfo 3).toList = []:=by decide +kernel
theorem jdO {D : DefC} {K : Int} {s : ByteArray} {v : Ty} (h : TestOk K v) : jaQ D K s v (ja3 3) = 2 ∧ jad K s v (ja3 3) = ja3 3:=by
 have hk3 : (ja3 3).kind = 3:=rfl
 have hp : jdn D s (ja3 3) = .no:=rfl
 refine ⟨?_,?_⟩
 ·unfold jaQ
  split
  ·rw [hk3];unfold jdT;rw [if_pos jfC]
  split
  ·rename_i hK
   obtain ⟨hv,ho⟩:=h.one (.inl hK)
   have hne : decide ((ja3 3).text = v.text) = false:=by
    rw [decide_eq_false_iff_not]
    intro e
    have:=(CV.basic (by decide) (by decide) : CV (ja3 3)).text_inj hv e
    rw [← this] at ho
    exact absurd ho (by decide)
   unfold isC
   rw [hne,hk3]
   unfold isR
   rw [if_neg (by decide),if_neg (by omega),if_neg (by rintro ⟨q,_⟩;exact absurd q (by decide)),if_neg (by rintro ⟨q,_⟩;exact q jfC)]
  split
  ·rw [hk3];rfl
  split
  ·unfold hasR;rw [hp]
  ·unfold jcG;rw [hp]
 ·unfold jad
  rw [hk3,if_neg (show ¬ (3 : Int) = 2 by decide)]
  split
  ·rfl
  split
  ·have : jdh v (ja3 3) = false:=by unfold jdh;rw [hk3];rfl
   rw [this,if_neg (by decide)]
  ·rfl
theorem joa (v : Ty) : isC v v = 1:=by unfold isC isR;simp
theorem ins_ok {D : DefC} {K : Int} {s : ByteArray} {v u : Ty} (h : TestOk K v) (hu : CV u) (hk : u.kind ≠ 16) (h2 : jaQ D K s v u = 2) :
  CV (jad K s v u) ∧ ∀ z ∈ (jad K s v u).flat,jcD (jaQ D K s v z) true = true ∧ (jaQ D K s v z = 2 → jad K s v z = z):=by
 have self : jad K s v u = u → CV (jad K s v u) ∧ ∀ z ∈ (jad K s v u).flat,jcD (jaQ D K s v z) true = true ∧ (jaQ D K s v z = 2 → jad K s v z = z):=fun e => by
  rw [e]
  refine ⟨hu,fun z hz => ?_⟩
  rw [jil hk,List.mem_singleton] at hz
  subst hz
  exact ⟨by rw [h2];rfl,fun _ => e⟩
 by_cases K1 : K = 1
 ·subst K1
  by_cases hu2 : u.kind = 2
  ·have e : jad 1 s v u = jbd s.toList u:=by unfold jad;rw [if_pos rfl,if_pos hu2]
   have one : ∀ k : Int,k = 7 ∨ k = 8 ∨ k = 5 → (jfo k).toList = s.toList → CV (ja3 k) ∧ ∀ z ∈ (ja3 k).flat,jcD (jaQ D 1 s v z) true = true ∧ (jaQ D 1 s v z = 2 → jad 1 s v z = z):=fun k hk hs => by
    refine ⟨CV.basic (by omega) (by omega),fun z hz => ?_⟩
    rw [jbO k (by omega),List.mem_singleton] at hz
    subst hz
    have h1 : jaQ D 1 s v (ja3 k) = 1:=by
     show jdT k s = 1
     unfold jdT
     rw [if_neg (by rcases hk with rfl | rfl | rfl <;> decide +kernel),if_pos hs]
    rw [h1]
    exact ⟨rfl,fun e => by cases e⟩
   by_cases s1 : s.toList = jnY
   ·have e2 : jad 1 s v u = ja3 7:=by rw [e];unfold jbd;rw [if_pos s1]
    rw [e2]
    exact one 7 (.inl rfl) (by rw [s1];decide +kernel)
   by_cases s2 : s.toList = jnI
   ·have e2 : jad 1 s v u = ja3 8:=by rw [e];unfold jbd;rw [if_neg s1,if_pos s2]
    rw [e2]
    exact one 8 (.inr (.inl rfl)) (by rw [s2];decide +kernel)
   by_cases s3 : s.toList = jor
   ·have e2 : jad 1 s v u = jal [ja3 9,ja3 10]:=by rw [e];unfold jbd;rw [if_neg s1,if_neg s2,if_pos s3]
    rw [e2]
    have hcv : ∀ t ∈ [ja3 9,ja3 10],CV t:=fun t ht => by
     simp only [List.mem_cons,List.not_mem_nil,or_false] at ht
     rcases ht with rfl | rfl
     ·exact CV.basic (by decide) (by decide)
     ·exact CV.basic (by decide) (by decide)
    refine ⟨jdf hcv,fun z hz => ?_⟩
    rcases jcM hcv hz with q | rfl
    ·have hz2 : z = ja3 9 ∨ z = ja3 10:=by simpa [jbO] using q
     have h1 : jaQ D 1 s v z = 1:=by
      show jdT z.kind s = 1
      unfold jdT
      rw [s3]
      rcases hz2 with rfl | rfl <;> decide +kernel
     rw [h1]
     exact ⟨rfl,fun e => by cases e⟩
    ·obtain ⟨q1,q2⟩:=jdO (D:=D) (s:=s) h
     exact ⟨by rw [q1];rfl,fun _ => q2⟩
   by_cases s4 : s.toList = jnB
   ·have e2 : jad 1 s v u = ja3 5:=by rw [e];unfold jbd;rw [if_neg s1,if_neg s2,if_neg s3,if_pos s4]
    rw [e2]
    exact one 5 (.inr (.inr rfl)) (by rw [s4];decide +kernel)
   exact self (by rw [e];unfold jbd;rw [if_neg s1,if_neg s2,if_neg s3,if_neg s4])
  ·exact self (by unfold jad;rw [if_pos rfl,if_neg hu2])
 ·by_cases K2 : K = 2
  ·subst K2
   obtain ⟨hv,ho⟩:=h.one (.inl rfl)
   by_cases hs : jdh v u = true
   ·have e : jad 2 s v u = v:=by unfold jad;rw [if_neg (by decide),if_pos rfl,if_pos hs]
    rw [e]
    refine ⟨hv,fun z hz => ?_⟩
    rw [jil (fun q => by have:=jiN ho;omega),List.mem_singleton] at hz
    subst hz
    have h1 : jaQ D 2 s z z = 1:=joa z
    rw [h1]
    exact ⟨rfl,fun e => by cases e⟩
   ·exact self (by unfold jad;rw [if_neg (by decide),if_pos rfl,if_neg hs])
  ·exact self (by unfold jad;rw [if_neg K1,if_neg K2])
theorem jf2 {K : Int} {s : ByteArray} {v u : Ty} (h : TestOk K v) : (jad K s v u).nodes ≤ u.nodes + 2:=by
 have hb : ∀ k : Int,(ja3 k).nodes = 1:=fun k => by unfold ja3;rw [Ty.nodes_mk];rfl
 have hp:=u.nodes_pos
 unfold jad
 split
 ·split
  ·unfold jbd
   repeat' split
   ·rw [hb];omega
   ·rw [hb];omega
   ·have:=jbb [ja3 9,ja3 10]
    simp only [List.map_cons,List.map_nil,List.sum_cons,List.sum_nil,hb] at this
    omega
   ·rw [hb];omega
   ·omega
  ·omega
 ·split
  ·rename_i K2
   split
   ·have:=jkY (h.one (.inl K2)).1 (h.one (.inl K2)).2
    omega
   ·omega
  ·omega
theorem jcR {asked : Bool} {says : Ty → Int} {ins : Ty → Ty} (hi : ∀ u,(ins u).nodes ≤ u.nodes + 2) : ∀ l : List Ty,((jaN asked says ins l).map Ty.nodes).sum ≤ 3 * (l.map Ty.nodes).sum
 | [] => Nat.zero_le _
 | x :: r => by
   have ih:=jcR (asked:=asked) (says:=says) hi r
   have hx:=hi x
   have hp:=x.nodes_pos
   unfold jaN at *
   simp only [List.filter_cons,List.map_cons,List.sum_cons]
   split
   ·simp only [List.map_cons,List.sum_cons]
    split <;> omega
   ·omega
end Go.Proofs.YtiaepldmgighbaaGreatDoor
