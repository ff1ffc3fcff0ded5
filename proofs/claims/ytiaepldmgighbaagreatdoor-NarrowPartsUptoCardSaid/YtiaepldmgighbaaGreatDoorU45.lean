import Derived.Deep.CutRange
import Derived.Deep.DeepCutAuto
import Derived.BigQuiet
import Derived.Test.YtiaepldmgighbaaGreatDoorU44
import Derived.Test.YtiaepldmgighbaaGreatDoorU17
import Derived.Test.YtiaepldmgighbaaGreatDoorU42
import Derived.Test.YtiaepldmgighbaaGreatDoorU03
namespace Go.Proofs.YtiaepldmgighbaaGreatDoor
open Go.RowKit
set_option linter.unusedSimpArgs false
set_option linter.unusedVariables false
theorem jfH (k : Int) (w : World) : Calls Tryz.prog 65 #[.int .i64 k] w fun e w' => e = .returned (.bool (oneB k)) ∧ w' = w:=by
 have hk:=k
 go_enter Tryz.func65,Tryz.ntmps65
 go_wp2_with fail
 all_goals go_ret
 all_goals refine ⟨?_,rfl⟩
 all_goals (unfold oneB;simp_all)
theorem jbN (k : Int) (w : World) : Calls Tryz.prog 158 #[.int .i64 k] w fun e w' => e = .returned (.bool (litB k)) ∧ w' = w:=by
 have hk:=k
 go_enter Tryz.func158,Tryz.ntmps158
 go_wp2_with fail
 all_goals go_ret
 all_goals refine ⟨?_,rfl⟩
 all_goals (unfold litB;simp_all)
attribute [local go_sem] jcV
theorem Are.same {w : World} {B A : Nat} {bs : List Nat} {ts : List Ty} {tv mv dv : Value} (h : Are w B A bs ts tv mv dv) {i j : Nat} {x y : Ty} (hi : ts[i]? = some x) (hj : ts[j]? = some y) : i = j ↔ x.text = y.text:=by
 constructor
 ·rintro rfl
  rw [hi] at hj
  cases hj
  rfl
 ·intro e
  have hx : (ts.map Ty.text)[i]? = some x.text:=by rw [List.getElem?_map,hi];rfl
  have hy : (ts.map Ty.text)[j]? = some x.text:=by rw [List.getElem?_map,hj,e];rfl
  obtain ⟨h1,h2⟩:=List.getElem?_eq_some_iff.1 hx
  obtain ⟨h3,h4⟩:=List.getElem?_eq_some_iff.1 hy
  rcases Nat.lt_trichotomy i j with hlt | rfl | hlt
  ·exact absurd (h2.trans h4.symm) (List.pairwise_iff_getElem.1 h.nodup i j h1 h3 hlt)
  ·rfl
  ·exact absurd (h4.trans h2.symm) (List.pairwise_iff_getElem.1 h.nodup j i h3 h1 hlt)
theorem jf0 (v t : Ty) : isC v.canon t.canon = isC v t:=by unfold isC;rw [Ty.text_canon,Ty.text_canon,Ty.canon_kind,Ty.canon_kind]
set_option maxRecDepth 100000
set_option maxHeartbeats 6400000
theorem jli {w : World} {B A : Nat} {bs : List Nat} {ts : List Ty} {tv mv dv : Value} (h : Are w B A bs ts tv mv dv) {i T : Nat} {t v : Ty} (ht : ts[i]? = some t) (hv : ts[T]? = some v) (kb : Nat) (K : Int) (s : ByteArray) (er : Int) (hk : w.heap[kb]? = some (.cells (jbC A K s T er) TesT (0,0))) :
  Calls Tryz.prog 104 #[.pointer (some ⟨kb,0,none⟩), .int .i64 i] w fun e w' => e = .returned (.int .i64 (isC v t)) ∧ Up w w':=by
 have HC : Hid (∀ (z : Nat) W,z = i ∨ z = T → Up w W → Calls Tryz.prog 108 #[.pointer (some ⟨kb,0,none⟩), .int .i64 z] W fun e w' => ∃ (k : Int) (c1 c2 c3 c4 c5 : Value),e = .returned (.agg #[.int .i64 k,c1,c2,c3,c4,c5]) ∧ (z = i → k = t.kind) ∧ (z = T → k = v.kind) ∧ Up W w'):=fun z W hz hW => by
  rcases hz with rfl | rfl
  ·refine (jc6 (h.up hW) ht kb K T s er (hW.get hk)).mono ?_
   rintro e w' ⟨pa,pc,na,nc,ma,mc,rfl,_,hu⟩
   exact ⟨_,_,_,_,_,_,rfl,fun _ => rfl,(fun e => by subst e;rw [ht] at hv;cases hv;rfl),hu⟩
  ·refine (jc6 (h.up hW) hv kb K z s er (hW.get hk)).mono ?_
   rintro e w' ⟨pa,pc,na,nc,ma,mc,rfl,_,hu⟩
   exact ⟨_,_,_,_,_,_,rfl,(fun e => by subst e;rw [ht] at hv;cases hv;rfl),fun _ => rfl,hu⟩
 have HK:=Lib.hid hk
 have hsame : Hid (isC v t = isR ((i : Int) == (T : Int)) t.kind v.kind):=by
  unfold Hid isC
  congr 1
  have:=h.same ht hv
  by_cases e : i = T
  ·rw [decide_eq_true (this.1 e),e];simp
  ·rw [decide_eq_false (fun q => e (this.2 q))]
   have : ¬ (i : Int) = T:=by omega
   simp [this]
 rw [hsame.out]
 obtain ⟨x,hx⟩ : ∃ x,Hid (t.kind = x):=⟨_,rfl⟩
 obtain ⟨y,hy⟩ : ∃ x,Hid (v.kind = x):=⟨_,rfl⟩
 rw [hx.out,hy.out]
 obtain ⟨sm,hsm⟩ : ∃ b,Hid (((i : Int) == (T : Int)) = b):=⟨_,rfl⟩
 rw [hsm.out]
 have hk1:=hk
 obtain ⟨b0,g0,b1,g1,b2,g2,b3,g3,b4,g4,b9⟩:=uc5 hk1;clear hk1
 clear h ht hv hk
 go_enter Tryz.func104,Tryz.ntmps104
 go_upto_region 1 with (fail)
 go_cut [5,6] (fun a b wx => a = .int .i64 x ∧ b = .int .i64 y ∧ Up w wx)
 case first =>
  go_region_law (first
   | (go_simp;go_at_call 108;refine (HC.out _ _ (by first | exact .inl rfl | exact .inr rfl) (show Up w _ from uq)).mono ?_;rintro e w2 ⟨k,c1,c2,c3,c4,c5,rfl,e1,e2,hu2⟩;have hk2:=(show Up w w2 from uq).get HK.out;obtain ⟨b0,g0,b1,g1,b2,g2,b3,g3,b4,g4,b9⟩:=uc5 hk2;clear hk2;first | (have e3:=((e1 rfl).trans hx.out).symm;subst e3;clear e1 e2) | (have e3:=((e2 rfl).trans hy.out).symm;subst e3;clear e1 e2)))
  all_goals go_wp2_with fail
  all_goals go_meet
  all_goals exact ⟨rfl,rfl,uq⟩
 case rest =>
  obtain ⟨rfl,rfl,huc⟩:=hcut
  have HKc:=Lib.hid (huc.get HK.out)
  have HUC:=Lib.hid huc
  clear b0 b1 b2 b3 b4 g0 g1 g2 g3 g4 b9 HC HK hx hy hsame
  go_upto_region 3 with (fail)
  go_cut [8] (fun e wx => e = .bool (jdZ x y) ∧ wc = wx)
  case first =>
   have hcase : ((x == 20) = true ∧ litB x = false ∧ litB y = true) ∨ ((x == 20) = true ∧ litB x = false ∧ litB y = false) ∨ ((x == 20) = false ∧ litB x = false ∧ litB y = litB y) ∨ ((x == 20) = false ∧ litB x = true ∧ (y == 20) = true) ∨ ((x == 20) = false ∧ litB x = true ∧ (y == 20) = false):=by
    cases h1 : (x == 20)
    ·cases h2 : litB x <;> cases h3 : (y == 20) <;> simp
    ·have : litB x = false:=by have : x = 20:=by simpa using h1
                               subst this;rfl
     cases h2 : litB y <;> simp [this]
   rcases hcase with ⟨q1,q2,q3⟩ | ⟨q1,q2,q3⟩ | ⟨q1,q2, -⟩ | ⟨q1,q2,q3⟩ | ⟨q1,q2,q3⟩
   ·have he : Hid (jdZ x y = true):=by unfold Hid jdZ;rw [q1,q3];rfl
    go_wp2_with (first | (go_at_call 158;refine (jbN _ _).mono ?_;rintro e w4 ⟨rfl,rfl⟩;first | rw [q3] | rw [q2]))
    go_meet
    case rel => exact ⟨by rw [he.out],rfl⟩
   ·have he : Hid (jdZ x y = false):=by unfold Hid jdZ;rw [q1,q2,q3];rfl
    go_wp2_with (first | (go_at_call 158;refine (jbN _ _).mono ?_;rintro e w4 ⟨rfl,rfl⟩;first | rw [q3] | rw [q2]))
    go_meet
    case rel => exact ⟨by rw [he.out],rfl⟩
   ·have he : Hid (jdZ x y = false):=by unfold Hid jdZ;rw [q1,q2];rfl
    go_wp2_with (first | (go_at_call 158;refine (jbN _ _).mono ?_;rintro e w4 ⟨rfl,rfl⟩;rw [q2]))
    go_meet
    case rel => exact ⟨by rw [he.out],rfl⟩
   ·have he : Hid (jdZ x y = true):=by unfold Hid jdZ;rw [q1,q2,q3];rfl
    go_wp2_with (first | (go_at_call 158;refine (jbN _ _).mono ?_;rintro e w4 ⟨rfl,rfl⟩;rw [q2]))
    go_meet
    case rel => exact ⟨by rw [he.out],rfl⟩
   ·have he : Hid (jdZ x y = false):=by unfold Hid jdZ;rw [q1,q2,q3];rfl
    go_wp2_with (first | (go_at_call 158;refine (jbN _ _).mono ?_;rintro e w4 ⟨rfl,rfl⟩;rw [q2]))
    go_meet
    case rel => exact ⟨by rw [he.out],rfl⟩
  case rest =>
   obtain ⟨rfl,rfl⟩:=hcut
   obtain ⟨en,hen⟩ : ∃ b,Hid (jdZ x y = b):=⟨_,rfl⟩
   rw [hen.out]
   have hk2:=HKc.out
   obtain ⟨b0,g0,b1,g1,b2,g2,b3,g3,b4,g4,b9⟩:=uc5 hk2;clear hk2
   go_wp2_with (first
    | (go_at_call 156;refine (jfB _ _).mono ?_;rintro e w4 ⟨rfl,rfl⟩)
    | (go_at_call 65;refine (jfH _ _).mono ?_;rintro e w4 ⟨rfl,rfl⟩))
   all_goals go_ret
   all_goals refine ⟨?_,HUC.out⟩
   all_goals (
    show Ending.returned (.int .i64 _) = _
    congr 2
    unfold isR
    have hen2:=hen.out
    have hsm2:=hsm.out
    clear hen hsm HKc HUC
    simp_all)
theorem jhX {w : World} {B A : Nat} {bs : List Nat} {ts : List Ty} {tv mv dv : Value} (h : Are w B A bs ts tv mv dv) {i : Nat} {t : Ty} (ht : ts[i]? = some t) (kb : Nat) (K T : Int) (s : ByteArray) (er : Int) (hk : w.heap[kb]? = some (.cells (jbC A K s T er) TesT (0,0))) :
  Calls Tryz.prog 105 #[.pointer (some ⟨kb,0,none⟩), .int .i64 i] w fun e w' => e = .returned (.int .i64 (jgP t.kind t.num t.name)) ∧ Up w w':=by
 have HA:=Lib.hid (fun W (hW : Up w W) => jc6 (h.up hW) ht kb K T s er (hW.get hk))
 obtain ⟨k,hkk⟩ : ∃ x,Hid (t.kind = x):=⟨_,rfl⟩
 obtain ⟨n,hn⟩ : ∃ x,Hid (t.num = x):=⟨_,rfl⟩
 obtain ⟨nm,hnm⟩ : ∃ x,Hid (t.name = x):=⟨_,rfl⟩
 rw [hkk.out,hn.out,hnm.out]
 clear h ht hk
 go_enter Tryz.func105,Tryz.ntmps105
 go_wp2_with (first
  | (go_at_call 108;refine (HA.out _ (show Up w _ from uq)).mono ?_;rintro e w2 ⟨pa,pc,na,nc,ma,mc,rfl,hv2,hu2⟩;simp only [tyA,hkk.out,hn.out,hnm.out];clear hv2)
  | (go_at_call 157;refine (jiE _ _).mono ?_;rintro e w3 ⟨rfl,rfl⟩))
 all_goals go_ret
 all_goals refine ⟨?_,uq⟩
 all_goals (
  show Ending.returned (.int .i64 _) = _
  congr 2
  unfold jgP
  clear HA hkk hn hnm
  simp_all)
end Go.Proofs.YtiaepldmgighbaaGreatDoor
namespace Go.Proofs.YtiaepldmgighbaaGreatDoor
open Go.RowKit
set_option linter.unusedSimpArgs false
def jb0 (l : List Mem) : List Value:=l.flatMap fun e => [.string e.1, .int .i64 (Int.ofNat e.2.1), .bool e.2.2]
def PieK (A i : Nat) (w : World) (r : Option (List Mem)) : Prop := ∀ W,Up w W → Calls Tryz.prog 168 #[.pointer (some ⟨A,0,none⟩), .int .i64 i] W fun e w' => (match r with
 | none => e = .returned (.tuple #[.slice none 0 0, .int .i64 11])
 | some l => ∃ v,e = .returned (.tuple #[v, .int .i64 0]) ∧ w'.ownsRow 0 PieT 3 v l.length (jb0 l)) ∧ Up W w'
def pieV (e : Mem) : Value := .agg #[.string e.1, .int .i64 (Int.ofNat e.2.1), .bool e.2.2]
structure MapKeep (w0 w : World) : Prop where
 os : w.os = w0.os
 tape : w.tape = w0.tape
 output : w.output = w0.output
 size : w0.heap.size ≤ w.heap.size
 block : ∀ b,b < w0.heap.size → w.heap[b]? = w0.heap[b]?
theorem MapKeep.up {w0 w : World} (h : MapKeep w0 w) : Up w0 w:=⟨h.os,h.tape,h.output,h.size,h.block⟩
theorem MapKeep.of_up {w0 w : World} (h : Up w0 w) : MapKeep w0 w:=⟨h.os,h.tape,h.output,h.size,h.block⟩
theorem jeS : ∀ (l : List Mem) (k : Nat) (x : Mem),l[k]? = some x → (jb0 l)[k * 3]? = some (.string x.1) ∧ (jb0 l)[k * 3 + 1]? = some (.int .i64 (Int.ofNat x.2.1)) ∧ (jb0 l)[k * 3 + 2]? = some (.bool x.2.2)
 | [],k,x,h => by simp at h
 | q :: r,0,x,h => by simp at h;subst h;simp [jb0]
 | q :: r,k + 1,x,h => by
   have ih:=jeS r k x (by simpa using h)
   have e : jb0 (q :: r) = .string q.1 :: .int .i64 (Int.ofNat q.2.1) :: .bool q.2.2 :: jb0 r:=by simp [jb0]
   rw [e,show (k + 1) * 3 = k * 3 + 1 + 1 + 1 by omega]
   simpa using ih
theorem jnk {w : World} {sa : Option Addr} {n cap : Nat} {l : List Mem} (h : w.ownsRow 0 PieT 3 (.slice sa n cap) l.length (jb0 l)) {k : Nat} {x : Mem} (hk : l[k]? = some x) :
  ∃ g,sa = some ⟨g,0,none⟩ ∧ g < w.heap.size ∧ w.cell? ⟨g,k * 3,none⟩ = some (.string x.1) ∧ w.cell? ⟨g,k * 3 + 1,none⟩ = some (.int .i64 (Int.ofNat x.2.1)) ∧ w.cell? ⟨g,k * 3 + 2,none⟩ = some (.bool x.2.2):=by
 have hlt:=(List.getElem?_eq_some_iff.1 hk).1
 have hF:=jeS l k x hk
 rcases h.2 with ⟨_,h0⟩ | ⟨g,c,cur,hv,_,hc,_⟩
 ·omega
 ·cases hv
  have q1:=h.cells (g:=g) rfl _ _ hF.1
  have q2:=h.cells (g:=g) rfl _ _ hF.2.1
  have q3:=h.cells (g:=g) rfl _ _ hF.2.2
  rw [Addr.add_lit] at q1 q2 q3
  simp only [Nat.zero_add] at q1 q2 q3
  exact ⟨g,rfl,ja0 hc,q1,q2,q3⟩
set_option linter.unusedVariables false
abbrev DefT : TypeId:=101
set_option maxRecDepth 100000
set_option maxHeartbeats 3200000
theorem jkg (N : Nat → Prop) (A i n tcap gr b g : Nat) (es : Array MapEntry) (clk : Nat) (num : Int) (nm : ByteArray) (pv nv mv : Value) (sz : Nat) (said : ByteArray) (qs zs : List Nat) (xs : List (ByteArray × Nat)) (ns : List ByteArray) (ms : List Bool) (w : World)
  (h : AtH N A i n tcap gr b g es clk (.map none) 17 num nm pv nv mv sz said qs zs xs ns ms w) :
  Calls Tryz.prog 168 #[.pointer (some ⟨A,0,none⟩), .int .i64 i] w fun e w' => e = .returned (.tuple #[.slice none 0 0, .int .i64 11]) ∧ Up w w':=by
 obtain ⟨pa,pcap,hpv,hpc,hpl,hpj⟩:=h.parts
 simp only [List.length_map] at hpv hpc hpl
 subst hpv
 clear hpj
 have H:=Lib.hid h
 have a4:=ja0 h.head
 have hji : (i : Int) < n:=by have:=h.less;omega
 clear h
 go_enter Tryz.func168,Tryz.ntmps168
 go_wp2_with (first | (go_at_call 60;refine (jg0 (.map none) A n tcap _ _ i H.out.less _ (Up.get (show Up w _ from uq) H.out.head)).mono ?_;rintro e w2 ⟨rfl,hu2⟩;have u2 : Up w w2:=uq;have H2:=Lib.hid (H.out.up u2);have a0:=ja1 H2.out.head 0;have a4:=ja0 H2.out.head;have g0:=H2.out.row.2;simp only [ptrV] at g0;have g4:=H2.out.row.1;have b0:=ja1 H2.out.blk 0;have b4:=ja0 H2.out.blk;simp only [gQa,gQz,gQs] at a0 b0))
 have u2' : Hid (Up w w2):=u2
 have HS : Hid (∀ X : World,Up w2 X → X.cell? ⟨A,2,none⟩ = some (.map none) ∧ X.cell? ⟨b,1,none⟩ = some (.int .i64 num)):=fun X hX => ⟨ja1 (hX.get H2.out.head) 2,ja1 (hX.get H2.out.blk) 1⟩
 have hlk : ∀ W : World,(Instr.lookup DefT (.map none) (.int .i64 num) true).run Tryz.prog W = .ok (.tuple #[.agg #[.slice none 0 0, .slice none 0 0], .bool false]) W:=fun W => (jbI (kf:=fun z : Int => Value.int .i64 z) (z := .agg #[.slice none 0 0, .slice none 0 0]) Tryz.underlying101 Tryz.underlying3 (jd9 .i64) (show (zeroValue 144).run Tryz.prog W = .ok (.agg #[.slice none 0 0, .slice none 0 0]) W by kernel_rfl) num).1
 clear g0 g4 a0 b0 u2 hu2
 go_region_held3 (fun X => X.cell? ⟨A,2,none⟩ = some (.map none) ∧ X.cell? ⟨b,1,none⟩ = some (.int .i64 num)) (exact HS.out _ (show Up w2 _ from uq)) (fail)
 all_goals go_wp2_with fail
 all_goals (clear hlk
            refine jdd (by kernel_rfl) (by kernel_rfl) ?_
            repeat (go_big_quiet_step (fail))
            refine wpQuiet_nil ?_
            intro W9 hw9
            obtain ⟨⟨W8,u8⟩,rfl⟩:=hw9
            have u9:=(u2'.out.trans (show Up w2 _ from uq)).trans u8
            go_wp2_with fail
            refine bodyPost_ret (v := .tuple #[.slice none 0 0, .int .i64 11]) (by simp [results,Tryz.results168,go_sem]) rfl ?_
            exact ⟨rfl,uq⟩)
def jb8 (ts : List Ty) (t : Ty) : Option (List Mem):=if t.kind = 14 then some (jc1 ts t) else none
theorem jif (ts : List Ty) (t : Ty) : jb0 (jc1 ts t) = (List.range t.parts.length).flatMap fun j => [.string (t.names.getD j ⟨#[]⟩), .int .i64 (Int.ofNat ((t.parts.map (idOf ts)).getD j 0)), .bool (t.marks.getD j false)]:=by
 unfold jb0 jc1
 rw [List.flatMap_map]
 rfl
theorem jfM {w : World} {B A : Nat} {bs : List Nat} {ts : List Ty} {tv mv : Value} (h : Are w B A bs ts tv mv (.map none)) {i : Nat} {t : Ty} (ht : ts[i]? = some t) : PieK A i w (jb8 ts t):=by
 intro W hW
 have h:=h.up hW
 obtain ⟨n,tcap,gr,b,g,es,clk,pv,nv,kv,said,qs,hql,hH⟩:=h.atH ht
 have hv:=(h.good t (List.mem_of_getElem? ht)).1
 unfold jb8
 by_cases hk : t.kind = 14
 ·rw [if_pos hk]
  have hl:=jkZ hv hk
  rw [hk] at hH
  refine (jkh _ A i n tcap gr b g es clk _ t.num t.name pv nv kv t.size said qs _ _ t.names t.marks W hH (by omega) (by omega)).mono ?_
  rintro e w' ⟨v,rfl,hr,hu⟩
  refine ⟨⟨v,rfl,?_⟩,hu⟩
  rw [jif]
  have hm : (jc1 ts t).length = qs.length:=by unfold jc1;rw [List.length_map,List.length_range,hql]
  rw [hm, ← hql]
  exact hr
 ·rw [if_neg hk]
  by_cases h17 : t.kind = 17
  ·rw [h17] at hH
   exact jkg _ A i n tcap gr b g es clk t.num t.name pv nv kv t.size said qs _ _ t.names t.marks W hH
  ·exact jhJ _ A i n tcap gr b g es clk t.kind t.num t.name pv nv kv t.size said qs _ _ t.names t.marks W hH ⟨hk,h17⟩
attribute [local go_sem] Oper.semAt_some
abbrev ISlT : TypeId:=43
abbrev jbR : Nat:=155
def ISeqAt (w : World) (t g : Nat) (xs : List Nat) : Prop := ∃ (off cap : Nat) (cs : Array Value) (T : TypeId) (fz : Nat × Nat),w.heap[t]? = some (.cells #[.slice (some ⟨g,off,none⟩) xs.length cap] ISlT (0,0)) ∧ w.heap[g]? = some (.cells cs T fz) ∧ ∀ j x,xs[j]? = some x → cs[off + j]? = some (numV x)
theorem ISeqAt.up {w w' : World} {t g : Nat} {xs : List Nat} (h : ISeqAt w t g xs) (u : Up w w') : ISeqAt w' t g xs:=let ⟨off,cap,cs,T,fz,h1,h2,h3⟩:=h; ⟨off,cap,cs,T,fz,u.get h1,u.get h2,h3⟩
theorem jfk (a : Option Addr) (n cap : Nat) (w : World) :
  Calls Tryz.prog 102 #[.slice a n cap] w fun e w' => e = .returned (.func (.func jbR) #[] #[.pointer (some ⟨w.heap.size,0,none⟩)]) ∧ w' = w.alloc (.cells #[.slice a n cap] ISlT):=by
 go_enter Tryz.func102,Tryz.ntmps102
 go_wp2
 go_ret
 exact ⟨rfl,rfl⟩
theorem jhq (l tb : Nat) (xs : List Nat) (K : World → World → Prop) (hKr : ∀ W,K W W) (hKt : ∀ a b c,K a b → K b c → K a c) (J Jx : List Nat → World → Prop) (W : World)
  (hY : ∀ pre x W1,x ∈ xs → J pre W1 → pre.length < xs.length → YieldAt Fence.wide 0 Tryz.prog l #[numV x] W1 fun e W' =>
   (e = .returned (.bool true) ∧ J (pre ++ [x]) W' ∧ K W1 W') ∨ (e = .returned (.bool false) ∧ Jx (pre ++ [x]) W'))
  (hlen : xs.length ≤ 1000000) (hbox : ∃ g off cap,∀ W',K W W' → W'.cell? ⟨tb,0,none⟩ = some (.slice (some ⟨g,off,none⟩) xs.length cap) ∧ ∀ j x,xs[j]? = some x → W'.cell? ⟨g,off + j,none⟩ = some (numV x)) (h0 : J [] W) :
  CallsIn Fence.wide 1 Tryz.prog jbR #[.func (.yield l) #[] #[], .pointer (some ⟨tb,0,none⟩)] W fun e W' => (∃ v,e = .returned v) ∧
   (J xs W' ∨ (∃ pre,pre <+: xs ∧ Jx pre W')):=by
 obtain ⟨g,off,cap,hbox⟩:=hbox
 have hb0:=(hbox W (hKr W)).1
 have HB:=Lib.hid hbox
 clear hbox
 refine callsIn_of_wp Tryz.func155 rfl trivial ?_ rfl
 simp only [Tryz.ntmps155,List.size_toArray,List.length_cons,List.length_nil,Nat.reduceAdd,Nat.reduceSub,Array.replicate_succ,Array.replicate_zero,List.push_toArray,List.append_toArray,List.nil_append,List.cons_append]
 gi_wp2
 gi_loopw [7] (fun i wr => ∃ (j : Nat),j ≤ xs.length ∧ i = .int .i64 j ∧ J (xs.take j) wr ∧ K W wr) (fun i _ => xs.length - (intOf i).toNat)
 case atStart => exact ⟨0,Nat.zero_le _,rfl,h0,hKr _⟩
 case round =>
  obtain ⟨j,hj,rfl,hJs,hnx⟩:=hrel
  by_cases hlt : j < xs.length
  ·have hji : (j : Int) < xs.length:=by omega
   obtain ⟨x,hx⟩ : ∃ x,xs[j]? = some x:=⟨_,List.getElem?_eq_getElem hlt⟩
   have y0 : wr.cell? ⟨g,off + j,none⟩ = some (.int .i64 x):=(HB.out wr hnx).2 j x hx
   obtain ⟨fn,tmps,assign,body,hy,hR⟩:=hY _ x wr (List.mem_of_getElem? hx) hJs (by simp;omega)
   have hnext : xs.take (j + 1) = xs.take j ++ [x]:=by rw [List.take_add_one,hx];rfl
   have HX:=Lib.hid hx
   simp only [numV] at hy
   clear hx hlt
   gi_wp2
   refine hR.mono ?_
   rintro e W3 (⟨rfl,hJ3,hk3⟩ | ⟨rfl,hJx3⟩)
   ·gi_wp2
    go_roundw
    case rel => exact ⟨j + 1,by omega,by simp,by rw [hnext];exact hJ3,hKt _ _ _ hnx hk3⟩
    case measure => simp [intOf];omega
   ·gi_wp2
    refine bodyPost_ret (results_none rfl _ _ _) rfl ?_
    exact ⟨⟨_,rfl⟩, .inr ⟨_,by rw [← hnext];exact List.take_prefix _ _,hJx3⟩⟩
  ·obtain rfl : j = xs.length:=by omega
   gi_wp2
   go_end0
   rw [List.take_length] at hJs
   exact ⟨⟨_,rfl⟩, .inl hJs⟩
abbrev OneI (xs : List Nat):={ x : Nat // x ∈ xs }
theorem jdz (tb : Nat) (xs : List Nat) (hlen : xs.length ≤ 1000000) (w : World) (g : Nat) (h : ISeqAt w tb g xs) :
  SeqStopsK Fence.wide 1 Tryz.prog jbR #[.pointer (some ⟨tb,0,none⟩)] (fun x : OneI xs => #[numV x.1]) (TwoKeep fun x => x = tb ∨ x = g) (fun ys => ys.map (·.1) = xs) (fun _ => True) xs.length w:=by
 obtain ⟨off,cap,cs,T,fz,h1,h2,h3⟩:=h
 intro l J0 Jx0 W hW hJ0 hJx0 hY0 h00
 refine CallsIn.mono (jhq l tb xs (TwoKeep fun x => x = tb ∨ x = g) (TwoKeep.refl _) (fun _ _ _ => TwoKeep.trans) (fun pre W => ∃ ys : List (OneI xs),ys.map (·.1) = pre ∧ J0 ys W) (fun pre W => ∃ ys : List (OneI xs),ys.map (·.1) = pre ∧ Jx0 ys W) W ?_ hlen ⟨g,off,cap,fun W' hk => ?_⟩ ⟨[],rfl,h00⟩) ?_
 ·rintro pre x W1 hx ⟨ys,rfl,hj⟩ hl
  obtain ⟨fn,tmps,assign,body,hy,hR⟩:=hY0 ys ⟨x,hx⟩ W1 hj (by simpa using hl)
  refine ⟨fn,tmps,assign,body,hy,hR.mono ?_⟩
  rintro e W' (⟨rfl,h1,h2⟩ | ⟨rfl,h1⟩)
  ·exact .inl ⟨rfl,⟨ys ++ [⟨x,hx⟩],by simp,h1⟩,h2⟩
  ·exact .inr ⟨rfl,ys ++ [⟨x,hx⟩],by simp,h1⟩
 ·refine ⟨?_,fun j x hx => ?_⟩
  ·exact ja1 (hk.same tb _ (.inl rfl) (Up.get hW h1) rfl) 0
  ·exact (ja1 (hk.same g _ (.inr rfl) (Up.get hW h2) rfl) _).trans (h3 j x hx)
 ·rintro e W' ⟨hv,⟨ys,hy,hj⟩ | ⟨pre,hp,ys,hy,hj⟩⟩
  ·exact ⟨hv,Or.inl ⟨ys,hy,hj⟩⟩
  ·exact ⟨hv,Or.inr ⟨ys,trivial,hj⟩⟩
end Go.Proofs.YtiaepldmgighbaaGreatDoor
namespace Go.Proofs.YtiaepldmgighbaaGreatDoor
open Go.RowKit
set_option linter.unusedSimpArgs false
set_option linter.unusedVariables false
def jb5 (ts : List Ty) (i : Nat) (t : Ty) : List Nat:=if t.kind = 16 then t.parts.map (idOf ts) else [i]
set_option maxRecDepth 100000
set_option maxHeartbeats 3200000
theorem jh7 {w : World} {B A : Nat} {bs : List Nat} {ts : List Ty} {tv mv dv : Value} (h : Are w B A bs ts tv mv dv) {i : Nat} {t : Ty} (ht : ts[i]? = some t) :
  Calls Tryz.prog 66 #[.pointer (some ⟨A,0,none⟩), .int .i64 i] w fun e w' => ∃ tb g,e = .returned (.func (.func jbR) #[] #[.pointer (some ⟨tb,0,none⟩)]) ∧ ISeqAt w' tb g (jb5 ts i t) ∧ w.heap.size ≤ tb ∧ tb ≠ g ∧ (∃ cs T f,w'.heap[g]? = some (.cells cs T f) ∧ (T = IntE ∨ T = BooT)) ∧ Up w w':=by
 have HA:=Lib.hid (fun W (hW : Up w W) => jlT (h.up hW) ht)
 have hne : t.kind = 16 → t.parts ≠ []:=fun hk => by
  obtain ⟨ps,e,hl,_⟩:=(CV.of (h.good t (List.mem_of_getElem? ht)).1).union (by rw [Ty.canon_kind];exact hk)
  intro e2
  have:=Ty.canon_parts t
  rw [e,e2] at this
  simp [Ty.parts] at this
  subst this
  simp at hl
 have HN:=Lib.hid hne
 clear h ht hne
 by_cases hk : t.kind = 16
 ·have hp : jb5 ts i t = t.parts.map (idOf ts):=by unfold jb5;rw [if_pos hk]
  rw [hp]
  go_enter Tryz.func66,Tryz.ntmps66
  go_wp2_with (first
   | (go_at_call 64;refine (HA.out _ (show Up w _ from uq)).mono ?_;rintro e w2 ⟨pa,pc,na,nc,ma,mc,rfl,hv2,hu2⟩;have HV:=Lib.hid hv2;clear hv2)
   | (go_at_call 102;refine (jfk _ _ _ _).mono ?_;rintro e w2 ⟨rfl,rfl⟩))
  go_ret
  obtain ⟨z0,hz0⟩ : ∃ z,(t.parts.map (idOf ts))[0]? = some z:=⟨_,List.getElem?_eq_getElem (by rw [List.length_map];exact List.length_pos_iff.2 (HN.out hk))⟩
  obtain ⟨g,off,cs,T,f,rfl,hc,hTT,_⟩:=HV.out.parts 0 (.int .i64 (Int.ofNat z0)) (by rw [List.getElem?_map,hz0];rfl)
  refine ⟨_,g,rfl,⟨off,pc,cs,T,f,?_,(show Up w2 _ from uq).get hc,fun j x hx => ?_⟩,by have:=hu2.size;omega,by have:=ja0 hc;omega,⟨cs,T,f,(show Up w2 _ from uq).get hc,hTT.2.2⟩,uq⟩
  ·rw [List.length_map]
   exact jaa _ _ _ (by simp only [gQw])
  ·obtain ⟨g2,off2,cs2,T2,f2,e2,hc2,_,h4⟩:=HV.out.parts j (.int .i64 (Int.ofNat x)) (by rw [List.getElem?_map,hx];rfl)
   injection e2 with e2
   injection e2 with e2 e3 _
   subst e2 e3
   rw [hc] at hc2
   injection hc2 with hc2
   injection hc2 with hc2 _ _
   subst hc2
   exact h4
 ·have hp : jb5 ts i t = [i]:=by unfold jb5;rw [if_neg hk]
  rw [hp]
  go_enter Tryz.func66,Tryz.ntmps66
  go_wp2_with (first
   | (go_at_call 64;refine (HA.out _ (show Up w _ from uq)).mono ?_;rintro e w2 ⟨pa,pc,na,nc,ma,mc,rfl,hv2,hu2⟩;have HV:=Lib.hid hv2;clear hv2)
   | (go_at_call 102;refine (jfk _ _ _ _).mono ?_;rintro e w2 ⟨rfl,rfl⟩))
  go_ret
  refine ⟨_,w2.heap.size + 1,rfl,⟨0,1,#[numV i],3,(0,0),jaa _ _ _ (by simp only [gQw]),jah (jaa _ _ _ (by simp only [gQw])),fun j x hx => ?_⟩,by have:=hu2.size;omega,by omega,⟨_,_,_,jah (jaa _ _ _ (by simp only [gQw])), .inl rfl⟩,uq⟩
  cases j with
  | zero => simp at hx;subst hx;rfl
  | succ j => simp at hx
theorem jcw {w : World} {B A : Nat} {bs : List Nat} {ts : List Ty} {tv mv dv : Value} (h : Are w B A bs ts tv mv dv) {i : Nat} {t : Ty} (ht : ts[i]? = some t) : ∃ vs : List Ty,(jb5 ts i t).map (fun z => ts[z]?) = vs.map some ∧ vs.map Ty.canon = t.canon.flat:=by
 rw [jdW]
 unfold jb5 Ty.flat
 by_cases hk : t.kind = 16
 ·rw [if_pos hk,if_pos hk]
  have hid : ∀ p ∈ t.parts,∃ u,ts[idOf ts p]? = some u ∧ u.canon = p.canon:=fun p hp => h.rows.id (List.mem_of_getElem? ht) hp
  have key : ∀ l : List Ty,(∀ p ∈ l,∃ u,ts[idOf ts p]? = some u ∧ u.canon = p.canon) → ∃ vs : List Ty,(l.map (idOf ts)).map (fun z => ts[z]?) = vs.map some ∧ vs.map Ty.canon = l.map Ty.canon:=by
   intro l
   induction l with
   | nil => exact fun _ => ⟨[],rfl,rfl⟩
   | cons p r ih =>
     intro hl
     obtain ⟨vs,e1,e2⟩:=ih fun q hq => hl q (List.mem_cons_of_mem _ hq)
     obtain ⟨u,hu,hc⟩:=hl p List.mem_cons_self
     exact ⟨u :: vs,by simp only [List.map_cons,hu];rw [e1],by simp only [List.map_cons,hc,e2]⟩
  exact key t.parts hid
 ·rw [if_neg hk,if_neg hk]
  exact ⟨[t],by simp [ht],rfl⟩
attribute [local go_sem] jcV
abbrev TesP : TypeId:=127
abbrev pie1F : Nat:=185
theorem jos (a b : ByteArray) : (a.toList == b.toList) = decide (a = b):=by
 by_cases h : a = b
 ·subst h;simp
 ·have : ¬ a.toList = b.toList:=fun e => h (toList_inj e)
  simp [h,this]
theorem jkW (kq kb A : Nat) (K T : Int) (s : ByteArray) (er : Int) (nm : ByteArray) (z : Int) (m : Bool) (w : World) (hk : w.heap[kb]? = some (.cells (jbC A K s T er) TesT (0,0))) (hq : w.heap[kq]? = some (.cells #[.pointer (some ⟨kb,0,none⟩)] TesP (0,0))) :
  Calls Tryz.prog pie1F #[.agg #[.string nm, .int .i64 z, .bool m], .pointer (some ⟨kq,0,none⟩)] w fun e w' => e = .returned (.bool (decide (nm = s))) ∧ Up w w':=by
 obtain ⟨b0,g0,b1,g1,b2,g2,b3,g3,b4,g4,b9⟩:=uc5 hk;clear hk
 have q0:=ja1 hq 0
 have q9:=ja0 hq
 simp only [gQa,gQz,gQs] at q0
 clear hq
 go_enter Tryz.func185,Tryz.ntmps185
 go_wp2_with fail
 (try go_quiet (fail))
 (try go_wp2_with fail)
 all_goals go_ret
 all_goals exact ⟨by show Ending.returned (.bool (nm.toList == s.toList)) = _;rw [jos],uq⟩
theorem joe {l : List Mem} {s : ByteArray} {j : Nat} {x : Mem} (hx : l[j]? = some x) (he : x.1 = s) (hno : ∀ y ∈ l.take j,y.1 ≠ s) : hasM l s = some x:=by
 have e : l = l.take j ++ x :: l.drop (j + 1):=by
  have h1:=List.take_append_drop j l
  rw [List.drop_eq_getElem_cons (List.getElem?_eq_some_iff.1 hx).1,(List.getElem?_eq_some_iff.1 hx).2] at h1
  exact h1.symm
 unfold hasM
 rw [e,List.find?_append,List.find?_eq_none.2 (fun y hy => by simpa using hno y hy)]
 simp [he]
theorem jkk (l : List Mem) (a : Option Addr) (cap kq kb A : Nat) (K T : Int) (s : ByteArray) (er : Int) (w : World) (hr : w.ownsRow 0 PieT 3 (.slice a l.length cap) l.length (jb0 l)) (hl : l.length ≤ 100000) (hk : w.heap[kb]? = some (.cells (jbC A K s T er) TesT (0,0))) (hq : w.heap[kq]? = some (.cells #[.pointer (some ⟨kb,0,none⟩)] TesP (0,0))) :
  Calls Tryz.prog 112 #[.slice a l.length cap, .func (.func pie1F) #[] #[.pointer (some ⟨kq,0,none⟩)]] w fun e w' => ((hasM l s = none ∧ e = .returned (.int .i64 (-1))) ∨ ∃ (j : Nat) (x : Mem),l[j]? = some x ∧ hasM l s = some x ∧ e = .returned (.int .i64 j)) ∧ Up w w':=by
 have HR:=Lib.hid hr
 have HN:=Lib.hid (fun (nm : ByteArray) (z : Int) (m : Bool) W (hW : Up w W) => jkW kq kb A K T s er nm z m W (hW.get hk) (hW.get hq))
 obtain ⟨n,hn⟩ : ∃ n,Hid (l.length = n):=⟨_,rfl⟩
 rw [hn.out] at hl ⊢
 clear hr hk hq
 go_enter Tryz.func112,Tryz.ntmps112
 go_wp2_with fail
 go_loopw [8] (fun i wr => ∃ j : Nat,j ≤ n ∧ i = .int .i64 j ∧ Hid (∀ y ∈ l.take j,y.1 ≠ s) ∧ Up w wr) (fun i _ => n - (intOf i).toNat)
 case atStart => exact ⟨0,Nat.zero_le _,rfl,(by unfold Hid;simp),uq⟩
 case round =>
  obtain ⟨j,hj,rfl,hno,hup⟩:=hrel
  by_cases hlt : j < n
  ·have hji : (j : Int) < n:=by omega
   obtain ⟨x,hx⟩ : ∃ x,l[j]? = some x:=⟨_,List.getElem?_eq_getElem (by rw [hn.out];exact hlt)⟩
   obtain ⟨g,rfl,hg,y0,y1,y2⟩:=jnk (ja5 HR.out hup) hx
   have HX:=Lib.hid hx
   obtain ⟨nm,z,m⟩:=x
   simp only at y0 y1 y2
   clear hx hlt
   by_cases he : nm = s
   ·have he2 : decide (nm = s) = true:=decide_eq_true he
    have HE:=Lib.hid he
    clear he
    go_wp2_with (first | (go_at_call 185;refine (HN.out nm _ m _ (hup.trans (show Up wr _ from uq))).mono ?_;rintro e w2 ⟨rfl,hu2⟩;simp only [he2]))
    all_goals refine bodyPost_ret (v := .int .i64 j) (by simp [results,Tryz.results112,go_sem]) rfl ?_
    all_goals exact ⟨.inr ⟨j,_,HX.out,joe HX.out HE.out hno.out,rfl⟩,hup.trans (show Up wr _ from uq)⟩
   ·have he2 : decide (nm = s) = false:=decide_eq_false he
    have HE:=Lib.hid he
    clear he
    go_wp2_with (first | (go_at_call 185;refine (HN.out nm _ m _ (hup.trans (show Up wr _ from uq))).mono ?_;rintro e w2 ⟨rfl,hu2⟩;simp only [he2]))
    all_goals refine ⟨⟨j + 1,by omega,by simp,fun y hy => ?_,hup.trans (show Up wr _ from uq)⟩,by simp [intOf];omega⟩
    all_goals (rw [List.take_add_one,HX.out] at hy;rcases List.mem_append.1 hy with q | q)
    all_goals first
     | exact hno.out y q
     | (simp at q;subst q;exact HE.out)
  ·obtain rfl : j = n:=by omega
   clear hlt
   go_wp2_with fail
   refine bodyPost_ret (v := .int .i64 (-1)) (by simp [results,Tryz.results112,go_sem]) rfl ?_
   refine ⟨.inl ⟨List.find?_eq_none.2 fun y hy => ?_,rfl⟩,hup.trans (show Up wr _ from uq)⟩
   have:=hno.out y (by rw [← hn.out,List.take_length];exact hy)
   simpa using this
def pieR (r : Option (List Mem)) (s : ByteArray) : Value:=match r with
 | none => .tuple #[.agg #[.string ⟨#[]⟩, .int .i64 0, .bool false], .bool false, .bool false]
 | some l => match hasM l s with
   | none => .tuple #[.agg #[.string ⟨#[]⟩, .int .i64 0, .bool false], .bool true, .bool false]
   | some x => .tuple #[pieV x, .bool true, .bool true]
theorem jh5 (i kb A : Nat) (K T : Int) (s : ByteArray) (er : Int) (r : Option (List Mem)) (hrl : ∀ l,r = some l → l.length ≤ 100000) (w : World) (hP : PieK A i w r) (hk : w.heap[kb]? = some (.cells (jbC A K s T er) TesT (0,0))) :
  Calls Tryz.prog 159 #[.pointer (some ⟨kb,0,none⟩), .int .i64 i] w fun e w' => e = .returned (pieR r s) ∧ Up w w':=by
 have HP:=Lib.hid hP
 have HK:=Lib.hid hk
 have hk1:=hk
 obtain ⟨b0,g0,b1,g1,b2,g2,b3,g3,b4,g4,b9⟩:=uc5 hk1;clear hk1
 clear hP hk
 cases r with
 | none =>
   have HP2 : Hid (∀ W,Up w W → Calls Tryz.prog 168 #[.pointer (some ⟨A,0,none⟩), .int .i64 i] W fun e w' => e = .returned (.tuple #[.slice none 0 0, .int .i64 11]) ∧ Up W w'):=HP.out
   clear HP
   go_enter Tryz.func159,Tryz.ntmps159
   go_wp2_with (first | (go_at_call 168;refine (HP2.out _ (show Up w _ from uq)).mono ?_;rintro e w2 ⟨rfl,hu2⟩;have s1:=hu2.get (jaa _ _ _ (by simp only [gQw] : w.heap.size + 1 = _));obtain ⟨d0,df0,d1,df1,d2,df2,dl⟩:=uc3 s1;clear s1))
   all_goals refine bodyPost_ret (v:=pieR none s) (by simp [results,Tryz.results159,go_sem,pieR, *]) rfl ?_
   all_goals exact ⟨rfl,uq⟩
 | some l =>
   have HP2 : Hid (∀ W,Up w W → Calls Tryz.prog 168 #[.pointer (some ⟨A,0,none⟩), .int .i64 i] W fun e w' => (∃ v,e = .returned (.tuple #[v, .int .i64 0]) ∧ w'.ownsRow 0 PieT 3 v l.length (jb0 l)) ∧ Up W w'):=HP.out
   have hl:=hrl l rfl
   clear HP hrl
   have hlx : ∀ j : Nat,j < l.length → ((j : Int) < l.length ∧ ¬ (j : Int) < 0):=fun j hj => by omega
   have HLX:=Lib.hid hlx
   obtain ⟨n,hn⟩ : ∃ n,Hid (l.length = n):=⟨_,rfl⟩
   rw [hn.out] at HLX hl
   clear hlx
   go_enter Tryz.func159,Tryz.ntmps159
   go_wp2_with (first
    | (go_at_call 168;refine (HP2.out _ (show Up w _ from uq)).mono ?_;rintro e w2 ⟨⟨v,rfl,hr⟩,hu2⟩;obtain ⟨va,vc,rfl⟩:=ja7 hr;have HR:=Lib.hid hr;have hkq:=Lib.hid (hu2.get (jah (ja9 _ _)));have hpb:=Lib.hid (hu2.get (jaa _ _ _ (by simp only [gQw] : w.heap.size + 1 = _)));rw [hn.out];clear hr)
    | (go_at_call 112;refine (by have q:=jkk l va vc w.heap.size kb A K T s er _ (ja5 HR.out (show Up w2 _ from uq)) (by rw [hn.out];exact hl) ((show Up w _ from uq).get HK.out) ((show Up w2 _ from uq).get hkq.out);rw [hn.out] at q;exact q : Calls Tryz.prog 112 _ _ _).mono ?_;(rintro e w3 ⟨⟨hm,rfl⟩ | ⟨j,x,hj,hm,rfl⟩,hu3⟩ <;> (have s1:=(show Up w2 w3 from uq).get hpb.out;obtain ⟨d0,df0,d1,df1,d2,df2,dl⟩:=uc3 s1;clear s1;have HM:=Lib.hid hm;clear hm;try (have hjl:=HLX.out j (by rw [← hn.out];exact (List.getElem?_eq_some_iff.1 hj).1);obtain ⟨hj1,hj2⟩:=hjl;obtain ⟨g,hva,hg,y0,y1,y2⟩:=jnk (ja5 HR.out (show Up w2 w3 from uq)) hj;subst hva;obtain ⟨nm,z,mk⟩:=x;clear hj)))))
   ·refine bodyPost_ret (v := .tuple #[.agg #[.string ⟨#[]⟩, .int .i64 0, .bool false], .bool true, .bool false]) (by simp [results,Tryz.results159,go_sem, *]) rfl ?_
    refine ⟨?_,uq⟩
    unfold pieR
    simp only [HM.out]
   ·refine bodyPost_ret (v := .tuple #[.agg #[.string nm, .int .i64 z, .bool mk], .bool true, .bool true]) (by simp [results,Tryz.results159,go_sem, *]) rfl ?_
    refine ⟨?_,uq⟩
    unfold pieR
    simp only [HM.out]
    rfl
def hasN (k : Int) (r : Option (List Mem)) (s : ByteArray) : Int:=match r with
 | none => 2
 | some l => match hasM l s with
   | none => if k = 14 then 0 else 2
   | some x => if x.2.2 = true then 2 else 1
theorem jod {w : World} {B A : Nat} {bs : List Nat} {ts : List Ty} {tv mv dv : Value} (h : Are w B A bs ts tv mv dv) {i : Nat} {t : Ty} (ht : ts[i]? = some t) (kb : Nat) (K T : Int) (s : ByteArray) (er : Int) (r : Option (List Mem)) (hrl : ∀ l,r = some l → l.length ≤ 100000) (hP : PieK A i w r) (hk : w.heap[kb]? = some (.cells (jbC A K s T er) TesT (0,0))) :
  Calls Tryz.prog 106 #[.pointer (some ⟨kb,0,none⟩), .int .i64 i] w fun e w' => e = .returned (.int .i64 (hasN t.kind r s)) ∧ Up w w':=by
 have HA:=Lib.hid (fun W (hW : Up w W) => jc6 (h.up hW) ht kb K T s er (hW.get hk))
 have HPC:=Lib.hid (fun W (hW : Up w W) => jh5 i kb A K T s er r hrl W (fun W' hW' => hP W' (hW.trans hW')) (hW.get hk))
 have HK:=Lib.hid hk
 obtain ⟨k,hkk⟩ : ∃ x,Hid (t.kind = x):=⟨_,rfl⟩
 rw [hkk.out]
 clear h ht hP hk hrl
 have hc : r = none ∨ (∃ l,r = some l ∧ hasM l s = none) ∨ (∃ l x,r = some l ∧ hasM l s = some x):=by
  cases r with
  | none => exact .inl rfl
  | some l =>
    cases hm : hasM l s with
    | none => exact .inr (.inl ⟨l,rfl,hm⟩)
    | some x => exact .inr (.inr ⟨l,x,rfl,hm⟩)
 rcases hc with rfl | ⟨l,rfl,hm⟩ | ⟨l,⟨nm,z,m⟩,rfl,hm⟩
 ·unfold pieR at HPC
  go_enter Tryz.func106,Tryz.ntmps106
  go_wp2_with (first | (go_at_call 159;refine (HPC.out _ (show Up w _ from uq)).mono ?_;rintro e w2 ⟨rfl,hu2⟩))
  all_goals go_ret
  all_goals exact ⟨rfl,uq⟩
 ·unfold pieR at HPC
  simp only [hm] at HPC
  have hh : hasN k (some l) s = if k = 14 then 0 else 2:=by unfold hasN;simp only [hm]
  rw [hh]
  clear hh
  clear hm
  go_enter Tryz.func106,Tryz.ntmps106
  go_wp2_with (first | (go_at_call 159;refine (HPC.out _ (show Up w _ from uq)).mono ?_;rintro e w2 ⟨rfl,hu2⟩) | (go_at_call 108;refine (HA.out _ (show Up w _ from uq)).mono ?_;rintro e w3 ⟨pa,pc,na,nc,ma,mc,rfl,hv2,hu3⟩;simp only [tyA,hkk.out];clear hv2))
  all_goals go_ret
  all_goals refine ⟨?_,uq⟩
  all_goals simp_all
 ·unfold pieR at HPC
  simp only [hm,pieV] at HPC
  have hh : hasN k (some l) s = if m = true then 2 else 1:=by unfold hasN;simp only [hm]
  rw [hh]
  clear hh
  clear hm
  cases m
  all_goals (
   go_enter Tryz.func106,Tryz.ntmps106
   go_wp2_with (first | (go_at_call 159;refine (HPC.out _ (show Up w _ from uq)).mono ?_;rintro e w2 ⟨rfl,hu2⟩))
   go_ret
   exact ⟨rfl,uq⟩)
end Go.Proofs.YtiaepldmgighbaaGreatDoor
