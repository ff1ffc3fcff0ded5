import Derived.WalkMore
import Derived.Test.YtiaepldmgighbaaGreatDoorU45
import Derived.Test.YtiaepldmgighbaaGreatDoorU43
import Derived.Test.YtiaepldmgighbaaGreatDoorU42
namespace Go.Proofs.YtiaepldmgighbaaGreatDoor
open Go.RowKit
set_option linter.unusedSimpArgs false
set_option linter.unusedVariables false
attribute [local go_sem] Oper.semAt_some
def jn4 (o : Obj) : Prop:=(∀ cs f,o ≠ .cells cs TyT f ∧ o ≠ .cells cs TpT f ∧ o ≠ .cells cs ArT f) ∧ ∀ es clk,o ≠ .map es clk
structure KeepO (W W' : World) : Prop where
 size : W.heap.size ≤ W'.heap.size
 same : ∀ (x : Nat) (o : Obj),W.heap[x]? = some o → jn4 o → W'.heap[x]? = some o
theorem KeepO.up {W W' : World} (h : Up W W') : KeepO W W':=⟨h.size,fun _ _ k _ => h.get k⟩
theorem KeepO.trans {A B C : World} (h : KeepO A B) (k : KeepO B C) : KeepO A C:=⟨Nat.le_trans h.size k.size,fun x o q1 q2 => k.same x o (h.same x o q1 q2) q2⟩
theorem jia {cs : Array Value} {T : TypeId} {f : Nat × Nat} (h : T ≠ TyT ∧ T ≠ TpT ∧ T ≠ ArT) : jn4 (.cells cs T f) :=
 ⟨fun cs' f' => ⟨(fun e => by injection e with _ e _;exact h.1 e),(fun e => by injection e with _ e _;exact h.2.1 e),(fun e => by injection e with _ e _;exact h.2.2 e)⟩,fun _ _ e => by cases e⟩
theorem jkX (d : Option (List Deferred)) : jn4 (.deferred d):=⟨fun _ _ => ⟨(fun e => by cases e),(fun e => by cases e),(fun e => by cases e)⟩,fun _ _ e => by cases e⟩
theorem KeepO.cells {W W' : World} (h : KeepO W W') {x : Nat} {cs : Array Value} {T : TypeId} {f : Nat × Nat} (hx : W.heap[x]? = some (.cells cs T f)) (hT : T ≠ TyT ∧ T ≠ TpT ∧ T ≠ ArT) : W'.heap[x]? = some (.cells cs T f):=h.same x _ hx (jia hT)
theorem Are.not_other {w : World} {B A : Nat} {bs : List Nat} {ts : List Ty} {tv mv dv : Value} (h : Are w B A bs ts tv mv dv) {x : Nat} {o : Obj} (hx : w.heap[x]? = some o) (ho : jn4 o) : ¬ arS A tv mv x:=by
 rintro (e | e | e)
 ·subst e
  rw [h.head] at hx
  cases hx
  exact (ho.1 _ _).2.2 rfl
 ·obtain ⟨cur,hc⟩:=jar h.row e
  rw [hc] at hx
  cases hx
  exact (ho.1 _ _).2.1 rfl
 ·rcases h.ids with ⟨h9,_⟩ | ⟨g,es,clk,h9,_,hm,_⟩
  ·rw [h9] at e;cases e
  ·rw [h9] at e
   cases e
   rw [hm] at hx
   cases hx
   exact ho.2 _ _ rfl
theorem KeepO.lay {w w' : World} {B A : Nat} {bs : List Nat} {ts : List Ty} {tv mv dv tv' mv' : Value} (h : Are w B A bs ts tv mv dv) (hL : LayM B A tv mv w w' tv' mv') : KeepO w w' :=
 ⟨hL.memo.size,fun x o hx ho => hL.memo.obj x o hx (fun cs f => (ho.1 cs f).1) (h.not_other hx ho)⟩
structure CI (M lb : Nat) (l : List Nat) (W : World) : Prop where
 row : ∃ v,W.heap[lb]? = some (.cells #[v] ISlT (0,0)) ∧ W.ownsRow 0 IntL 1 v l.length (l.map numV) ∧ ∀ g,v.ownBlock = some g → M ≤ g
 more : M ≤ W.heap.size
section
variable {M lb : Nat} {l : List Nat}
theorem CI.keep {W W' : World} (h : CI M lb l W) (k : KeepO W W') : CI M lb l W':=by
 obtain ⟨v,q1,q2,q3⟩:=h.row
 refine ⟨⟨v,k.cells q1 (by decide),ja8 q2 fun g hg => ?_,q3⟩,Nat.le_trans h.more k.size⟩
 obtain ⟨cur,hc⟩:=jar q2 hg
 rw [hc]
 exact k.cells hc (by decide)
theorem CI.on {W W' : World} (h : CI M lb l W) (k : Up W W') : CI M lb l W':=h.keep (.up k)
theorem CI.own {W W' : World} {row : Option Nat} (h : CI M lb l W) (hg : W.grownBy W' row) (hr : ∀ r,row = some r → M ≤ r ∧ ∃ o : Obj,W.heap[r]? = some o ∧ o.isCells = false) : CI M lb l W':=by
 obtain ⟨v,q1,q2,q3⟩:=h.row
 refine ⟨⟨v,jaI q1 hg hr,ja8 q2 fun g hg' => ?_,q3⟩,Nat.le_trans h.more hg.size⟩
 refine hg.block g (q2.lt g hg').2 fun e => ?_
 obtain ⟨_,o,ho,hoc⟩:=hr g e.symm
 obtain ⟨cur,hc⟩:=jar q2 hg'
 rw [hc] at ho
 cases ho
 cases hoc
theorem CI.push {W W' w7 : World} (hne : lb < M) (h : CI M lb l W) (hu : KeepO W W') {p : Nat} {v lv : Value} (hv : W.heap[lb]? = some (.cells #[v] ISlT (0,0))) (hrow : W.ownsRow 0 IntL 1 v l.length (l.map numV)) (hvM : ∀ g,v.ownBlock = some g → M ≤ g)
  (hown : w7.ownsRow 0 IntL 1 lv (l.length + 1) (l.map numV ++ [.int .i64 p])) (hg : (W'.alloc (.cells #[.int .i64 p] IntL)).grownBy w7 v.ownBlock) (hb : lv.ownBlock = v.ownBlock ∨ ∃ g',lv.ownBlock = some g' ∧ W'.heap.size + 1 ≤ g') :
  CI M lb (l ++ [p]) (w7.setCell ⟨lb,0,none⟩ lv) ∧ W'.heap.size ≤ (w7.setCell ⟨lb,0,none⟩ lv).heap.size ∧ (∀ (x : Nat) (o : Obj),x ≠ lb → v.ownBlock ≠ some x → W'.heap[x]? = some o → (w7.setCell ⟨lb,0,none⟩ lv).heap[x]? = some o):=by
 have hgs:=hg.size
 have hus:=hu.size
 simp only [gQw] at hgs
 have hat : ∀ (x : Nat) (o : Obj),x ≠ lb → v.ownBlock ≠ some x → W'.heap[x]? = some o → (w7.setCell ⟨lb,0,none⟩ lv).heap[x]? = some o:=fun x o h1 h2 h3 => by
  rw [ja2 h1]
  exact jan hg (jah h3) h2
 have hno : v.ownBlock ≠ some lb:=fun e => by
  have:=hvM lb e
  omega
 refine ⟨⟨⟨lv,?_,?_,fun g e => ?_⟩,?_⟩,by rw [jam];omega,hat⟩
 ·have:=ja6 (i:=0) (jan hg (jah (hu.cells hv (by decide))) hno) lv
  exact this
 ·rw [List.length_append,List.map_append]
  refine ja8 hown fun g e => ?_
  refine ja2 (fun e2 => ?_) _
  have hgm : M ≤ g:=by
   rcases hb with q | ⟨g',q,q2⟩
   ·exact hvM g (by rw [← q];exact e)
   ·rw [q] at e
    cases e
    have:=h.more
    omega
  omega
 ·rcases hb with q | ⟨g',q,q2⟩
  ·exact hvM g (by rw [← q];exact e)
  ·rw [q] at e
   cases e
   have:=h.more
   omega
 ·rw [jam]
  have:=h.more
  omega
end
def jbz {ps : List Nat} (pre : List (OneI ps)) : List Nat:=pre.map (·.1)
theorem jcl {ps : List Nat} (pre : List (OneI ps)) : (jbz pre).length = pre.length:=by unfold jbz;rw [List.length_map]
theorem jdL {ps : List Nat} (pre : List (OneI ps)) (y : OneI ps) : jbz (pre ++ [y]) = jbz pre ++ [y.1]:=by unfold jbz;rw [List.map_append];rfl
set_option maxRecDepth 100000
set_option maxHeartbeats 6400000
theorem jgD (ps : List Nat) (hl : ps.length ≤ 100000) (tb g : Nat) (w : World) (h : ISeqAt w tb g ps) :
  Calls Tryz.prog 186 #[.slice none 0 0, .func (.func jbR) #[] #[.pointer (some ⟨tb,0,none⟩)]] w fun e w' => ∃ v,e = .returned v ∧ w'.ownsRow 0 IntL 1 v ps.length (ps.map numV) ∧ Up w w':=by
 have HS:=Lib.hid h
 clear h
 refine callsIn_wide.1 (callsIn_of_wp_marks (n:=2) Tryz.func186 rfl trivial ?_)
 refine wpIn_wide.2 ?_
 simp only [Tryz.ntmps186,List.size_toArray,List.length_cons,List.length_nil,Nat.reduceAdd,Nat.reduceSub,Array.replicate_succ,Array.replicate_zero,List.push_toArray,List.append_toArray,List.nil_append,List.cons_append]
 go_wp2_with fail
 refine ja4 fun A2 W2 hA2 hW2 => ?_
 have hu0 : Hid (Up w W2):=by subst hW2;exact uq
 obtain ⟨sb,hsb⟩ : ∃ q,Hid (w.heap.size = q):=⟨_,rfl⟩
 have HB : Hid (W2.heap[sb]? = some (.cells #[.slice none 0 0] ISlT (0,0))):=by subst hW2;rw [← hsb.out];exact ja9 _ _
 rw [hsb.out] at hA2
 have hseq : Hid (ISeqAt W2 tb g ps):=HS.out.up hu0.out
 clear hW2
 refine (wpIn_wide (n:=2)).1 ?_
 refine wpIn_rangeFunc_ownG rfl (by omega) (gf:=jbR) (lb := #[.pointer (some ⟨tb,0,none⟩)]) (by subst hA2;rfl) trivial (enters_of Tryz.func155 (by kernel_rfl) rfl)
  (jdz tb ps (by omega) W2 g hseq.out) TwoKeep.trans (fun W l o o' _ h1 h2 _ => TwoKeep.putObj _ W l o o' h1 h2) (Below.refl _ _) (fun _ => rfl)
  (fun (pre : List (OneI ps)) W => Up w W ∧ CI W2.heap.size sb (jbz pre) W) (fun _ _ _ => False)
  (fun pre0 X Y row hs hg hr => ⟨Up.grown (W:=X) hs.1 hg (fun r e => Nat.le_trans hu0.out.size (hr r e).1),hs.2.own hg hr⟩) (fun _ _ _ _ _ h _ _ => h) ⟨hu0.out,⟨_,HB.out,⟨rfl, .inl ⟨rfl,rfl⟩⟩,fun g hg => by simp [Value.ownBlock] at hg⟩,Nat.le_refl _⟩
  (fun (y : OneI ps) => { tmps:=(A2.tmps.setIfInBounds 7 (.int .i64 y.1)).setIfInBounds 5 (.int .i64 y.1),defers := [] }) ?assign ?body ?done ?stop
 case assign => intro l y W K hK;subst hA2;gi_wp2;simpa [numV] using hK
 case body =>
  rintro l pre ⟨y,hy⟩ W ⟨hup,hI⟩ hpl
  obtain ⟨v,hv,hrow,hvM⟩:=hI.row
  obtain ⟨va,vcap,rfl⟩:=ja7 hrow
  have HI:=Lib.hid (And.intro hup (And.intro hI (And.intro hv (And.intro hrow hvM))))
  obtain ⟨nn,hn⟩ : ∃ nn,Hid ((jbz pre).length = nn):=⟨_,rfl⟩
  have hnb : nn ≤ 100000:=by have h1:=hn.out;rw [jcl] at h1;omega
  obtain ⟨vs,hvs⟩ : ∃ vs,Hid ((jbz pre).map numV = vs):=⟨_,rfl⟩
  rw [hn.out,hvs.out] at hrow
  rw [hn.out] at hv
  have HR:=Lib.hid hrow
  have HV:=Lib.hid hv
  have b4:=ja1 hv 0
  have f4:=jab hv 0
  have l4:=ja0 hv
  simp only [gQa,gQz,gQs] at b4
  clear hup hI hv hrow hvM
  subst hA2
  simp only [List.setIfInBounds_toArray,List.set_cons_succ,List.set_cons_zero]
  have HZ : Hid ((Value.slice va nn vcap).ownBlock ≠ some sb):=fun e => by
   obtain ⟨cur,hc⟩:=jar HR.out e
   rw [HV.out] at hc
   injection hc with hc
   injection hc with _ hc _
   exact absurd hc (by decide)
  obtain ⟨i0,hi,hz0,hz1,hz2⟩:=info_parts jgr
  gi_wp2_with (gi_at_builtin;go_must (refine jaB rfl _ _ 43 rfl IntL i0 (.int .i64 0) 1 8 Tryz.underlying43 hi hz0 hz1 hz2 rfl (by decide) (.slice va nn vcap) nn vs rfl (ja5 HR.out uq) _ 1 1 rfl (by first | rfl | (simp;done) | omega) rfl (by intro u hu;have hu2 : u = .int .i64 y:=(by simpa using hu);rw [hu2];rfl) (by unfold maxLen;omega) (by omega) ?_;intro sa' cap' w7 hown' hgrow hblk;have hd:=Lib.hid (jan hgrow (Up.get (w:=W) uq HV.out) HZ.out);have b4:=ja1 hd.out 0;have f4:=jab hd.out 0;have l4:=ja0 hd.out;simp only [gQa,gQz,gQs] at b4;have HY7:=Lib.hid (And.intro hown' (And.intro hgrow hblk));clear hown' hgrow hblk))
  have hn9:=hn.out
  have hv9:=hvs.out
  subst hn9 hv9
  have hlt : sb < W2.heap.size:=ja0 HB.out
  obtain ⟨q1,q2,q3⟩:=HI.out.2.1.push (p:=y) hlt (KeepO.up (Up.refl W)) HI.out.2.2.1 HI.out.2.2.2.1 HI.out.2.2.2.2 HY7.out.1 HY7.out.2.1 HY7.out.2.2
  have hw:=hu0.out.size
  have hne : ∀ x,x = tb ∨ x = g → x < w.heap.size:=by
   obtain ⟨off,cap,cs,T,fz,r1,r2,_⟩:=HS.out
   rintro x (rfl | rfl)
   ·exact ja0 r1
   ·exact ja0 r2
  have hs9:=hsb.out
  refine ⟨⟨q2,fun k o hk ho hoc => q3 k o (by omega) (fun e => ?_) ho⟩,⟨q2,fun x o hx ho hoc => q3 x o (by have:=hne x hx;omega) (fun e => ?_) ho⟩,?_,by rw [jdL];exact q1⟩
  ·obtain ⟨cur,hc⟩:=jar HI.out.2.2.2.1 e
   rw [hc] at ho
   cases ho
   cases hoc
  ·have:=HI.out.2.2.2.2 x e
   have:=hne x hx
   omega
  ·exact ((HI.out.1.trans (Up.alloc (Up.refl W) (.cells #[.int .i64 y] IntL))).grown HY7.out.2.1 (fun r e => Nat.le_trans hw (HI.out.2.2.2.2 r e))).setCell (show w.heap.size ≤ sb by omega) _
 case done =>
  rintro D zs W hD hzs ⟨hup,hI⟩ hK
  have hzs : jbz zs = ps:=hzs
  rw [hzs] at hI
  obtain ⟨v,hv,hrow,hvM⟩:=hI.row
  have HI:=Lib.hid (And.intro hup (And.intro hv hrow))
  have b4:=ja1 hv 0
  have l4:=ja0 hv
  simp only [gQa,gQz,gQs] at b4
  clear hup hI hv hrow hvM
  subst hA2
  go_wp2_with fail
  refine ⟨by simp, .inl ⟨_,_,rfl,run_takeDeferred hK,?_⟩⟩
  refine ⟨v,by simp [results,Tryz.results186,go_sem],?_⟩
  refine ⟨v,rfl,ja8 HI.out.2.2 fun g' hg' => World.putObj_heap_other (fun e => ?_),Up.grown (W:=W) HI.out.1 (grownBy_putObj' _ D _) (fun r e => by cases e;exact Nat.le_trans hu0.out.size hD)⟩
  obtain ⟨cur,hc⟩:=jar HI.out.2.2 hg'
  rw [e,hK] at hc
  cases hc
 case stop => rintro D c pre W hD hSp h hK;exact h.elim
theorem jiw (ps : List Nat) (hl : ps.length ≤ 100000) (tb g : Nat) (w : World) (h : ISeqAt w tb g ps) :
  Calls Tryz.prog 160 #[.func (.func jbR) #[] #[.pointer (some ⟨tb,0,none⟩)]] w fun e w' => ∃ v,e = .returned v ∧ w'.ownsRow 0 IntL 1 v ps.length (ps.map numV) ∧ Up w w':=by
 have HS:=Lib.hid h
 clear h
 go_enter Tryz.func160,Tryz.ntmps160
 go_wp2_with (first | (go_at_call 186;refine (jgD ps hl tb g _ (HS.out.up uq)).mono ?_;rintro e w2 ⟨v,rfl,hr,hu2⟩;have HR:=Lib.hid hr;clear hr))
 go_ret
 exact ⟨v,rfl,HR.out,uq⟩
end Go.Proofs.YtiaepldmgighbaaGreatDoor
namespace Go.Proofs.YtiaepldmgighbaaGreatDoor
open Go.RowKit
set_option linter.unusedSimpArgs false
set_option linter.unusedVariables false
set_option maxRecDepth 100000
set_option maxHeartbeats 4000000
theorem jl3 (k : Int) (hk : k = 5 ∨ k = 7 ∨ k = 8 ∨ k = 9 ∨ k = 10) (pa : Option Addr) (pcap : Nat) (w : World) :
  Calls Tryz.prog 56 #[typV k 0 ⟨#[]⟩ (.slice none 0 0) (.slice none 0 0) (.slice none 0 0), .slice pa 0 pcap] w fun e w' => e = .returned (.bool true) ∧ Up w w':=by
 rcases hk with rfl | rfl | rfl | rfl | rfl
 all_goals (
  go_enter Tryz.func56,Tryz.ntmps56
  go_wp2_with fail
  (try go_quiet (fail))
  (try go_wp2_with fail)
  go_ret
  exact ⟨rfl,uq⟩)
def AddQ (dv : Value) (w0 w : World) (A : Nat) (bs : List Nat) (ts : List Ty) (tv mv : Value) (c : Ty) (n i : Nat) (w' : World) : Prop :=
 ∃ (bs' : List Nat) (ts' : List Ty) (tv' mv' : Value) (x : Ty),Sta w0 w' A (bs ++ bs') (ts ++ ts') tv' mv' dv ∧ LayM w0.heap.size A tv mv w w' tv' mv' ∧ bs'.length ≤ n ∧ (ts ++ ts')[i]? = some x ∧ x.canon = c ∧ x.nodes ≤ c.nodes
theorem AddQ.of {w0 W W' w' : World} {A : Nat} {bs : List Nat} {ts : List Ty} {tv mv dv : Value} (h : Sta w0 W' A bs ts tv mv dv) (hu : Up W W') {c : Ty} (h5 : c.nodes ≤ 500) {e : Ending} (hR : UniR w0.heap.size A bs ts tv mv dv W' c e w') : ∃ i : Nat,e = .returned (.tuple #[.int .i64 i, .int .i64 0]) ∧ AddQ dv w0 W A bs ts tv mv c c.nodes i w':=by
 obtain ⟨u,w2,hv,hc,hm,hK⟩:=hR
 have hun : u.nodes = c.nodes:=by rw [← Ty.nodes_canon,hc]
 obtain ⟨i,bs',ts',tv',mv',x,rfl,k1,k2,k3,k4,k5,k6,k7⟩:=hK.done hv (by omega)
 have hL:=(LayM.of_memo hm).trans k2
 exact ⟨i,rfl,bs',ts',tv',mv',x,h.step k1 hL,(LayM.of_memo (Memo.of_up jag _ hu)).trans hL,by omega,k4,k6.trans hc,by omega⟩
theorem jk4 {w0 W : World} {A : Nat} {bs : List Nat} {ts : List Ty} {tv mv dv : Value} (h : Sta w0 W A bs ts tv mv dv) (hb : bs.length ≤ 100000) {k : Int} (hk : k = 5 ∨ k = 7 ∨ k = 8 ∨ k = 9 ∨ k = 10) {m : Int} (hm : w0.cell? ⟨0,0,none⟩ = some (.int .i64 m)) :
  Calls Tryz.prog 25 #[.pointer (some ⟨A,0,none⟩),typV k 0 ⟨#[]⟩ (.slice none 0 0) (.slice none 0 0) (.slice none 0 0)] W fun e w' => ∃ i : Nat,e = .returned (.tuple #[.int .i64 i, .int .i64 0]) ∧ AddQ dv w0 W A bs ts tv mv (ja3 k) 1 i w':=by
 have hmW:=(h.up.cells _ _ (jaj hm)).trans hm
 have hcv : CV (ja3 k):=CV.basic (by omega) (by omega)
 have hn : (ja3 k).nodes = 1:=by unfold ja3;rw [Ty.nodes_mk];rfl
 refine (jjn False (fun _ => True) w0.heap.size A bs ts tv mv dv [] [] none 0 k 0 ⟨#[]⟩ (.slice none 0 0) (.slice none 0 0) [] [] m W ⟨h.are,(fun j z hj => by simp at hj),rfl,⟨(fun t ht => by cases ht),(fun t ht => by cases ht),by simp,by simp⟩,h.glob,by omega,RowV.nil _ _,RowV.nil _ _,by simp,by simp,(fun s hs => by cases hs),by decide,hmW⟩ (fun W' vv hW hr => ?_)).mono ?_
 ·obtain ⟨sa,cap,rfl⟩:=ja7 hr
  refine (jl3 k hk sa cap W').mono ?_
  rintro e w' ⟨rfl,hu⟩
  exact ⟨⟨true,rfl,fun _ => hcv.valid,fun e => by cases e⟩,hu⟩
 ·rintro e w' (⟨h0,_⟩ | ⟨hvv,w2,hm2,hK⟩)
  ·exact h0.elim
  ·have:=AddQ.of h (Up.refl _) (c:=ja3 k) (by omega) ⟨_,w2,hvv,hcv.same,hm2,hK⟩
   rw [hn] at this
   exact this
theorem jfE {w0 w : World} {A : Nat} {bs : List Nat} {ts : List Ty} {tv mv dv : Value} (h : Sta w0 w A bs ts tv mv dv) (hb : bs.length ≤ 100000) {k : Int} (hkk : k = 5 ∨ k = 7 ∨ k = 8 ∨ k = 9 ∨ k = 10) {m : Int} (hm : w0.cell? ⟨0,0,none⟩ = some (.int .i64 m)) (kb : Nat) (K T : Int) (s : ByteArray) (er : Int) (hk : w.heap[kb]? = some (.cells (jbC A K s T er) TesT (0,0))) :
  Calls Tryz.prog 109 #[.pointer (some ⟨kb,0,none⟩), .int .i64 k] w fun e w' => ∃ i : Nat,e = .returned (.int .i64 i) ∧ AddQ dv w0 w A bs ts tv mv (ja3 k) 1 i w':=by
 have HF:=Lib.hid (fun W (hW : Up w W) => jk4 (h.later hW) hb hkk hm)
 obtain ⟨b0,g0,b1,g1,b2,g2,b3,g3,b4,g4,b9⟩:=uc5 hk;clear hk
 clear h hb hkk hm
 go_enter Tryz.func109,Tryz.ntmps109
 go_wp2_with (first | (go_at_call 25;refine (HF.out _ (show Up w _ from uq)).mono ?_;rintro e w2 ⟨i,rfl,hq⟩))
 go_ret
 obtain ⟨bs',ts',tv',mv',x,q1,q2,q3⟩:=hq
 exact ⟨i,rfl,bs',ts',tv',mv',x,q1,(LayM.of_memo (Memo.of_up jag _ (show Up w _ from uq))).trans q2,q3⟩
theorem AddQ.mono {w0 w : World} {A : Nat} {bs : List Nat} {ts : List Ty} {tv mv dv : Value} {c : Ty} {n n' i : Nat} {w' : World} (h : AddQ dv w0 w A bs ts tv mv c n i w') (k : n ≤ n') : AddQ dv w0 w A bs ts tv mv c n' i w' :=
 let ⟨bs',ts',tv',mv',x,q1,q2,q3,q4⟩:=h; ⟨bs',ts',tv',mv',x,q1,q2,Nat.le_trans q3 k,q4⟩
theorem AddQ.later {w0 w : World} {A : Nat} {bs : List Nat} {ts : List Ty} {tv mv dv : Value} {c : Ty} {n i : Nat} {w' w2 : World} (h : AddQ dv w0 w A bs ts tv mv c n i w') (k : Up w' w2) : AddQ dv w0 w A bs ts tv mv c n i w2 :=
 let ⟨bs',ts',tv',mv',x,q1,q2,q3,q4⟩:=h; ⟨bs',ts',tv',mv',x,q1.later k,q2.trans (LayM.of_memo (Memo.of_up jag _ k)),q3,q4⟩
theorem AddQ.from_ {w0 w W : World} {A : Nat} {bs : List Nat} {ts : List Ty} {tv mv dv : Value} {c : Ty} {n i : Nat} {w' : World} (h : AddQ dv w0 W A bs ts tv mv c n i w') (k : Up w W) : AddQ dv w0 w A bs ts tv mv c n i w' :=
 let ⟨bs',ts',tv',mv',x,q1,q2,q3,q4⟩:=h; ⟨bs',ts',tv',mv',x,q1,(LayM.of_memo (Memo.of_up jag _ k)).trans q2,q3,q4⟩
theorem AddQ.there {w0 w w' : World} {A : Nat} {bs : List Nat} {ts : List Ty} {tv mv dv : Value} (h : Sta w0 w A bs ts tv mv dv) (k : Up w w') {i : Nat} {x c : Ty} (hx : ts[i]? = some x) (hc : x.canon = c) (n : Nat) : AddQ dv w0 w A bs ts tv mv c n i w' :=
 ⟨[],[],tv,mv,x,by rw [List.append_nil,List.append_nil];exact h.later k,LayM.of_memo (Memo.of_up jag _ k),Nat.zero_le _,by rw [List.append_nil];exact hx,hc,by rw [← hc,Ty.nodes_canon];exact Nat.le_refl _⟩
theorem AddQ.two {w0 w : World} {A : Nat} {bs : List Nat} {ts : List Ty} {tv mv dv : Value} {c d : Ty} {n m i j : Nat} {w1 w2 : World} (h : AddQ dv w0 w A bs ts tv mv c n i w1) (k : ∀ (bs' : List Nat) (ts' : List Ty) (tv' mv' : Value),Sta w0 w1 A (bs ++ bs') (ts ++ ts') tv' mv' dv → bs'.length ≤ n → AddQ dv w0 w1 A (bs ++ bs') (ts ++ ts') tv' mv' d m j w2) :
  ∃ (bs' : List Nat) (ts' : List Ty) (tv' mv' : Value) (x y : Ty),Sta w0 w2 A (bs ++ bs') (ts ++ ts') tv' mv' dv ∧ LayM w0.heap.size A tv mv w w2 tv' mv' ∧ bs'.length ≤ n + m ∧ (ts ++ ts')[i]? = some x ∧ x.canon = c ∧ x.nodes ≤ c.nodes ∧ (ts ++ ts')[j]? = some y ∧ y.canon = d ∧ y.nodes ≤ d.nodes:=by
 obtain ⟨bs1,ts1,tv1,mv1,x,q1,q2,q3,q4,q5,q6⟩:=h
 obtain ⟨bs2,ts2,tv2,mv2,y,r1,r2,r3,r4,r5,r6⟩:=k bs1 ts1 tv1 mv1 q1 q3
 rw [List.append_assoc,List.append_assoc] at r1
 rw [List.append_assoc] at r4
 refine ⟨bs1 ++ bs2,ts1 ++ ts2,tv2,mv2,x,y,r1,q2.trans r2,by rw [List.length_append];omega,?_,q5,q6,r4,r5,r6⟩
 rw [← List.append_assoc]
 exact more q4
theorem AddQ.keep {dv : Value} {w0 w : World} {A : Nat} {bs : List Nat} {ts : List Ty} {tv mv : Value} {c : Ty} {n i : Nat} {w' : World} (h : AddQ dv w0 w A bs ts tv mv c n i w') (hS : Sta w0 w A bs ts tv mv dv) : KeepO w w' :=
 let ⟨_,_,_,_,_,_,q2,_⟩:=h;KeepO.lay hS.are q2
theorem jg5 : (jal [ja3 9,ja3 10]).nodes ≤ 3:=by
 have hb : ∀ k : Int,(ja3 k).nodes = 1:=fun k => by unfold ja3;rw [Ty.nodes_mk];rfl
 have:=jbb [ja3 9,ja3 10]
 simp only [List.map_cons,List.map_nil,List.sum_cons,List.sum_nil,hb] at this
 omega
theorem jgA (k : Int) : (ja3 k).nodes = 1:=by unfold ja3;rw [Ty.nodes_mk];rfl
theorem jke {dv : Value} {w0 w w3 w4 : World} {A j9 j10 : Nat} {bs bs1 : List Nat} {ts ts1 : List Ty} {tv mv tv1 mv1 : Value} {x9 : Ty} (hb : bs.length ≤ 99000) (q1 : Sta w0 w3 A (bs ++ bs1) (ts ++ ts1) tv1 mv1 dv) (q2 : LayM w0.heap.size A tv mv w w3 tv1 mv1) (q3 : bs1.length ≤ 1) (q4 : (ts ++ ts1)[j9]? = some x9 ∧ x9.canon = ja3 9 ∧ x9.nodes ≤ (ja3 9).nodes) (h10 : AddQ dv w0 w3 A (bs ++ bs1) (ts ++ ts1) tv1 mv1 (ja3 10) 1 j10 w4) (f : Nat × Nat) :
  Calls Tryz.prog 24 #[.pointer (some ⟨A,0,none⟩), .slice (some ⟨w4.heap.size,0,none⟩) 2 2] (w4.alloc (.cells #[.int .i64 j9, .int .i64 j10] IntL f)) fun e w5 => ∃ i5 : Nat,e = .returned (.tuple #[.int .i64 i5, .int .i64 0]) ∧ AddQ dv w0 w A bs ts tv mv (jal [ja3 9,ja3 10]) 10 i5 w5:=by
 obtain ⟨bs2,ts2,tv2,mv2,x10,r1,r2,r3,r4,r5,r6⟩:=h10
 obtain ⟨q4,q5,q6⟩:=q4
 rw [jgA] at q6 r6
 have hu : Up w4 (w4.alloc (.cells #[.int .i64 j9, .int .i64 j10] IntL f)):=uq
 have h':=r1.later hu
 have hz : ([j9,j10] : List Nat).map (fun z => ((ts ++ ts1) ++ ts2)[z]?) = ([x9,x10] : List Ty).map some:=by
  simp only [List.map_cons,List.map_nil]
  rw [more (r:=ts2) q4,r4]
 have hs : sumN [x9,x10] ≤ 2:=by simp only [sumN,List.map_cons,List.map_nil,List.sum_cons,List.sum_nil];omega
 refine (jer w0.heap.size A _ _ tv2 mv2 dv [j9,j10] [x9,x10] _ 2 _ h'.are (jll w4 [j9,j10] f) hz (jj7 h'.are hz (by omega)) h'.glob (by simp only [List.length_append];omega)).mono ?_
 intro e w5 hR
 have hc : ([x9,x10] : List Ty).map Ty.canon = [ja3 9,ja3 10]:=by simp only [List.map_cons,List.map_nil,q5,r5]
 rw [hc] at hR
 obtain ⟨i5,rfl,bs3,ts3,tv3,mv3,y,s1,s2,s3,s4,s5,s6⟩:=AddQ.of h' hu (Nat.le_trans jg5 (by decide)) hR
 refine ⟨i5,rfl,bs1 ++ (bs2 ++ bs3),ts1 ++ (ts2 ++ ts3),tv3,mv3,y,?_,(q2.trans r2).trans s2,?_,?_,s5,s6⟩
 ·simpa only [List.append_assoc] using s1
 ·have:=jg5
  simp only [List.length_append]
  generalize (jal [ja3 9,ja3 10]).nodes = z at s3 this
  omega
 ·simpa only [List.append_assoc] using s4
def InsQ (dv : Value) (w0 w : World) (A : Nat) (bs : List Nat) (ts : List Ty) (tv mv : Value) (c : Ty) (unk : Prop) (e : Ending) (w' : World) : Prop := ∃ i : Nat,e = .returned (.int .i64 i) ∧ AddQ dv w0 w A bs ts tv mv c 10 i w' ∧ (Up w w' ∨ unk)
theorem je9 {w0 w : World} {A : Nat} {bs : List Nat} {ts : List Ty} {tv mv dv : Value} (h : Sta w0 w A bs ts tv mv dv) {i : Nat} {t : Ty} (ht : ts[i]? = some t) (kb : Nat) (K T : Int) (s : ByteArray) (er : Int) (hk : w.heap[kb]? = some (.cells (jbC A K s T er) TesT (0,0))) (hK : (K = 1 ∧ t.kind ≠ 2) ∨ K = 3 ∨ K = 4 ∨ K = 5) (unk : Prop) :
  Calls Tryz.prog 68 #[.pointer (some ⟨kb,0,none⟩), .int .i64 i] w (InsQ dv w0 w A bs ts tv mv t.canon unk):=by
 have HA:=Lib.hid (fun W (hW : Up w W) => jc6 (h.are.up hW) ht kb K T s er (hW.get hk))
 have HK:=Lib.hid hk
 have HS:=Lib.hid (And.intro h ht)
 obtain ⟨k,hkk⟩ : ∃ x,Hid (t.kind = x):=⟨_,rfl⟩
 rw [hkk.out] at hK
 clear h ht hk
 rcases hK with ⟨rfl,hk2⟩ | rfl | rfl | rfl
 ·have hk3 : (k == 2) = false:=by simp [hk2]
  clear hk2
  go_enter Tryz.func68,Tryz.ntmps68
  go_wp2_with (first
   | (go_at_call 108;refine (HA.out _ (show Up w _ from uq)).mono ?_;rintro e w2 ⟨pa,pc,na,nc,ma,mc,rfl,hv2,hu2⟩;have hk2:=(show Up w w2 from uq).get HK.out;obtain ⟨b0,g0,b1,g1,b2,g2,b3,g3,b4,g4,b9⟩:=uc5 hk2;clear hk2;simp only [tyA,hkk.out];clear hv2))
  all_goals go_ret
  all_goals exact ⟨i,rfl,AddQ.there HS.out.1 (show Up w _ from uq) HS.out.2 rfl _, .inl (show Up w _ from uq)⟩
 all_goals (
  go_enter Tryz.func68,Tryz.ntmps68
  go_wp2_with (first
   | (go_at_call 108;refine (HA.out _ (show Up w _ from uq)).mono ?_;rintro e w2 ⟨pa,pc,na,nc,ma,mc,rfl,hv2,hu2⟩;have hk2:=(show Up w w2 from uq).get HK.out;obtain ⟨b0,g0,b1,g1,b2,g2,b3,g3,b4,g4,b9⟩:=uc5 hk2;clear hk2;simp only [tyA,hkk.out];clear hv2))
  all_goals go_ret
  all_goals exact ⟨i,rfl,AddQ.there HS.out.1 (show Up w _ from uq) HS.out.2 rfl _, .inl (show Up w _ from uq)⟩)
set_option maxHeartbeats 6400000
theorem jf1 {w0 w : World} {A : Nat} {bs : List Nat} {ts : List Ty} {tv mv dv : Value} (h : Sta w0 w A bs ts tv mv dv) (hb : bs.length ≤ 99000) {i : Nat} {t : Ty} (ht : ts[i]? = some t) (kb : Nat) (T : Int) (s : ByteArray) (er : Int) (hk : w.heap[kb]? = some (.cells (jbC A 1 s T er) TesT (0,0))) (hk2 : t.kind = 2) {m : Int} (hm : w0.cell? ⟨0,0,none⟩ = some (.int .i64 m)) :
  Calls Tryz.prog 68 #[.pointer (some ⟨kb,0,none⟩), .int .i64 i] w (InsQ dv w0 w A bs ts tv mv (jbd s.toList t.canon) (t.kind = 2)):=by
 have HA:=Lib.hid (fun W (hW : Up w W) => jc6 (h.are.up hW) ht kb 1 T s er (hW.get hk))
 have HK:=Lib.hid hk
 have HS:=Lib.hid (And.intro h (And.intro ht (And.intro hb (And.intro hm hk2))))
 have HBA:=Lib.hid (fun (k : Int) (hkk : k = 5 ∨ k = 7 ∨ k = 8 ∨ k = 9 ∨ k = 10) W (hW : Up w W) => jfE (h.later hW) (Nat.le_trans hb (by decide)) hkk hm kb 1 T s er (hW.get hk))
 have hkk:=Lib.hid hk2
 clear h ht hk hk2 hb hm
 by_cases s1 : s.toList = jnY
 ·have e : jbd s.toList t.canon = ja3 7:=by unfold jbd;rw [if_pos s1]
  have q1 : (s.toList == [110,117,109,98,101,114]) = true:=by rw [s1];rfl
  rw [e]
  clear s1 e
  go_enter Tryz.func68,Tryz.ntmps68
  go_wp2_with (first
   | (go_at_call 108;refine (HA.out _ (show Up w _ from uq)).mono ?_;rintro e w2 ⟨pa,pc,na,nc,ma,mc,rfl,hv2,hu2⟩;have hk2:=(show Up w w2 from uq).get HK.out;obtain ⟨b0,g0,b1,g1,b2,g2,b3,g3,b4,g4,b9⟩:=uc5 hk2;clear hk2;simp only [tyA,hkk.out];clear hv2)
   | (go_at_call 109;refine (HBA.out 7 (by decide) _ (show Up w _ from uq)).mono ?_;rintro e w3 ⟨j,rfl,hq⟩;have HQ:=Lib.hid (hq.from_ (show Up w _ from uq));clear hq))
  go_ret
  exact ⟨j,rfl,HQ.out.mono (by decide), .inr HS.out.2.2.2.2⟩
 have q1 : (s.toList == [110,117,109,98,101,114]) = false:=by simpa using s1
 by_cases s2 : s.toList = jnI
 ·have e : jbd s.toList t.canon = ja3 8:=by unfold jbd;rw [if_neg s1,if_pos s2]
  have q2 : (s.toList == [115,116,114,105,110,103]) = true:=by rw [s2];rfl
  rw [e]
  clear s1 s2 e
  go_enter Tryz.func68,Tryz.ntmps68
  go_wp2_with (first
   | (go_at_call 108;refine (HA.out _ (show Up w _ from uq)).mono ?_;rintro e w2 ⟨pa,pc,na,nc,ma,mc,rfl,hv2,hu2⟩;have hk2:=(show Up w w2 from uq).get HK.out;obtain ⟨b0,g0,b1,g1,b2,g2,b3,g3,b4,g4,b9⟩:=uc5 hk2;clear hk2;simp only [tyA,hkk.out];clear hv2)
   | (go_at_call 109;refine (HBA.out 8 (by decide) _ (show Up w _ from uq)).mono ?_;rintro e w3 ⟨j,rfl,hq⟩;have HQ:=Lib.hid (hq.from_ (show Up w _ from uq));clear hq))
  go_ret
  exact ⟨j,rfl,HQ.out.mono (by decide), .inr HS.out.2.2.2.2⟩
 have q2 : (s.toList == [115,116,114,105,110,103]) = false:=by simpa using s2
 by_cases s3 : s.toList = jor
 ·have e : jbd s.toList t.canon = jal [ja3 9,ja3 10]:=by unfold jbd;rw [if_neg s1,if_neg s2,if_pos s3]
  have q3 : (s.toList == [98,111,111,108,101,97,110]) = true:=by rw [s3];rfl
  rw [e]
  clear s1 s2 s3 e
  go_enter Tryz.func68,Tryz.ntmps68
  go_wp2_with (first
   | (go_at_call 108;refine (HA.out _ (show Up w _ from uq)).mono ?_;rintro e w2 ⟨pa,pc,na,nc,ma,mc,rfl,hv2,hu2⟩;have hk2:=(show Up w w2 from uq).get HK.out;obtain ⟨b0,g0,b1,g1,b2,g2,b3,g3,b4,g4,b9⟩:=uc5 hk2;clear hk2;simp only [tyA,hkk.out];clear hv2))
  have HU2:=Lib.hid (show Up w w2 from uq)
  have HSK : Hid (∀ X : World,KeepO w X → X.cell? ⟨kb,0,none⟩ = some (.pointer (some ⟨A,0,none⟩))):=fun X hX => ja1 (hX.cells HK.out (by decide)) 0
  clear b1 b2 b3 b4 g0 g1 g2 g3 g4
  go_region_held3 (fun X => X.cell? ⟨kb,0,none⟩ = some (.pointer (some ⟨A,0,none⟩))) (exact HSK.out _ (by first | exact K5.out | exact K4.out.trans (KeepO.up (show Up w4 _ from uq)) | exact K3.out.trans (KeepO.up (show Up w3 _ from uq)) | exact KeepO.up (HU2.out.trans (show Up w2 _ from uq)))) (first
   | (go_at_call 109;first
     | (obtain ⟨bs1,ts1,tv1,mv1,x9,q1,q2,q3,q4⟩:=HQ9.out;have HX9:=Lib.hid (And.intro q1 (And.intro q2 (And.intro q3 q4)));clear q1 q2 q3 q4;refine (jfE (k:=10) (HX9.out.1.later (show Up w3 _ from uq)) (by rw [List.length_append];have:=HS.out.2.2.1;have:=HX9.out.2.2.1;omega) (.inr (.inr (.inr (.inr rfl)))) HS.out.2.2.2.1 kb 1 T s er ((show Up w3 _ from uq).get (K3.out.cells HK.out (by decide)))).mono ?_;rintro e w4 ⟨j10,rfl,hq10⟩;have HQ10:=Lib.hid (hq10.from_ (show Up w3 _ from uq));have K4:=Lib.hid (K3.out.trans (HQ10.out.keep HX9.out.1));clear hq10)
     | (refine (HBA.out 9 (.inr (.inr (.inr (.inl rfl)))) _ (HU2.out.trans (show Up w2 _ from uq))).mono ?_;rintro e w3 ⟨j9,rfl,hq9⟩;have HQ9:=Lib.hid (hq9.from_ (HU2.out.trans (show Up w2 _ from uq)));have K3:=Lib.hid (HQ9.out.keep HS.out.1);clear hq9))
   | (go_at_call 24;refine (jke HS.out.2.2.1 HX9.out.1 HX9.out.2.1 HX9.out.2.2.1 HX9.out.2.2.2 HQ10.out _).mono ?_;rintro e w5 ⟨i5,rfl,hq5⟩;have HQ5:=Lib.hid hq5;have K5:=Lib.hid (hq5.keep HS.out.1);clear hq5))
  go_wp2_with fail
  go_ret
  exact ⟨i5,rfl,HQ5.out, .inr HS.out.2.2.2.2⟩
 have q3 : (s.toList == [98,111,111,108,101,97,110]) = false:=by simpa using s3
 by_cases s4 : s.toList = jnB
 ·have e : jbd s.toList t.canon = ja3 5:=by unfold jbd;rw [if_neg s1,if_neg s2,if_neg s3,if_pos s4]
  have q4 : (s.toList == [117,110,100,101,102,105,110,101,100]) = true:=by rw [s4];rfl
  rw [e]
  clear s1 s2 s3 s4 e
  go_enter Tryz.func68,Tryz.ntmps68
  go_wp2_with (first
   | (go_at_call 108;refine (HA.out _ (show Up w _ from uq)).mono ?_;rintro e w2 ⟨pa,pc,na,nc,ma,mc,rfl,hv2,hu2⟩;have hk2:=(show Up w w2 from uq).get HK.out;obtain ⟨b0,g0,b1,g1,b2,g2,b3,g3,b4,g4,b9⟩:=uc5 hk2;clear hk2;simp only [tyA,hkk.out];clear hv2)
   | (go_at_call 109;refine (HBA.out 5 (by decide) _ (show Up w _ from uq)).mono ?_;rintro e w3 ⟨j,rfl,hq⟩;have HQ:=Lib.hid (hq.from_ (show Up w _ from uq));clear hq))
  go_ret
  exact ⟨j,rfl,HQ.out.mono (by decide), .inr HS.out.2.2.2.2⟩
 have q4 : (s.toList == [117,110,100,101,102,105,110,101,100]) = false:=by simpa using s4
 have e : jbd s.toList t.canon = t.canon:=by unfold jbd;rw [if_neg s1,if_neg s2,if_neg s3,if_neg s4]
 rw [e]
 clear s1 s2 s3 s4 e
 go_enter Tryz.func68,Tryz.ntmps68
 go_wp2_with (first
  | (go_at_call 108;refine (HA.out _ (show Up w _ from uq)).mono ?_;rintro e w2 ⟨pa,pc,na,nc,ma,mc,rfl,hv2,hu2⟩;have hk2:=(show Up w w2 from uq).get HK.out;obtain ⟨b0,g0,b1,g1,b2,g2,b3,g3,b4,g4,b9⟩:=uc5 hk2;clear hk2;simp only [tyA,hkk.out];clear hv2))
 go_ret
 exact ⟨i,rfl,AddQ.there HS.out.1 (show Up w _ from uq) HS.out.2.1 rfl _, .inl (show Up w _ from uq)⟩
attribute [local go_sem] Oper.semAt_some
def Junk (M x : Nat) (o : Obj) : Prop:=(∃ cs f,o = .cells cs ISlT f ∨ o = .cells cs IntL f) ∨ (M ≤ x ∧ o.isCells = false)
def KeepJ (M : Nat) (W W' : World) : Prop := ∀ (x : Nat) (o : Obj),W.heap[x]? = some o → ¬ Junk M x o → W'.heap[x]? = some o
theorem jmq {M x : Nat} {cs : Array Value} {T : TypeId} {f : Nat × Nat} (h : T ≠ ISlT ∧ T ≠ IntL) : ¬ Junk M x (.cells cs T f):=by
 rintro (⟨cs',f',e | e⟩ | ⟨_,e⟩)
 ·injection e with _ e _;exact h.1 e
 ·injection e with _ e _;exact h.2 e
 ·cases e
theorem KeepJ.cells {M : Nat} {w w' : World} (k : KeepJ M w w') {x : Nat} {cs : Array Value} {T : TypeId} {f : Nat × Nat} (hT : T ≠ ISlT ∧ T ≠ IntL) (h : w.heap[x]? = some (.cells cs T f)) : w'.heap[x]? = some (.cells cs T f):=k _ _ h (jmq hT)
theorem TyAt.keepJ {M : Nat} {N : Nat → Prop} {B : Nat} {w w' : World} {b : Nat} {t : Ty} (h : TyAt N B w b t) (k : KeepJ M w w') : TyAt N B w' b t:=by
 induction h with
 | mk said pv nv mv qs hB hh hs hp hn hm hl hq ih =>
   exact TyAt.mk said pv nv mv qs hB (k.cells (by decide) hh) hs (hp.keep fun g cs fz q1 q2 => ⟨q1,k.cells (by decide) q2⟩) (hn.keep fun g cs fz q1 q2 => ⟨q1,k.cells (by decide) q2⟩) (hm.keep fun g cs fz q1 q2 => ⟨q1,k.cells (by decide) q2⟩) hl ih
theorem TyAt.keepJ_cell {M : Nat} {N : Nat → Prop} {B : Nat} {w w' : World} {b : Nat} {t : Ty} (h : TyAt N B w b t) (k : KeepJ M w w') (i : Nat) : w'.cell? ⟨b,i,none⟩ = w.cell? ⟨b,i,none⟩:=by
 obtain ⟨cs,hb⟩:=h.blk
 rw [ja1 hb,ja1 (k.cells (by decide) hb)]
theorem Asked.keepJ {M : Nat} {N : Nat → Prop} {B : Nat} {w w' : World} {b : Nat} {t : Ty} (h : Asked N B w b t) (ht : TyAt N B w b t) (k : KeepJ M w w') : Asked N B w' b t:=by
 obtain ⟨pv,qs,h1,h2,h3,h4⟩:=h.parts
 refine ⟨(ht.keepJ_cell k 7).trans h.self,h.ne,pv,qs,(ht.keepJ_cell k 3).trans h1,h2.keep fun g cs fz q1 q2 => ⟨q1,k.cells (by decide) q2⟩,h3,fun j q p hj hp => ?_⟩
 obtain ⟨q1,q2,q3⟩:=h4 j q p hj hp
 exact ⟨q1.keepJ k,(q1.keepJ_cell k 7).trans q2,q3⟩
theorem Are.keepJ {M : Nat} {w w' : World} {B A gm : Nat} {bs : List Nat} {ts : List Ty} {tv dv : Value} (h : Are w B A bs ts tv (.map (some gm)) dv) (hgm : gm < M) (k : KeepJ M w w') : Are w' B A bs ts tv (.map (some gm)) dv where
 base:=h.base
 head:=k.cells (by decide) h.head
 row:=ja8 h.row fun g' hg' => by
  obtain ⟨cur,hc⟩:=jar h.row hg'
  rw [hc]
  exact k.cells (by decide) hc
 rowB:=h.rowB
 ids:=h.ids.imp id fun ⟨g,es,clk,h1,h2,h3,h4⟩ => ⟨g,es,clk,h1,h2,k _ _ h3 (by
  rintro (⟨cs',f',e | e⟩ | ⟨e,_⟩)
  ·cases e
  ·cases e
  ·cases h1;omega),h4⟩
 len:=h.len
 nodup:=h.nodup
 ty i b t h1 h2:=(h.ty i b t h1 h2).keepJ k
 asked i b t h1 h2:=(h.asked i b t h1 h2).keepJ (h.ty i b t h1 h2) k
 good:=h.good
 closed:=h.closed
theorem Sta.keepJ {M : Nat} {w0 W W' : World} {A gm : Nat} {bs : List Nat} {ts : List Ty} {tv dv : Value} (h : Sta w0 W A bs ts tv (.map (some gm)) dv) (hgm : gm < M) (k : KeepJ M W W') (hu : Up w0 W') : Sta w0 W' A bs ts tv (.map (some gm)) dv :=
 ⟨h.are.keepJ hgm k,fun w2 h2 => h.glob w2 fun b o h3 h4 => h2 b o h3 (by rw [hu.block b h3, ← h.up.block b h3];exact h4),hu⟩
theorem Are.mapB {w : World} {B A : Nat} {bs : List Nat} {ts : List Ty} {tv mv dv : Value} (h : Are w B A bs ts tv mv dv) {i : Nat} {t : Ty} (ht : ts[i]? = some t) : ∃ gm,mv = .map (some gm) ∧ gm < w.heap.size:=by
 rcases h.ids with ⟨_,e⟩ | ⟨g,es,clk,h1,_,h3,_⟩
 ·rw [e] at ht;simp at ht
 ·exact ⟨g,h1,ja0 h3⟩
theorem LayM.from_ {w w' : World} {B A gm M : Nat} {bs : List Nat} {ts : List Ty} {tv dv tv' mv' : Value} (h : Are w B A bs ts tv (.map (some gm)) dv) (hgm : gm < M) (hL : LayM B A tv (.map (some gm)) w w' tv' mv') : KeepsFrom M w w' :=
 ⟨hL.memo.size,fun x o hx ho hc => hL.memo.obj x o ho (fun cs f e => by rw [e] at hc;cases hc) (by
  rintro (e | e | e)
  ·subst e;rw [h.head] at ho;cases ho;cases hc
  ·obtain ⟨cur,q⟩:=jar h.row e
   rw [q] at ho;cases ho;cases hc
  ·cases e;omega)⟩
abbrev TesZ : TypeId:=57
structure KJ (dv : Value) (w0 w1 : World) (A : Nat) (bs : List Nat) (ts : List Ty) (gm tb g kb qa lb M : Nat) (cs : Array Value) (asked : Bool) (n : Nat) (kept : List Ty) (W : World) : Prop where
 st : ∃ (bs1 : List Nat) (ts1 : List Ty) (tv1 : Value) (l : List Nat) (us : List Ty),Sta w0 W A (bs ++ bs1) (ts ++ ts1) tv1 (.map (some gm)) dv ∧ bs1.length ≤ 10 * n ∧ CI M lb l W ∧ l.map (fun z => (ts ++ ts1)[z]?) = us.map some ∧ us.map Ty.canon = kept
 b1 : W.heap[kb]? = some (.cells cs TesT (0,0))
 b2 : W.heap[kb + 1]? = some (.cells #[.pointer (some ⟨kb,0,none⟩)] TesP (0,0))
 b3 : W.heap[qa]? = some (.cells #[.bool asked] BooT (0,0))
 bg : ∃ cs T f,W.heap[g]? = some (.cells cs T f) ∧ (T = IntE ∨ T = BooT)
 bt : ∃ cs f,W.heap[tb]? = some (.cells cs ISlT f)
 bz : ∀ (x : Nat) (cs : Array Value),w1.heap[x]? = some (.cells cs TesZ (0,0)) → W.heap[x]? = some (.cells cs TesZ (0,0))
section
variable {dv : Value} {w0 w1 : World} {A : Nat} {bs : List Nat} {ts : List Ty} {gm tb g kb qa lb M : Nat} {cs : Array Value} {asked : Bool} {n : Nat} {kept : List Ty}
theorem KJ.own {W W' : World} (hM : w0.heap.size ≤ M) (hgm : gm < M) {row : Option Nat} (h : KJ dv w0 w1 A bs ts gm tb g kb qa lb M cs asked n kept W) (hg : W.grownBy W' row) (hr : ∀ r,row = some r → M ≤ r ∧ ∃ o : Obj,W.heap[r]? = some o ∧ o.isCells = false) : KJ dv w0 w1 A bs ts gm tb g kb qa lb M cs asked n kept W':=by
 obtain ⟨bs1,ts1,tv1,l,us,q1,q2,q3,q4,q5⟩:=h.st
 have hk : KeepJ M W W':=fun x o ho hj => jan hg ho fun e => by
  obtain ⟨h1,o',h2,h3⟩:=hr x e
  rw [ho] at h2
  cases h2
  exact hj (.inr ⟨h1,h3⟩)
 exact ⟨⟨bs1,ts1,tv1,l,us,q1.keepJ hgm hk (Up.grown (W:=W) q1.up hg (fun r e => Nat.le_trans hM (hr r e).1)),q2,q3.own hg hr,q4,q5⟩,jaI h.b1 hg hr,jaI h.b2 hg hr,jaI h.b3 hg hr,(let ⟨cs,T,f,e,k⟩:=h.bg; ⟨cs,T,f,jaI e hg hr,k⟩),(let ⟨cs,f,e⟩:=h.bt; ⟨cs,f,jaI e hg hr⟩),fun x cs e => jaI (h.bz x cs e) hg hr⟩
theorem KJ.on {W W' : World} (h : KJ dv w0 w1 A bs ts gm tb g kb qa lb M cs asked n kept W) (k : Up W W') : KJ dv w0 w1 A bs ts gm tb g kb qa lb M cs asked n kept W':=by
 obtain ⟨bs1,ts1,tv1,l,us,q1,q2,q3,q4,q5⟩:=h.st
 exact ⟨⟨bs1,ts1,tv1,l,us,q1.later k,q2,q3.on k,q4,q5⟩,k.get h.b1,k.get h.b2,k.get h.b3,(let ⟨cs,T,f,e,r⟩:=h.bg; ⟨cs,T,f,k.get e,r⟩),(let ⟨cs,f,e⟩:=h.bt; ⟨cs,f,k.get e⟩),fun x cs e => k.get (h.bz x cs e)⟩
end
def Two2 (tb g : Nat) : World → World → Prop:=TwoKeep fun x => x = tb ∨ x = g
section
variable {dv : Value} {w0 w1 : World} {A : Nat} {bs : List Nat} {ts : List Ty} {gm tb g kb qa lb M : Nat} {cs : Array Value} {asked : Bool} {ps : List Nat} {spec : List Nat → List Ty} {pre : List (OneI ps)} {y : OneI ps} {W W' : World} {a : Act}
abbrev KInv (dv : Value) (w0 w1 : World) (A : Nat) (bs : List Nat) (ts : List Ty) (gm tb g kb qa lb M : Nat) (cs : Array Value) (asked : Bool) (spec : List Nat → List Ty) {ps : List Nat} (pre : List (OneI ps)) (W : World) : Prop:=KJ dv w0 w1 A bs ts gm tb g kb qa lb M cs asked pre.length (spec (jbz pre)) W
theorem jkc (hu : Up W W') (hI : KInv dv w0 w1 A bs ts gm tb g kb qa lb M cs asked spec pre W) (hk : spec (jbz pre ++ [y.1]) = spec (jbz pre)) :
  ownPostG M (Two2 tb g) (fun (pre : List (OneI ps)) W => KInv dv w0 w1 A bs ts gm tb g kb qa lb M cs asked spec pre W) (fun _ _ _ => False) (pre ++ [y]) W Exit.normal a W':=by
 refine ⟨⟨hu.size,fun k o _ hk _ => hu.get hk⟩,(TwoKeep.refl _ _).up hu,?_⟩
 show KJ _ _ _ _ _ _ _ _ _ _ _ _ _ _ _ (pre ++ [y]).length (spec (jbz (pre ++ [y]))) _
 rw [jdL,List.length_append,List.length_singleton,hk]
 obtain ⟨⟨bs1,ts1,tv1,l,us,q1,q2,q3,q4,q5⟩,b1,b2,b3,b4,b5,b6⟩:=hI.on hu
 exact ⟨⟨bs1,ts1,tv1,l,us,q1,by omega,q3,q4,q5⟩,b1,b2,b3,b4,b5,b6⟩
theorem jfK {w7 : World} {v lv : Value} {q : Nat} {c : Ty} {bs1 : List Nat} {ts1 : List Ty} {tv1 : Value} {l : List Nat} {us : List Ty} (hM : w0.heap.size ≤ M ∧ gm < M) (hz : kb ≠ lb ∧ kb + 1 ≠ lb ∧ qa ≠ lb ∧ lb < M ∧ tb ≠ lb ∧ w0.heap.size ≤ lb) (hg2 : g < M ∧ tb < M ∧ g ≠ lb)
  (hI : KInv dv w0 w1 A bs ts gm tb g kb qa lb M cs asked spec pre W)
  (h1 : Sta w0 W A (bs ++ bs1) (ts ++ ts1) tv1 (.map (some gm)) dv) (h2 : bs1.length ≤ 10 * pre.length) (h3 : CI M lb l W) (h4 : l.map (fun z => (ts ++ ts1)[z]?) = us.map some) (h5 : us.map Ty.canon = spec (jbz pre))
  (hA : AddQ dv w0 W A (bs ++ bs1) (ts ++ ts1) tv1 (.map (some gm)) c 10 q W') (k4 : spec (jbz pre ++ [y.1]) = spec (jbz pre) ++ [c])
  (hv : W.heap[lb]? = some (.cells #[v] ISlT (0,0))) (hrow : W.ownsRow 0 IntL 1 v l.length (l.map numV)) (hvM : ∀ g,v.ownBlock = some g → M ≤ g)
  (hown : w7.ownsRow 0 IntL 1 lv (l.length + 1) (l.map numV ++ [.int .i64 q])) (hg : (W'.alloc (.cells #[.int .i64 q] IntL)).grownBy w7 v.ownBlock) (hb : lv.ownBlock = v.ownBlock ∨ ∃ g',lv.ownBlock = some g' ∧ W'.heap.size + 1 ≤ g') :
  ownPostG M (Two2 tb g) (fun (pre : List (OneI ps)) W => KInv dv w0 w1 A bs ts gm tb g kb qa lb M cs asked spec pre W) (fun _ _ _ => False) (pre ++ [y]) W Exit.normal a (w7.setCell ⟨lb,0,none⟩ lv):=by
 obtain ⟨bs2,ts2,tv2,mv2,x,k1,kL,k2,k3,kc,_⟩:=hA
 obtain rfl:=kL.ids gm rfl
 have hO:=KeepO.lay h1.are kL
 have hF:=LayM.from_ h1.are hM.2 kL
 obtain ⟨q1,q2,q3⟩:=h3.push hz.2.2.2.1 hO hv hrow hvM hown hg hb
 have hnoC : ∀ {x : Nat} {o : Obj},W'.heap[x]? = some o → ¬ (∃ cs f,o = .cells cs IntL f) → v.ownBlock ≠ some x:=fun ho hn e => by
  obtain ⟨cur,hc⟩:=jar hrow e
  have:=hO.cells hc (by decide)
  rw [this] at ho
  cases ho
  exact hn ⟨_,_,rfl⟩
 have hlb : ∀ {x : Nat} {o : Obj},W'.heap[x]? = some o → ¬ (∃ cs f,o = .cells cs ISlT f) → x ≠ lb:=fun ho hn e => by
  subst e
  have:=hO.cells hv (by decide)
  rw [this] at ho
  cases ho
  exact hn ⟨_,_,rfl⟩
 have hJ : KeepJ M W' (w7.setCell ⟨lb,0,none⟩ lv):=fun x o ho hj => q3 x o (hlb ho fun ⟨cs,f,e⟩ => hj (.inl ⟨cs,f, .inl e⟩)) (hnoC ho fun ⟨cs,f,e⟩ => hj (.inl ⟨cs,f, .inr e⟩)) ho
 have hup : Up w0 (w7.setCell ⟨lb,0,none⟩ lv):=by
  have u1 : Up w0 w7:=(k1.up.trans (Up.alloc (Up.refl W') (.cells #[.int .i64 q] IntL))).grown hg (fun r e => Nat.le_trans hM.1 (hvM r e))
  exact u1.setCell hz.2.2.2.2.2 _
 have hcell : ∀ {x : Nat} {cs : Array Value} {T : TypeId} {f : Nat × Nat},W.heap[x]? = some (.cells cs T f) → (T ≠ TyT ∧ T ≠ TpT ∧ T ≠ ArT) → T ≠ IntL → x ≠ lb → (w7.setCell ⟨lb,0,none⟩ lv).heap[x]? = some (.cells cs T f):=fun hx hT hI hne =>
  q3 _ _ hne (hnoC (hO.cells hx hT) fun ⟨_,_,e⟩ => by injection e with _ e _;exact hI e) (hO.cells hx hT)
 refine ⟨⟨Nat.le_trans hO.size q2,fun k o hk ho hoc => ?_⟩,⟨Nat.le_trans hO.size q2,fun x o hx ho hoc => ?_⟩,?_⟩
 ·have h':=hF.same k o hk ho hoc
  exact q3 k o (hlb h' fun ⟨_,_,e⟩ => by rw [e] at hoc;cases hoc) (hnoC h' fun ⟨_,_,e⟩ => by rw [e] at hoc;cases hoc) h'
 ·have hne : v.ownBlock ≠ some x:=fun e => by
   have:=hvM x e
   rcases hx with rfl | rfl <;> omega
  rcases hx with rfl | rfl
  ·obtain ⟨cs',f',e⟩:=hI.bt
   rw [ho] at e
   cases e
   exact q3 _ _ hz.2.2.2.2.1 hne (hO.cells ho (by decide))
  ·obtain ⟨cs',T',f',e,hT⟩:=hI.bg
   rw [ho] at e
   cases e
   exact q3 _ _ hg2.2.2 hne (hO.cells ho (by rcases hT with rfl | rfl <;> decide))
 ·show KJ _ _ _ _ _ _ _ _ _ _ _ _ _ _ _ (pre ++ [y]).length (spec (jbz (pre ++ [y]))) _
  rw [jdL,List.length_append,List.length_singleton,k4]
  refine ⟨⟨bs1 ++ bs2,ts1 ++ ts2,tv2,l ++ [q],us ++ [x],?_,by rw [List.length_append];omega,q1,?_,by rw [List.map_append,h5, ← kc];rfl⟩,hcell hI.b1 (by decide) (by decide) hz.1,hcell hI.b2 (by decide) (by decide) hz.2.1,hcell hI.b3 (by decide) (by decide) hz.2.2.1,?_,?_,fun x' cs' e => hcell (hI.bz x' cs' e) (by decide) (by decide) (fun e2 => ?_)⟩
  ·rw [List.append_assoc,List.append_assoc] at k1
   exact k1.keepJ hM.2 hJ hup
  ·rw [List.map_append,List.map_append, ← List.append_assoc,jgv h4,List.map_cons,List.map_nil,k3]
   rfl
  ·obtain ⟨cs',T',f',e,hT⟩:=hI.bg
   exact ⟨cs',T',f',q3 _ _ hg2.2.2 (fun e2 => by have:=hvM g e2;omega) (hO.cells e (by rcases hT with rfl | rfl <;> decide)),hT⟩
  ·obtain ⟨cs',f',e⟩:=hI.bt
   exact ⟨cs',f',hcell e (by decide) (by decide) hz.2.2.2.2.1⟩
  ·have h9:=hI.bz x' cs' e
   rw [e2,hv] at h9
   cases h9
end
end Go.Proofs.YtiaepldmgighbaaGreatDoor
