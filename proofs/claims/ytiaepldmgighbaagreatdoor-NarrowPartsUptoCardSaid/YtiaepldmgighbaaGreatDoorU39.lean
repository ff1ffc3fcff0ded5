import Derived.Test.YtiaepldmgighbaaGreatDoorU36
import Derived.Test.YtiaepldmgighbaaGreatDoorU03
namespace Go.Proofs.YtiaepldmgighbaaGreatDoor
open Go.RowKit
set_option linter.unusedSimpArgs false
def GlobB (B : Nat) (w : World) : Prop := ∀ w' : World,(∀ (b : Nat) (o : Obj),b < B → w.heap[b]? = some o → w'.heap[b]? = some o) → Glob w'
theorem GlobB.glob {B : Nat} {w : World} (h : GlobB B w) : Glob w:=h w fun _ _ _ q => q
theorem GlobB.memo {S : Nat → Prop} {B : Nat} {w w' : World} (h : GlobB B w) (k : Memo S B w w') : GlobB B w':=fun w2 h2 => h w2 fun b o h3 h4 => h2 b o h3 (by rw [k.low b h3 (ja0 h4)];exact h4)
theorem Are.mapped {w W2 : World} {B A g : Nat} {tv : Value} {ts : List Ty} {bs : List Nat} {dv : Value} (h : Are w B A bs ts tv (.map none) dv) (hg : W2.heap[g]? = some (.map #[] 0)) (hgs : w.heap.size ≤ g) (hA : W2.heap[A]? = some (.cells #[tv, .map (some g),dv] ArT (0,0))) (hm : Memo (fun x => x = A) B w W2) :
  Are W2 B A bs ts tv (.map (some g)) dv ∧ LayM B A tv (.map none) w W2 tv (.map (some g)):=by
 have hL : LayM B A tv (.map none) w W2 tv (.map (some g)):=by
  refine ⟨hm.mono fun x e => .inl e,fun x e => ?_,fun _ e => by cases e⟩
  rcases e with e | e | e
  ·exact .inl (.inl e)
  ·exact .inl (.inr (.inl e))
  ·injection e with e
   injection e with e
   subst e
   exact .inr hgs
 have hts : ts = []:=by
  rcases h.ids with ⟨_,e⟩ | ⟨_,_,_,e,_⟩
  ·exact e
  ·cases e
 refine ⟨?_,hL⟩
 exact {
  base:=h.base
  head:=hA
  row:=ja8 h.row fun g' hg' => by
   obtain ⟨cur,hc⟩ : ∃ cur,w.heap[g']? = some (.cells cur TpT (0,0)):=by
    rcases h.row.2 with ⟨hv,_⟩ | ⟨g'',cap,cur,hv,_,hc,_⟩
    ·rw [hv] at hg'; cases hg'
    ·rw [hv] at hg'; cases hg'; exact ⟨cur,hc⟩
   rw [hc]
   exact hm.cells hc (by decide) (fun e => jb1 hc h.head (by decide) e)
  rowB:=h.rowB
  ids := .inr ⟨g,#[],0,rfl,Nat.le_trans h.lt hgs,hg,by rw [hts];rfl⟩
  len:=h.len
  nodup:=h.nodup
  ty:=fun i b t h1 h2 => hL.ty (h.ty i b t h1 h2)
  asked:=fun i b t h1 h2 => hL.asked (h.asked i b t h1 h2) (h.ty i b t h1 h2)
  good:=h.good
  closed:=h.closed }
theorem Are.laid {B A b g n tcap cap' : Nat} {bs : List Nat} {ts : List Ty} {ta sa' : Option Addr} {t : Ty} {dv : Value} {wr W3 w7 : World} {es' : Array MapEntry} {clk' : Nat}
  (hn : n = bs.length) (HA : Are wr B A bs ts (.slice ta n tcap) (.map (some g)) dv) (hbt : TyAt (fun x => ¬ arS A (.slice ta n tcap) (.map (some g)) x) B wr b t) (hask : Asked (fun x => ¬ arS A (.slice ta n tcap) (.map (some g)) x) B wr b t) (hgood : t.Valid ∧ t.nodes ≤ 500 ∧ t.namesLe 2000000) (hs : t.text ∉ ts.map Ty.text) (hcl : ∀ p ∈ t.parts,∃ u ∈ ts,u.text = p.text)
  (hz3 : W3.heap.size = wr.heap.size) (HZ : ∀ x,x ≠ g → W3.heap[x]? = wr.heap[x]?) (hg3 : W3.heap[g]? = some (.map es' clk')) (hos3 : W3.os = wr.os ∧ W3.tape = wr.tape ∧ W3.output = wr.output)
  (HE' : Entries es' Value.string numV ((ts.map Ty.text).zipIdx ++ [(t.text,n)]))
  (hown' : w7.ownsRow 0 TpT 1 (.slice sa' (n + 1) cap') (n + 1) (bs.map ptrV ++ [.pointer (some ⟨b,0,none⟩)])) (hgrow : (W3.alloc (.cells #[.pointer (some ⟨b,0,none⟩)] TpT)).grownBy w7 (Value.slice ta n tcap).ownBlock)
  (hblk : (Value.slice sa' (n + 1) cap').ownBlock = (Value.slice ta n tcap).ownBlock ∨ ∃ g',(Value.slice sa' (n + 1) cap').ownBlock = some g' ∧ W3.heap.size + 1 ≤ g') :
  ∃ tv',Are (w7.setCell ⟨A,0,none⟩ (.slice sa' (n + 1) cap')) B A (bs ++ [b]) (ts ++ [t]) tv' (.map (some g)) dv ∧ LayM B A (.slice ta n tcap) (.map (some g)) wr (w7.setCell ⟨A,0,none⟩ (.slice sa' (n + 1) cap')) tv' (.map (some g)):=by
 obtain ⟨es,clk,hBg,hm⟩ : ∃ es clk,B ≤ g ∧ wr.heap[g]? = some (.map es clk):=by
  rcases HA.ids with ⟨h9,_⟩ | ⟨g',es,clk,h9,h,h2,_⟩
  ·cases h9
  ·cases h9;exact ⟨es,clk,h,h2⟩
 have hrb : ∀ g',(Value.slice ta n tcap).ownBlock = some g' → B ≤ g' ∧ ∃ cur,wr.heap[g']? = some (.cells cur TpT (0,0)):=fun g' hg' => by
  refine ⟨HA.rowB g' hg',?_⟩
  rcases HA.row.2 with ⟨hv,_⟩ | ⟨g'',cap,cur,hv,_,hc,_⟩
  ·rw [hv] at hg'; cases hg'
  ·rw [hv] at hg'; cases hg'; exact ⟨cur,hc⟩
 have hAg : A ≠ g:=fun e => by have q:=HA.head;rw [e,hm] at q;cases q
 have hrA : (Value.slice ta n tcap).ownBlock ≠ some A:=fun e => by
  obtain ⟨_,cur,hc⟩:=hrb A e
  exact jb1 hc HA.head (by decide) rfl
 have hrg : (Value.slice ta n tcap).ownBlock ≠ some g:=fun e => by
  obtain ⟨_,cur,hc⟩:=hrb g e
  rw [hm] at hc;cases hc
 have hAl:=ja0 HA.head
 have m1 : Memo (arS A (.slice ta n tcap) (.map (some g))) B wr W3:={
  os:=hos3.1
  tape:=hos3.2.1
  output:=hos3.2.2
  size:=by omega
  obj:=fun x o h1 _ h3 => by rw [HZ x (fun e => h3 (by rw [e];exact .inr (.inr rfl)))];exact h1
  low:=fun x h1 _ => HZ x (by omega)
  ty:=fun N x u h1 h2 => h2.keep (fun g' cs T f _ hN hc => by rw [HZ g' (fun e => by rw [e,hm] at hc;cases hc)];exact hc) (fun b' _ k m nm pv nv mv sz said _ q => ⟨said,by rw [HZ b' (fun e => by rw [e,hm] at q;cases q)];exact q, .inl rfl⟩)
  fld:=fun x cs f q => ⟨cs,by rw [HZ x (fun e => by rw [e,hm] at q;cases q)];exact q,fun _ _ => rfl⟩ }
 have m2 : Memo (arS A (.slice ta n tcap) (.map (some g))) B (W3.alloc (.cells #[.pointer (some ⟨b,0,none⟩)] TpT)) w7:=Memo.grown hgrow fun r e => by
  obtain ⟨q1,cur,q2⟩:=hrb r e
  exact ⟨.inr (.inl e),q1,cur,TpT,(0,0),jah (by rw [HZ r (fun e2 => hrg (by rw [← e2];exact e))];exact q2),by decide⟩
 have hd : w7.heap[A]? = some (.cells #[.slice ta n tcap, .map (some g),dv] ArT (0,0)):=jan hgrow (jah ((HZ A hAg).trans HA.head)) hrA
 have m3 : Memo (arS A (.slice ta n tcap) (.map (some g))) B w7 (w7.setCell ⟨A,0,none⟩ (.slice sa' (n + 1) cap')):=Memo.cell1 hd (by decide) (.inl rfl) HA.base _
 have hM:=((m1.up (show Up W3 (W3.alloc (.cells #[.pointer (some ⟨b,0,none⟩)] TpT)) from uq)).trans m2).trans m3
 have hsz : wr.heap.size ≤ w7.heap.size:=by
  have q3:=hgrow.size
  have q4 : (W3.alloc (.cells #[.pointer (some ⟨b,0,none⟩)] TpT)).heap.size = W3.heap.size + 1:=by simp
  omega
 have hL : LayM B A (.slice ta n tcap) (.map (some g)) wr (w7.setCell ⟨A,0,none⟩ (.slice sa' (n + 1) cap')) (.slice sa' (n + 1) cap') (.map (some g)):=⟨hM,(fun x e => by
  rcases e with e | e | e
  ·exact .inl (.inl e)
  ·rcases hblk with q | ⟨g',q,q2⟩
   ·exact .inl (.inr (.inl (by rw [← q];exact e)))
   ·rw [q] at e
    cases e
    exact .inr (by omega)
  ·exact .inl (.inr (.inr e))),fun _ h => h⟩
 have hsA : (Value.slice sa' (n + 1) cap').ownBlock ≠ some A:=fun e => by
  rcases hblk with q | ⟨g',q,q2⟩
  ·exact hrA (by rw [← q];exact e)
  ·rw [q] at e
   cases e
   omega
 refine ⟨.slice sa' (n + 1) cap',?_,hL⟩
 exact {
  base:=HA.base
  head:=ja6 (i:=0) hd _
  row:=by
   have q:=ja8 (w':=w7.setCell ⟨A,0,none⟩ (.slice sa' (n + 1) cap')) hown' fun g' hg' => ja2 (fun e => hsA (by rw [← e];exact hg')) _
   have e1 : (bs ++ [b]).length = n + 1:=by simp [hn]
   have e2 : (bs ++ [b]).map ptrV = bs.map ptrV ++ [.pointer (some ⟨b,0,none⟩)]:=by simp [ptrV]
   rw [e1,e2]
   exact q
  rowB:=fun g' hg' => by
   rcases hblk with q | ⟨g'',q,q2⟩
   ·exact HA.rowB g' (by rw [← q];exact hg')
   ·rw [q] at hg'
    cases hg'
    have:=HA.lt
    omega
  ids := .inr ⟨g,es',clk',rfl,hBg,by
   rw [ja2 (fun e => hAg e.symm),hgrow.block g (by have:=ja0 hg3;simp;omega) (fun e => hrg e.symm)]
   exact jah hg3,by
    rw [List.map_append,List.map_cons,List.map_nil,jiy,List.length_map,HA.len, ← hn];exact HE'⟩
  len:=by simp [HA.len]
  nodup:=by
   rw [List.map_append,List.nodup_append]
   refine ⟨HA.nodup,by simp,fun x hx y hy => ?_⟩
   simp only [List.map_cons,List.map_nil,List.mem_singleton] at hy
   subst hy
   intro e
   subst e
   exact hs hx
  ty:=fun i c u h1 h2 => by
   rcases Nat.lt_or_ge i bs.length with hi | hi
   ·rw [List.getElem?_append_left hi] at h1
    rw [List.getElem?_append_left (by rw [HA.len];exact hi)] at h2
    exact hL.ty (HA.ty i c u h1 h2)
   ·have e0 : i = bs.length:=by
     have:=(List.getElem?_eq_some_iff.1 h1).1
     simp at this
     omega
    subst e0
    rw [List.getElem?_append_right (Nat.le_refl _),Nat.sub_self] at h1
    rw [List.getElem?_append_right (by rw [HA.len];exact Nat.le_refl _),HA.len,Nat.sub_self] at h2
    simp at h1 h2
    subst h1 h2
    exact hL.ty hbt
  asked:=fun i c u h1 h2 => by
   rcases Nat.lt_or_ge i bs.length with hi | hi
   ·rw [List.getElem?_append_left hi] at h1
    rw [List.getElem?_append_left (by rw [HA.len];exact hi)] at h2
    exact hL.asked (HA.asked i c u h1 h2) (HA.ty i c u h1 h2)
   ·have e0 : i = bs.length:=by
     have:=(List.getElem?_eq_some_iff.1 h1).1
     simp at this
     omega
    subst e0
    rw [List.getElem?_append_right (Nat.le_refl _),Nat.sub_self] at h1
    rw [List.getElem?_append_right (by rw [HA.len];exact Nat.le_refl _),HA.len,Nat.sub_self] at h2
    simp at h1 h2
    subst h1 h2
    exact hL.asked hask hbt
  good:=fun u hu => by
   rcases List.mem_append.1 hu with q | q
   ·exact HA.good u q
   ·simp at q;subst q;exact hgood
  closed:=fun u hu p hp => by
   rcases List.mem_append.1 hu with q | q
   ·obtain ⟨x,h1,h2⟩:=HA.closed u q p hp
    exact ⟨x,List.mem_append_left _ h1,h2⟩
   ·simp at q;subst q
    obtain ⟨x,h1,h2⟩:=hcl p hp
    exact ⟨x,List.mem_append_left _ h1,h2⟩ }
def LayR (B A : Nat) (bs : List Nat) (ts : List Ty) (tv mv dv : Value) (w : World) (t : Ty) (e : Ending) (w' : World) : Prop :=
 ∃ (i : Nat) (bs' : List Nat) (ts' : List Ty) (tv' mv' : Value),e = .returned (.int .i64 i) ∧ Are w' B A (bs ++ bs') (ts ++ ts') tv' mv' dv ∧ LayM B A tv mv w w' tv' mv' ∧ ((ts ++ ts').map Ty.text)[i]? = some t.text ∧ bs'.length ≤ t.nodes ∧ ∀ u ∈ ts',u.nodes ≤ t.nodes
def jlS (t : Ty) : Prop := ∀ (B A b : Nat) (bs : List Nat) (ts : List Ty) (tv mv dv : Value) (w : World),Are w B A bs ts tv mv dv → TyAt (fun x => ¬ arS A tv mv x) B w b t → GlobB B w → bs.length + t.nodes ≤ 1000000 →
 Calls Tryz.prog 48 #[.pointer (some ⟨A,0,none⟩), .pointer (some ⟨b,0,none⟩)] w fun e w' => LayR B A bs ts tv mv dv w t e w' ∧ w'.cell? ⟨b,7,none⟩ = some (.string t.text)
theorem jix {ts : List Ty} {i : Nat} {s : ByteArray} (h : (ts.map Ty.text)[i]? = some s) : ((ts.map Ty.text).zipIdx)[i]? = some (s,i):=jn8 _ i s h
set_option maxRecDepth 100000
set_option maxHeartbeats 3200000
theorem jo7 (t : Ty) (hv : t.Valid) (hs : Sm t) (B A b : Nat) (bs : List Nat) (ts : List Ty) (tv mv dv : Value) (i : Nat) (w : World) (h : Are w B A bs ts tv mv dv) (ht : TyAt (fun x => ¬ arS A tv mv x) B w b t) (hg : GlobB B w) (hi : (ts.map Ty.text)[i]? = some t.text) :
  Calls Tryz.prog 48 #[.pointer (some ⟨A,0,none⟩), .pointer (some ⟨b,0,none⟩)] w fun e w' => e = .returned (.int .i64 i) ∧ Memo jag B w w' ∧ w'.cell? ⟨b,7,none⟩ = some (.string t.text):=by
 rcases h.ids with ⟨_,rfl⟩ | ⟨g,es,clk,rfl,hgB,hm,hE⟩
 ·simp at hi
 have HM:=Lib.hid (And.intro hm (And.intro hE (And.intro (jix hi) (show (((ts.map Ty.text).zipIdx).map (·.1)).Nodup by rw [jg7];exact h.nodup))))
 have HT:=Lib.hid (jiF hv hs _ B b w.drew (ht.up (show Up w w.drew from uq)) (hg.glob.up uq))
 have HA:=Lib.hid h
 obtain ⟨s,hse⟩ : ∃ s,Hid (t.text = s):=⟨_,rfl⟩
 have HS:=Lib.hid (And.intro hv hs)
 rw [hse.out] at HM HT
 have a1:=ja1 h.head 1
 have a4:=ja0 h.head
 simp only [gQa,gQz,gQs] at a1
 clear h hv hs hi hm hE hgB ht hg
 go_enter Tryz.func48,Tryz.ntmps48
 go_wp2_with fail
 go_region_law (first | (go_simp;go_at_call 61;refine HT.out.mono ?_;rintro e w2 ⟨rfl,hm2,ht2⟩;have HT2:=Lib.hid ht2;clear ht2;have HA2:=Lib.hid ((HA.out.up (show Up w w.drew from uq)).memo hm2);have a1:=ja1 HA2.out.head 1;simp only [gQa,gQz,gQs] at a1;have a4:=ja0 HA2.out.head;have hlk : (Instr.lookup 100 (.map (some g)) (.string s) true).run Tryz.prog w2 = .ok (.tuple #[.int .i64 i, .bool true]) w2:=(jaG (f:=numV) Tryz.underlying100 Tryz.underlying9 jb9 (hm2.obj _ _ (Up.get (w:=w) uq HM.out.1) (fun _ _ e => by cases e) (fun e => e)) HM.out.2.1 s i i HM.out.2.2.1 HM.out.2.2.2).1))
 all_goals (go_wp2_with fail)
 all_goals go_ret
 all_goals exact ⟨rfl,(Memo.of_up _ _ (show Up w w.drew from uq)).trans hm2,by rw [hse.out];exact HT2.out⟩
structure LayS (B A : Nat) (bs : List Nat) (ts : List Ty) (tv mv dv : Value) (w : World) (ps : List Ty) (qs : List Nat) (m j : Nat) (bs1 : List Nat) (ts1 : List Ty) (tv1 mv1 : Value) (wr : World) : Prop where
 are : Are wr B A (bs ++ bs1) (ts ++ ts1) tv1 mv1 dv
 lay : LayM B A tv mv w wr tv1 mv1
 few : bs1.length ≤ ((ps.take j).map Ty.nodes).sum
 less : ∀ u ∈ ts1,u.nodes < m
 parts : ∀ p ∈ ps.take j,∃ u ∈ ts ++ ts1,u.text = p.text
 told : ∀ (i q : Nat) (p : Ty),i < j → qs[i]? = some q → ps[i]? = some p → wr.cell? ⟨q,7,none⟩ = some (.string p.text)
def LayJ (B A : Nat) (bs : List Nat) (ts : List Ty) (tv mv dv : Value) (w : World) (ps : List Ty) (qs : List Nat) (m j : Nat) (wr : World) : Prop := ∃ bs1 ts1 tv1 mv1,LayS B A bs ts tv mv dv w ps qs m j bs1 ts1 tv1 mv1 wr
theorem LayS.next {B A : Nat} {bs : List Nat} {ts : List Ty} {tv mv dv : Value} {w : World} {ps : List Ty} {qs : List Nat} {m j : Nat} {bs1 : List Nat} {ts1 : List Ty} {tv1 mv1 : Value} {wr w2 : World} (h : LayS B A bs ts tv mv dv w ps qs m j bs1 ts1 tv1 mv1 wr) (hu : Up wr w2) {p : Ty} (hp : ps[j]? = some p) (hm : p.nodes < m) {q0 : Nat} (hq0 : qs[j]? = some q0) (hqt : ∀ (i q : Nat) (p : Ty),qs[i]? = some q → ps[i]? = some p → TyAt (fun x => ¬ arS A tv1 mv1 x) B wr q p) (hpn : ∀ p ∈ ps,p.text ≠ ⟨#[]⟩) {e : Ending} {w' : World} (k : LayR B A (bs ++ bs1) (ts ++ ts1) tv1 mv1 dv w2 p e w') (kt : w'.cell? ⟨q0,7,none⟩ = some (.string p.text)) :
  ∃ i : Nat,e = .returned (.int .i64 i) ∧ LayJ B A bs ts tv mv dv w ps qs m (j + 1) w':=by
 obtain ⟨i,bs',ts',tv',mv',rfl,k1,k2,k3,k4,k5⟩:=k
 refine ⟨i,rfl,bs1 ++ bs',ts1 ++ ts',tv',mv',?_⟩
 rw [List.append_assoc] at k1
 rw [List.append_assoc] at k1 k3
 refine ⟨k1,(h.lay.trans (LayM.of_memo (Memo.of_up _ _ hu))).trans k2,?_,?_,?_,?_⟩
 ·rw [List.take_add_one,hp]
  have:=h.few
  simp only [Option.toList_some,List.map_append,List.map_cons,List.map_nil,List.sum_append,List.sum_cons,List.sum_nil,List.length_append]
  omega
 ·intro u hu2
  rcases List.mem_append.1 hu2 with q | q
  ·exact h.less u q
  ·exact Nat.lt_of_le_of_lt (k5 u q) hm
 ·intro q hq
  rw [List.take_add_one,hp,Option.toList_some] at hq
  rcases List.mem_append.1 hq with hq | hq
  ·obtain ⟨u,q1,q2⟩:=h.parts q hq
   refine ⟨u,?_,q2⟩
   rcases List.mem_append.1 q1 with q1 | q1
   ·exact List.mem_append_left _ q1
   ·exact List.mem_append_right _ (List.mem_append_left _ q1)
  ·rw [List.mem_singleton.1 hq]
   obtain ⟨u,q1,q2⟩:=List.mem_map.1 (List.mem_of_getElem? k3)
   exact ⟨u,q1,q2⟩
 ·intro i q y hi hq hy
  by_cases e : i = j
  ·subst e
   rw [hq0] at hq
   rw [hp] at hy
   cases hq
   cases hy
   exact kt
  ·have ht:=(hqt i q y hq hy).up hu
   refine k2.memo.toldT ht ?_ (hpn y (List.mem_of_getElem? hy))
   have hl:=(hqt i q y hq hy).lt
   exact (hu.cells _ _ hl).trans (h.told i q y (by omega) hq hy)
mutual
theorem Ty.nodes_canon : ∀ t : Ty,t.canon.nodes = t.nodes
 | .mk k n nm ps ns ms => by rw [Ty.canon,Ty.nodes,Ty.nodes,Ty.nodesL_canons ps]
theorem Ty.nodesL_canons : ∀ ps : List Ty,Ty.nodesL (Ty.canons ps) = Ty.nodesL ps
 | [] => rfl
 | p :: r => by rw [Ty.canons,Ty.nodesL,Ty.nodesL,Ty.nodes_canon p,Ty.nodesL_canons r]
end
theorem je3 {t u : Ty} (ht : t.Valid) (hu : u.Valid) (h : t.text = u.text) : t.nodes = u.nodes:=by
 rw [← Ty.nodes_canon t, ← Ty.nodes_canon u,text_inj ht hu h]
theorem LayS.new {B A : Nat} {bs : List Nat} {ts : List Ty} {tv mv dv : Value} {w : World} {t : Ty} {j : Nat} {bs1 : List Nat} {ts1 : List Ty} {tv1 mv1 : Value} {wr : World} {ps : List Ty} {qs : List Nat} (h : LayS B A bs ts tv mv dv w ps qs t.nodes j bs1 ts1 tv1 mv1 wr) (hv : t.Valid) (hn : t.text ∉ ts.map Ty.text) : t.text ∉ (ts ++ ts1).map Ty.text:=fun e => by
 rw [List.map_append] at e
 rcases List.mem_append.1 e with e | e
 ·exact hn e
 ·obtain ⟨u,q1,q2⟩:=List.mem_map.1 e
  have:=h.less u q1
  have:=je3 hv ((h.are.good u (List.mem_append_right _ q1)).1) q2.symm
  omega
theorem LayJ.up {B A : Nat} {bs : List Nat} {ts : List Ty} {tv mv dv : Value} {w : World} {ps : List Ty} {qs : List Nat} {m j : Nat} {wr w2 : World} (h : LayJ B A bs ts tv mv dv w ps qs m j wr) (k : Up wr w2) : LayJ B A bs ts tv mv dv w ps qs m j w2:=by
 obtain ⟨bs1,ts1,tv1,mv1,h⟩:=h
 exact ⟨bs1,ts1,tv1,mv1,h.are.up k,h.lay.trans (LayM.of_memo (Memo.of_up _ _ k)),h.few,h.less,h.parts,fun i q p a b c => (k.cells _ _ (jcX (h.told i q p a b c))).trans (h.told i q p a b c)⟩
structure Maps (B A : Nat) (BS : List Nat) (TS : List Ty) (tv dv : Value) (mv1 : Value) (wr W2 : World) (g : Nat) (es : Array MapEntry) (clk : Nat) : Prop where
 are : Are W2 B A BS TS tv (.map (some g)) dv
 lay : LayM B A tv mv1 wr W2 tv (.map (some g))
 map : W2.heap[g]? = some (.map es clk)
 ent : Entries es Value.string numV ((TS.map Ty.text).zipIdx)
theorem Maps.there {w W2 : World} {B A g : Nat} {tv : Value} {ts : List Ty} {bs : List Nat} {dv : Value} {es : Array MapEntry} {clk : Nat} (h : Are w B A bs ts tv (.map (some g)) dv) (hm : w.heap[g]? = some (.map es clk)) (hE : Entries es Value.string numV ((ts.map Ty.text).zipIdx)) (k : Up w W2) : Maps B A bs ts tv dv (.map (some g)) w W2 g es clk :=
 ⟨h.up k,LayM.of_memo (Memo.of_up _ _ k),k.get hm,hE⟩
theorem Maps.new {w W2 : World} {B A g : Nat} {tv : Value} {ts : List Ty} {bs : List Nat} {dv : Value} (h : Are w B A bs ts tv (.map none) dv) (hg : W2.heap[g]? = some (.map #[] 0)) (hgs : w.heap.size ≤ g) (hA : W2.heap[A]? = some (.cells #[tv, .map (some g),dv] ArT (0,0))) (hm : Memo (fun x => x = A) B w W2) : Maps B A bs ts tv dv (.map none) w W2 g #[] 0:=by
 obtain ⟨h1,h2⟩:=h.mapped hg hgs hA hm
 refine ⟨h1,h2,hg,?_⟩
 have hts : ts = []:=by
  rcases h.ids with ⟨_,e⟩ | ⟨_,_,_,e,_⟩
  ·exact e
  ·cases e
 rw [hts]
 rfl
theorem LayR.new {B A b : Nat} {bs bs1 BS : List Nat} {ts ts1 TS : List Ty} {tv mv dv tv' mv' : Value} {w W : World} {t : Ty} (hBS : bs ++ bs1 = BS) (hTS : ts ++ ts1 = TS) (hless : ∀ u ∈ ts1,u.nodes < t.nodes) (hfew : bs1.length + 1 ≤ t.nodes)
  (h1 : Are W B A (BS ++ [b]) (TS ++ [t]) tv' mv' dv) (hL : LayM B A tv mv w W tv' mv') : LayR B A bs ts tv mv dv w t (.returned (.int .i64 BS.length)) W:=by
 subst hBS hTS
 have hl:=h1.len
 rw [List.append_assoc,List.append_assoc] at h1
 refine ⟨(bs ++ bs1).length,bs1 ++ [b],ts1 ++ [t],tv',mv',rfl,h1,hL,?_,by simp;omega,fun u hu => ?_⟩
 ·rw [← List.append_assoc,List.map_append]
  rw [List.getElem?_append_right (by simp at hl ⊢; omega)]
  simp at hl ⊢
  rw [show bs.length + bs1.length - (ts.length + ts1.length) = 0 by omega]
  rfl
 ·rcases List.mem_append.1 hu with q | q
  ·exact Nat.le_of_lt (hless u q)
  ·rw [List.mem_singleton.1 q]
   exact Nat.le_refl _
set_option maxRecDepth 100000
set_option maxHeartbeats 6400000
theorem jmy (t : Ty) (hv : t.Valid) (hgood : t.nodes ≤ 500 ∧ t.namesLe 2000000) (hP : ∀ p ∈ t.parts,jlS p) (B A b : Nat) (bs : List Nat) (ts : List Ty) (tv mv dv : Value) (w : World) (h : Are w B A bs ts tv mv dv) (ht : TyAt (fun x => ¬ arS A tv mv x) B w b t) (hg : GlobB B w) (hf : bs.length + t.nodes ≤ 1000000) (hs : t.text ∉ ts.map Ty.text) :
  Calls Tryz.prog 48 #[.pointer (some ⟨A,0,none⟩), .pointer (some ⟨b,0,none⟩)] w fun e w' => LayR B A bs ts tv mv dv w t e w' ∧ w'.cell? ⟨b,7,none⟩ = some (.string t.text):=by
 have hsm : Sm t:=⟨by have:=hgood.1;omega,hgood.2⟩
 have HT:=Lib.hid (fun W (hW : Up w W) => jej hv hsm _ B b W (ht.up hW) (hg.glob.up hW))
 have HA:=Lib.hid h
 have HB:=Lib.hid (And.intro ht (And.intro hg (And.intro hs (And.intro hv hgood))))
 have HP:=Lib.hid hP
 obtain ⟨s,hse⟩ : ∃ s,Hid (t.text = s):=⟨_,rfl⟩
 rw [hse.out] at HT
 obtain ⟨ps,hps⟩ : ∃ ps,Hid (t.parts = ps):=⟨_,rfl⟩
 have a1:=ja1 h.head 1
 have a4:=ja0 h.head
 simp only [gQa,gQz,gQs] at a1
 have hlk0 : Hid (∀ W,Memo jag B w W → (Instr.lookup 100 mv (.string s) true).run Tryz.prog W = .ok (.tuple #[.int .i64 0, .bool false]) W):=fun W hW => by
  rcases h.ids with ⟨rfl,_⟩ | ⟨g,es,clk,rfl,hgB,hm,hE⟩
  ·exact (jbI (kf:=Value.string) (z := .int .i64 0) Tryz.underlying100 Tryz.underlying9 jb9 (show (zeroValue 3).run Tryz.prog W = .ok (.int .i64 0) W by kernel_rfl) s).1
  ·exact (jbk (f:=numV) Tryz.underlying100 Tryz.underlying9 jb9 (show (zeroValue 3).run Tryz.prog W = .ok (.int .i64 0) W by kernel_rfl) (hW.obj _ _ hm (fun _ _ e => by cases e) (fun e => e)) hE s (jeh (by rw [← hse.out];exact hs))).1
 obtain ⟨k,n,nm,ns,ms,said,pv,nv,mkv,qs,hbc,hrow,hql,hqt⟩ : ∃ (k n : Int) (nm : ByteArray) (ns : List ByteArray) (ms : List Bool) (said : ByteArray) (pv nv mkv : Value) (qs : List Nat),w.heap[b]? = some (.cells (tyC k n nm pv nv mkv t.size said) TyT (0,0)) ∧ RowOf TpT (fun x => ¬ arS A tv mv x) w pv (qs.map ptrV) ∧ qs.length = ps.length ∧ ∀ (j q : Nat) (p : Ty),qs[j]? = some q → ps[j]? = some p → TyAt (fun x => ¬ arS A tv mv x) B w q p:=by
  rw [← hps.out]
  cases ht with
  | @mk _ k n nm ps ns ms said pv nv mkv qs hB hh hs hp hn hm hl hq => exact ⟨k,n,nm,ns,ms,said,pv,nv,mkv,qs,hh,hp,hl,hq⟩
 obtain ⟨pa,pcap,rfl,hpc,hpl,hrows⟩:=hrow
 rw [List.length_map] at hpc hpl hbc
 have HR:=Lib.hid (And.intro hrows hqt)
 have HBC:=Lib.hid hbc
 have hpne : Hid (∀ p ∈ ps,p.text ≠ ⟨#[]⟩):=fun p hp => jgb (HB.out.2.2.2.1.parts p (by rw [hps.out];exact hp))
 clear h hv ht hg hs hgood hP hsm hbc hrows hqt
 go_enter Tryz.func48,Tryz.ntmps48
 go_wp2_with fail
 go_region_law (first | (go_simp;go_at_call 61;refine (HT.out w.drew uq).mono ?_;rintro e w2 ⟨rfl,hm2⟩;have HM2:=Lib.hid ((Memo.of_up jag B (show Up w w.drew from uq)).trans hm2);have HA2:=Lib.hid (HA.out.memo HM2.out);have a1:=ja1 HA2.out.head 1;simp only [gQa,gQz,gQs] at a1;have a4:=ja0 HA2.out.head;have hlk:=hlk0.out w2 HM2.out;have b3 : w2.cell? ⟨b,3,none⟩ = some (.slice pa qs.length pcap):=(HM2.out.cell HBC.out (by decide)).trans (ja1 HBC.out 3);have bl:=HM2.out.lt (ja0 HBC.out)))
 all_goals (go_wp2_with fail)
 all_goals
  have HK2:=Lib.hid hm2
  clear hm2 hlk
  refine ja4 fun A2 W2 hA2 hW2 => ?_
  have hu2 : Up w2 W2:=by subst hW2;exact uq
  clear hW2
  subst hA2
  go_loopw [26] (fun i wr => ∃ j : Nat,j ≤ qs.length ∧ i = .int .i64 j ∧ LayJ B A bs ts tv mv dv w ps qs t.nodes j wr) (fun i _ => qs.length - (intOf i).toNat)
  case atStart => exact ⟨0,Nat.zero_le _,rfl,[],[],tv,mv,by rw [List.append_nil,List.append_nil];exact HA2.out.up hu2,LayM.of_memo (HM2.out.up hu2),by simp,by simp,by simp,fun i q p h => by omega⟩
  case round =>
   obtain ⟨j,hj,rfl,bs1,ts1,tv1,mv1,hS⟩:=hrel
   by_cases hlt : j < qs.length
   ·have hji : (j : Int) < qs.length:=by omega
    obtain ⟨q,hq⟩ : ∃ q,qs[j]? = some q:=⟨_,List.getElem?_eq_getElem hlt⟩
    obtain ⟨p,hp⟩ : ∃ p,ps[j]? = some p:=⟨_,List.getElem?_eq_getElem (by omega)⟩
    obtain ⟨g',off,cs,fz,rfl,f2,f3,f4⟩:=HR.out.1 j (ptrV q) (by rw [List.getElem?_map,hq];rfl)
    have y0 : wr.cell? ⟨g',off + j,none⟩ = some (.pointer (some ⟨q,0,none⟩)):=(ja1 (hS.lay.memo.cells f3 (by decide) f2) _).trans f4
    have hgl : g' < wr.heap.size:=ja0 (hS.lay.memo.cells f3 (by decide) f2)
    have HQ:=Lib.hid (And.intro (hS.lay.ty (HR.out.2 j q p hq hp)) (And.intro (HB.out.2.1.memo hS.lay.memo) (And.intro hp (And.intro (HP.out p (by rw [hps.out];exact List.mem_of_getElem? hp)) (show bs1.length + p.nodes < t.nodes by
     have:=hS.few
     have k1 : ((ps.take (j + 1)).map Ty.nodes).sum ≤ (ps.map Ty.nodes).sum:=by
      rw [← List.take_append_drop (j + 1) ps,List.map_append,List.sum_append,List.take_append_drop]
      omega
     have k2 : (ps.map Ty.nodes).sum < t.nodes:=by
      rw [← hps.out]
      cases t with
      | mk k n nm ps ns ms => rw [Ty.nodes_mk];show (ps.map Ty.nodes).sum < _;omega
     rw [List.take_add_one,hp] at k1
     simp only [Option.toList_some,List.map_append,List.map_cons,List.map_nil,List.sum_append,List.sum_cons,List.sum_nil] at k1
     omega)))))
    have HS:=Lib.hid hS
    have HQ2:=Lib.hid hq
    clear hS hq hp f2 f3 f4 hlt
    go_wp2_with (first | (go_at_call 48;refine (HQ.out.2.2.2.1 B A q (bs ++ bs1) (ts ++ ts1) tv1 mv1 dv _ (HS.out.are.up (show Up wr _ from uq)) (HQ.out.1.up uq) (HQ.out.2.1.memo (Memo.of_up jag B (show Up wr _ from uq))) (by have:=HQ.out.2.2.2.2;rw [List.length_append];omega)).mono ?_;rintro e w4 ⟨hR,hRt⟩;obtain ⟨i4,rfl,hJ⟩:=HS.out.next (show Up wr _ from uq) HQ.out.2.2.1 (by have:=HQ.out.2.2.2.2;omega) HQ2.out (fun i q p h1 h2 => HS.out.lay.ty (HR.out.2 i q p h1 h2)) hpne.out hR hRt;have HJ:=Lib.hid hJ;clear hR hRt hJ))
    exact ⟨⟨j + 1,by omega,by simp,HJ.out.up uq⟩,by simp [intOf];omega⟩
   ·obtain rfl : j = qs.length:=by omega
    clear hlt hlk0
    have H0:=Lib.hid (And.intro (hS.new (by have:=HB.out.2.2.2.1;exact this) HB.out.2.2.1) (And.intro hS.lay (And.intro hS.less (And.intro (show bs1.length + 1 ≤ t.nodes by
     have:=hS.few
     rw [hql,List.take_length] at this
     rw [← hps.out] at this
     cases t with
     | mk k n nm ps ns ms => rw [Ty.nodes_mk];have h9 : bs1.length ≤ (ps.map Ty.nodes).sum:=this;omega) (show ∀ p ∈ t.parts,∃ u ∈ ts ++ ts1,u.text = p.text by
       have:=hS.parts
       rw [hql,List.take_length, ← hps.out] at this
       exact this)))))
    have HTD : Hid (∀ (i q : Nat) (p : Ty),qs[i]? = some q → ps[i]? = some p → wr.cell? ⟨q,7,none⟩ = some (.string p.text)):=fun i q p h1 h2 => hS.told i q p (List.getElem?_eq_some_iff.1 h1).1 h1 h2
    have HS:=Lib.hid hS.are
    clear hS
    obtain ⟨BS,hBS⟩ : ∃ BS,Hid (bs ++ bs1 = BS):=⟨_,rfl⟩
    obtain ⟨TS,hTS⟩ : ∃ TS,Hid (ts ++ ts1 = TS):=⟨_,rfl⟩
    rw [hTS.out] at H0 HS
    rw [hBS.out] at HS
    have a1:=ja1 HS.out.head 1
    have f1:=jab HS.out.head 1
    have a4:=ja0 HS.out.head
    simp only [gQa,gQz,gQs] at a1
    have hmm:=@run_makeMap Tryz.prog
    obtain ⟨ta,tcap,rfl⟩:=ja7 HS.out.row
    have hBl : Hid (BS.length < 1000000):=by
     unfold Hid
     have:=H0.out.2.2.2.1
     rw [← hBS.out,List.length_append]
     omega
    rcases HS.out.ids with ⟨rfl,hnil⟩ | ⟨g,es,clk,rfl,hgB,hm,hE⟩
    all_goals first
     | (have hneq : ∀ w,(binOp .eql 100 (.map none) (.map none)).run Tryz.prog w = .ok (.bool true) w:=fun _ => by kernel_rfl
        clear hnil
        go_upto_region 11 with (fail)
        refine ja4 fun A2 W2 hA2' hW2 => ?_
        have hMp : Maps B A BS TS (.slice ta BS.length tcap) dv (.map none) wr W2 wr.heap.size #[] 0:=Maps.new HS.out (by subst hW2;exact jaa _ _ _ (by simp [jam])) (Nat.le_refl _) (by subst hW2;exact jah (ja6 (i:=1) HS.out.head _)) (by subst hW2;exact (Memo.cell1 (S:=fun x => x = A) HS.out.head (by decide) rfl HS.out.base _).up uq)
        clear hW2
        obtain ⟨g,hg⟩ : ∃ g,Hid (wr.heap.size = g):=⟨_,rfl⟩
        obtain ⟨es,hes⟩ : ∃ es,es = (#[] : Array MapEntry):=⟨_,rfl⟩
        obtain ⟨clk,hclk⟩ : ∃ n : Nat,n = 0:=⟨_,rfl⟩
        rw [hg.out] at hMp hA2'
        rw [← hes, ← hclk] at hMp
        have HMp:=Lib.hid (And.intro hMp.are (And.intro (H0.out.2.1.trans hMp.lay) (And.intro hMp.map hMp.ent)))
        have HTD2 : Hid (∀ (i q : Nat) (p : Ty),qs[i]? = some q → ps[i]? = some p → W2.cell? ⟨q,7,none⟩ = some (.string p.text)):=fun i q p h1 h2 => hMp.lay.memo.toldT (H0.out.2.1.ty (HR.out.2 i q p h1 h2)) (HTD.out i q p h1 h2) (hpne.out p (List.mem_of_getElem? h2))
        clear hMp hes hclk
        subst hA2')
     | (have hneq : ∀ w,(binOp .eql 100 (.map (some g)) (.map none)).run Tryz.prog w = .ok (.bool false) w:=fun _ => by kernel_rfl
        have HM:=Lib.hid (And.intro hm hE)
        clear hgB hm hE
        go_upto_region 11 with (fail)
        refine ja4 fun A2 W2 hA2' hW2 => ?_
        have hMp : Maps B A BS TS (.slice ta BS.length tcap) dv (.map (some g)) wr W2 g es clk:=Maps.there HS.out HM.out.1 HM.out.2 (by subst hW2;exact uq)
        clear hW2
        have HMp:=Lib.hid (And.intro hMp.are (And.intro (H0.out.2.1.trans hMp.lay) (And.intro hMp.map hMp.ent)))
        have HTD2 : Hid (∀ (i q : Nat) (p : Ty),qs[i]? = some q → ps[i]? = some p → W2.cell? ⟨q,7,none⟩ = some (.string p.text)):=fun i q p h1 h2 => hMp.lay.memo.toldT (H0.out.2.1.ty (HR.out.2 i q p h1 h2)) (HTD.out i q p h1 h2) (hpne.out p (List.mem_of_getElem? h2))
        clear hMp HM
        subst hA2')
    all_goals
     clear hneq hmm
     have HT2:=Lib.hid (fun W (hW : Up W2 W) => jiF HB.out.2.2.2.1 ⟨by have:=HB.out.2.2.2.2.1;omega,HB.out.2.2.2.2.2⟩ _ B b W ((HMp.out.2.1.ty HB.out.1).up hW) ((HB.out.2.1.memo HMp.out.2.1.memo).glob.up hW))
     rw [hse.out] at HT2
     have a1:=ja1 HMp.out.1.head 1
     have a0:=ja1 HMp.out.1.head 0
     have f0:=jab HMp.out.1.head 0
     have a4:=ja0 HMp.out.1.head
     simp only [gQa,gQz,gQs] at a0 a1
     have hbl2:=HMp.out.2.1.memo.lt (ja0 HBC.out)
     go_region_law (first | (go_simp;go_at_call 61;refine (HT2.out W2.drew uq).mono ?_;rintro e w5 ⟨rfl,hm5,ht5⟩;have HT5:=Lib.hid ht5;clear ht5;have HM5:=Lib.hid ((Memo.of_up jag B (show Up W2 W2.drew from uq)).trans hm5);have HA5:=Lib.hid (HMp.out.1.memo HM5.out);have a1:=ja1 HA5.out.head 1;have a0:=ja1 HA5.out.head 0;have f0:=jab HA5.out.head 0;simp only [gQa,gQz,gQs] at a0 a1;have a4:=ja0 HA5.out.head;have hg5 : Hid (w5.heap[g]? = some (.map es clk)):=HM5.out.obj _ _ HMp.out.2.2.1 (fun _ _ e => by cases e) (fun e => e);obtain ⟨es',clk',hst,hE'⟩:=jaP (f:=numV) (P:=Tryz.prog) (w:=w5) Tryz.underlying100 Tryz.underlying9 jb9 hg5.out HMp.out.2.2.2 s BS.length (jeh (by rw [← hse.out];exact H0.out.1));have HE':=Lib.hid hE'; have hst : (Instr.mapUpdate 100 (.map (some g)) (.string s) (.int .i64 BS.length)).run Tryz.prog w5 = .ok () (putB w5 g (.map es' clk')):=hst;clear hE' hm5))
     all_goals (go_upto_region 12 with (fail))
     all_goals
      refine ja4 fun A3 W3 hA3 hW3 => ?_
      have hAg : A ≠ g:=fun e => by
       have q:=hg5.out
       rw [← e,HA5.out.head] at q
       cases q
      have hz3 : W3.heap.size = w5.heap.size:=by subst hW3;exact jbK _ _ _
      have hot3 : ∀ x,x ≠ g → W3.heap[x]? = w5.heap[x]? := fun x hx => by subst hW3;exact jat _ _ _ _ hx
      have hg3 : Hid (W3.heap[g]? = some (.map es' clk')):=by subst hW3;exact jbL _ _ _ (ja0 hg5.out)
      have hos3 : Hid (W3.os = w5.os ∧ W3.tape = w5.tape ∧ W3.output = w5.output):=by subst hW3;exact ⟨rfl,rfl,rfl⟩
      clear hW3
      subst hA3
      have hhd3 : Hid (W3.heap[A]? = some (.cells #[.slice ta BS.length tcap, .map (some g),dv] ArT (0,0))):=(hot3 A hAg).trans HA5.out.head
      have hrb : ∀ g',(Value.slice ta BS.length tcap).ownBlock = some g' → ∃ cur,w5.heap[g']? = some (.cells cur TpT (0,0)):=fun g' hg' => by
       rcases HA5.out.row.2 with ⟨hv,_⟩ | ⟨g'',cap,cur,hv,_,hc,_⟩
       ·rw [hv] at hg'; cases hg'
       ·rw [hv] at hg'; cases hg'; exact ⟨cur,hc⟩
      have hrA : (Value.slice ta BS.length tcap).ownBlock ≠ some A:=fun e => by
       obtain ⟨cur,hc⟩:=hrb A e
       exact jb1 hc HA5.out.head (by decide) rfl
      have hrg : (Value.slice ta BS.length tcap).ownBlock ≠ some g:=fun e => by
       obtain ⟨cur,hc⟩:=hrb g e
       rw [hg5.out] at hc
       cases hc
      have row3 : Hid (W3.ownsRow 0 TpT 1 (.slice ta BS.length tcap) BS.length (BS.map ptrV)):=ja8 HA5.out.row fun g' hg' => hot3 g' (fun e => hrg (by rw [← e];exact hg'))
      have HZ:=Lib.hid (And.intro hot3 hrA)
      have hb5 : b < W3.heap.size:=by
       have:=HM5.out.lt hbl2
       omega
      have hfw:=hBl.out
      have a0:=ja1 hhd3.out 0
      have f0:=jab hhd3.out 0
      have a4:=ja0 hhd3.out
      simp only [gQa,gQz,gQs] at a0
      clear hot3 hrb hrA hrg hAg hst
      obtain ⟨i0,hi,hz0,hz1,hz2⟩:=info_parts jcN
      go_wp2_with (first | (at_builtin;go_must (refine jae rfl _ _ 99 rfl TpT i0 (.pointer none) 1 8 Tryz.underlying99 hi hz0 hz1 hz2 rfl (by decide) (.slice ta BS.length tcap) BS.length (BS.map ptrV) rfl (ja5 row3.out uq) _ 1 1 rfl (by first | rfl | (simp;done) | omega | (trace_state;exact rfl)) rfl (by intro u hu;have hu2 : u = .pointer (some ⟨b,0,none⟩):=(by simpa using hu);rw [hu2];rfl) (by unfold maxLen;omega) (by omega) ?_;intro sa' cap' w7 hown' hgrow hblk;(try simp only [gQw] at hblk);have hd:=Lib.hid (jan hgrow (Up.get (w:=W3) uq hhd3.out) HZ.out.2);have a0:=ja1 hd.out 0;have f0:=jab hd.out 0;have a4:=ja0 hd.out;simp only [gQa,gQz,gQs] at a0;have HY:=Lib.hid (And.intro hown' (And.intro hgrow hblk));clear hown' hgrow hblk)))
      all_goals
       go_ret
       have hL5:=HMp.out.2.1.trans (LayM.of_memo HM5.out)
       have hty5:=hL5.ty HB.out.1
       have hself5 : w5.cell? ⟨b,7,none⟩ = some (.string t.text):=by rw [hse.out];exact HT5.out
       have hask : Asked (fun x => ¬ arS A (.slice ta BS.length tcap) (.map (some g)) x) B w5 b t:=⟨hself5,jgb HB.out.2.2.2.1,_,qs,(hL5.memo.cell HBC.out (by decide)).trans (ja1 HBC.out 3),hL5.row (by decide) (show RowOf TpT (fun x => ¬ arS A tv mv x) w (.slice pa qs.length pcap) (qs.map ptrV) from ⟨pa,pcap,by rw [List.length_map],by rw [List.length_map];exact hpc,by rw [List.length_map];exact hpl,HR.out.1⟩),by rw [hps.out];exact hql,fun j q p hj hp => by
        rw [hps.out] at hp
        exact ⟨hL5.ty (HR.out.2 j q p hj hp),HM5.out.toldT (HMp.out.2.1.ty (HR.out.2 j q p hj hp)) (HTD2.out j q p hj hp) (hpne.out p (List.mem_of_getElem? hp)),hpne.out p (List.mem_of_getElem? hp)⟩⟩
       obtain ⟨tv',h1,h2⟩:=Are.laid rfl HA5.out hty5 hask HB.out.2.2.2 H0.out.1 H0.out.2.2.2.2 hz3 HZ.out.1 hg3.out hos3.out (by rw [hse.out];exact HE'.out) HY.out.1 HY.out.2.1 HY.out.2.2
       exact ⟨LayR.new hBS.out hTS.out H0.out.2.2.1 H0.out.2.2.2.1 h1 (hL5.trans h2),h2.memo.toldT hty5 hself5 hask.ne⟩
theorem jo8 {t : Ty} (hv : t.Valid) : t.nodes ≤ 500 → t.namesLe 2000000 → jlS t:=by
 suffices h : ∀ (n : Nat) (t : Ty),t.nodes ≤ n → t.Valid → t.nodes ≤ 500 → t.namesLe 2000000 → jlS t from h _ t (Nat.le_refl _) hv
 intro n
 induction n with
 | zero => intro t h;have:=t.nodes_pos;omega
 | succ n ih =>
   intro t hn hv h1 h2 B A b bs ts tv mv dv w hA ht hg hf
   by_cases hi : t.text ∈ ts.map Ty.text
   ·obtain ⟨i,hi⟩:=List.getElem?_of_mem hi
    refine (jo7 t hv ⟨by omega,h2⟩ B A b bs ts tv mv dv i w hA ht hg hi).mono ?_
    rintro e w' ⟨rfl,hm,htd⟩
    refine ⟨⟨i,[],[],tv,mv,rfl,?_,LayM.of_memo hm,?_,Nat.zero_le _,fun u hu => by cases hu⟩,htd⟩
    ·rw [List.append_nil,List.append_nil]
     exact hA.memo hm
    ·rw [List.append_nil]
     exact hi
   ·refine jmy t hv ⟨h1,h2⟩ (fun p hp => ?_) B A b bs ts tv mv dv w hA ht hg hf hi
    have h3 : p.nodes < t.nodes:=by
     cases t with
     | mk k n nm ps ns ms => exact Ty.part_nodes hp
    exact ih p (by omega) (hv.parts p hp) (by omega) (Ty.namesLe_part h2 p hp)
end Go.Proofs.YtiaepldmgighbaaGreatDoor
