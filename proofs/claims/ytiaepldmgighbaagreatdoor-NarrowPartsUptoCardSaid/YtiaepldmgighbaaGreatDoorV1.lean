import Derived.Test.YtiaepldmgighbaaGreatDoorU51
namespace Go.Proofs.YtiaepldmgighbaaGreatDoor
open Go.RowKit
set_option linter.unusedSimpArgs false
set_option linter.unusedVariables false
theorem unionF_congr {F G : List Ty} (hF : Fl F) (hG : Fl G) (h : ∀ x,x ∈ F ↔ x ∈ G) : jaR F = jaR G:=by
 have hr : ∀ x,x ∈ jbg F ↔ x ∈ jbg G:=fun x => by rw [jaf,jaf,h,Goes.congr h]
 have hs : jbH (jbg F) = jbH (jbg G):=by
  refine jbW (jaS _) (jaS _) fun x => ?_
  rw [jbj _ (fun a ha b hb => hF.key a (jaf.1 ha).1 b (jaf.1 hb).1),jbj _ (fun a ha b hb => hG.key a (jaf.1 ha).1 b (jaf.1 hb).1)]
  exact hr x
 unfold jaR
 simp only [h,hs]
theorem unionF_rest {F G : List Ty} (hF : Fl F) (hG : Fl G) : jaR ((jaR F).flat ++ G) = jaR (F ++ G):=by
 classical
 have hFG : Fl (F ++ G):=fun x hx => by rcases List.mem_append.1 hx with q | q;exact hF x q;exact hG x q
 by_cases h1 : ∃ x ∈ F,x.kind = 1
 ·have e : jaR F = ja3 1:=by unfold jaR;rw [if_pos h1]
  rw [e]
  have e1 : jaR ((ja3 1).flat ++ G) = ja3 1:=by
   unfold jaR
   rw [if_pos ⟨ja3 1,by simp [Ty.flat,ja3,Ty.kind],rfl⟩]
  have e2 : jaR (F ++ G) = ja3 1:=by
   unfold jaR
   obtain ⟨x,hx,hk⟩:=h1
   rw [if_pos ⟨x,by simp [hx],hk⟩]
  rw [e1,e2]
 by_cases h2 : ∃ x ∈ F,x.kind = 2
 ·have e : jaR F = ja3 2:=by unfold jaR;rw [if_neg h1,if_pos h2]
  rw [e]
  by_cases h3 : ∃ x ∈ G,x.kind = 1
  ·obtain ⟨x,hx,hk⟩:=h3
   unfold jaR
   rw [if_pos ⟨x,by simp [hx],hk⟩,if_pos ⟨x,by simp [hx],hk⟩]
  ·unfold jaR
   obtain ⟨x,hx,hk⟩:=h2
   rw [if_neg,if_pos ⟨ja3 2,by simp [Ty.flat,ja3,Ty.kind],rfl⟩,if_neg,if_pos ⟨x,by simp [hx],hk⟩]
   ·rintro ⟨y,hy,hy1⟩
    rcases List.mem_append.1 hy with q | q
    ·exact h1 ⟨y,q,hy1⟩
    ·exact h3 ⟨y,q,hy1⟩
   ·rintro ⟨y,hy,hy1⟩
    rcases List.mem_append.1 hy with q | q
    ·have q : y ∈ [ja3 2]:=q
     cases List.mem_singleton.1 q
     exact absurd hy1 (by decide)
    ·exact h3 ⟨y,q,hy1⟩
 have e : jaR F = jec (jbH (jbg F)):=by unfold jaR;rw [if_neg h1,if_neg h2]
 have hkey : jjm (jbg F):=fun a ha b hb => hF.key a (jaf.1 ha).1 b (jaf.1 hb).1
 have hsm:=jbj _ hkey
 have hfl : ∀ x,x ∈ (jaR F).flat → x ∈ jbg F ∨ x = ja3 3:=fun x hx => by
  rw [e,jdK (fun y hy => (hF y (jaf.1 ((hsm y).1 hy)).1).2)] at hx
  split at hx
  ·exact .inr (List.mem_singleton.1 hx)
  ·exact .inl ((hsm x).1 hx)
 have hfl2 : ∀ x ∈ jbg F,x ∈ (jaR F).flat:=fun x hx => by
  rw [e,jdK (fun y hy => (hF y (jaf.1 ((hsm y).1 hy)).1).2),if_neg (fun q => by
   have:=(hsm x).2 hx
   rw [q] at this
   cases this)]
  exact (hsm x).2 hx
 have hA : Fl ((jaR F).flat ++ G):=fun x hx => by
  rcases List.mem_append.1 hx with q | q
  ·rcases hfl x q with q | q
   ·exact hF x (jaf.1 q).1
   ·subst q;exact ⟨CV.basic (by decide) (by decide),by decide⟩
  ·exact hG x q
 have hk : ∀ k : Int,k = 1 ∨ k = 2 → ((∃ x ∈ (jaR F).flat ++ G,x.kind = k) ↔ ∃ x ∈ F ++ G,x.kind = k):=fun k hk => by
  constructor
  ·rintro ⟨x,hx,hxk⟩
   rcases List.mem_append.1 hx with q | q
   ·rcases hfl x q with q | q
    ·exact ⟨x,by simp [(jaf.1 q).1],hxk⟩
    ·subst q
     exact absurd hxk (by simp only [ja3,Ty.kind];omega)
   ·exact ⟨x,by simp [q],hxk⟩
  ·rintro ⟨x,hx,hxk⟩
   rcases List.mem_append.1 hx with q | q
   ·rcases hk with rfl | rfl
    ·exact (h1 ⟨x,q,hxk⟩).elim
    ·exact (h2 ⟨x,q,hxk⟩).elim
   ·exact ⟨x,by simp [q],hxk⟩
 have hr : ∀ x,x ∈ jbg ((jaR F).flat ++ G) ↔ x ∈ jbg (F ++ G):=fun x => by
  have g1 : ∀ y,Goes ((jaR F).flat ++ G) y → Goes (F ++ G) y:=fun y hy => by
   have key : ∀ q : Ty,q ∈ (jaR F).flat ++ G → q.kind ≠ 3 → q ∈ F ++ G:=fun q hq hq3 => by
    rcases List.mem_append.1 hq with r | r
    ·rcases hfl q r with r | r
     ·simp [(jaf.1 r).1]
     ·subst r;exact absurd rfl hq3
    ·simp [r]
   rcases hy with hg | ⟨hg,q,hq,hr⟩ | ⟨hg,q,hq,hr⟩ | ⟨hg,q,hq,hr,he⟩
   ·exact .inl hg
   ·exact .inr (.inl ⟨hg,q,key q hq (by omega),hr⟩)
   ·exact .inr (.inr (.inl ⟨hg,q,key q hq (by omega),hr⟩))
   ·exact .inr (.inr (.inr ⟨hg,q,key q hq (by omega),hr,he⟩))
  have g2 : ∀ y,Goes (F ++ G) y → Goes ((jaR F).flat ++ G) y:=fun y hy => by
   have key : ∀ q ∈ F ++ G,q.kind = 7 ∨ q.kind = 8 ∨ q.kind = 19 → q ∈ (jaR F).flat ++ G:=fun q hq hk => by
    rcases List.mem_append.1 hq with r | r
    ·refine List.mem_append.2 (.inl (hfl2 q (jaf.2 ⟨r,fun hg => ?_⟩)))
     rcases hg with hg | ⟨hg,_⟩ | ⟨hg,_⟩ | ⟨hg,_⟩ <;> omega
    ·exact List.mem_append.2 (.inr r)
   rcases hy with hg | ⟨hg,q,hq,hr⟩ | ⟨hg,q,hq,hr⟩ | ⟨hg,q,hq,hr,he⟩
   ·exact .inl hg
   ·exact .inr (.inl ⟨hg,q,key q hq (.inl hr),hr⟩)
   ·exact .inr (.inr (.inl ⟨hg,q,key q hq (.inr (.inl hr)),hr⟩))
   ·exact .inr (.inr (.inr ⟨hg,q,key q hq (.inr (.inr hr)),hr,he⟩))
  rw [jaf,jaf]
  constructor
  ·rintro ⟨hx,hn⟩
   refine ⟨?_,fun q => hn (g2 x q)⟩
   rcases List.mem_append.1 hx with q | q
   ·rcases hfl x q with q | q
    ·simp [(jaf.1 q).1]
    ·subst q;exact absurd (.inl rfl) hn
   ·simp [q]
  ·rintro ⟨hx,hn⟩
   refine ⟨?_,fun q => hn (g1 x q)⟩
   rcases List.mem_append.1 hx with q | q
   ·exact List.mem_append.2 (.inl (hfl2 x (jaf.2 ⟨q,fun hg => hn (hg.mono fun y hy => by simp [hy])⟩)))
   ·simp [q]
 have hs : jbH (jbg ((jaR F).flat ++ G)) = jbH (jbg (F ++ G)):=by
  refine jbW (jaS _) (jaS _) fun x => ?_
  rw [jbj _ (fun a ha b hb => hA.key a (jaf.1 ha).1 b (jaf.1 hb).1),jbj _ (fun a ha b hb => hFG.key a (jaf.1 ha).1 b (jaf.1 hb).1)]
  exact hr x
 have k1:=hk 1 (.inl rfl)
 have k2:=hk 2 (.inr rfl)
 unfold jaR at k1 k2 hs ⊢
 simp only [k1,k2,hs]
theorem unionC_congr {l m : List Ty} (hl : ∀ t ∈ l,CV t) (hm : ∀ t ∈ m,CV t) (h : ∀ x,x ∈ l.flatMap Ty.flat ↔ x ∈ m.flatMap Ty.flat) : jal l = jal m:=unionF_congr (Fl.of hl) (Fl.of hm) h
theorem unionC_nest {l m : List Ty} (hl : ∀ t ∈ l,CV t) (hm : ∀ t ∈ m,CV t) : jal (jal m :: l) = jal (m ++ l):=by
 unfold jal
 rw [List.flatMap_cons,List.flatMap_append]
 exact unionF_rest (Fl.of hm) (Fl.of hl)
theorem valid_never {x : Ty} (h : x.Valid) (hk : x.kind = 3) : x = ja3 3:=by
 have:=h.low (by omega)
 rw [hk] at this
 exact this
theorem keep_parts {asked : Bool} {says : Ty → Int} {ins : Ty → Ty} {t u : Ty} (ht : CV t) (hu : CV u) (hi : ∀ x ∈ t.flat ++ u.flat,says x = 2 → CV (ins x)) (h3 : says (ja3 3) = 2 ∧ ins (ja3 3) = ja3 3)
  (hf : ∀ x ∈ t.flat ++ u.flat,x.kind = 3 ∨ x ∈ (jal [t,u]).flat) : keepC asked says ins (jal [t,u]) = jal [keepC asked says ins t,keepC asked says ins u]:=by
 have hFt:=ht.flat
 have hFu:=hu.flat
 have hG : Fl (t.flat ++ u.flat):=fun x hx => by
  rcases List.mem_append.1 hx with q | q
  ·exact hFt x q
  ·exact hFu x q
 have hct : ∀ y ∈ jaN asked says ins t.flat,CV y:=jmB (fun x hx => (hFt x hx).1) fun x hx => hi x (List.mem_append_left _ hx)
 have hcu : ∀ y ∈ jaN asked says ins u.flat,CV y:=jmB (fun x hx => (hFu x hx).1) fun x hx => hi x (List.mem_append_right _ hx)
 have htu : ∀ x ∈ [t,u],CV x:=fun x hx => by
  simp only [List.mem_cons,List.not_mem_nil,or_false] at hx
  rcases hx with rfl | rfl <;> assumption
 have hin : ∀ x ∈ (jal [t,u]).flat,x ∈ t.flat ++ u.flat ∨ x = ja3 3:=fun x hx => by
  have:=jcM htu hx
  simpa using this
 have hcU : ∀ y ∈ jaN asked says ins (jal [t,u]).flat,CV y:=fun y hy => by
  obtain ⟨x,h1,_,⟨q3,q4,rfl⟩ | ⟨_,rfl⟩⟩:=jdv.1 hy
  ·rcases hin x h1 with q | rfl
   ·exact hi x q q3
   ·rw [h3.2];exact CV.basic (by decide) (by decide)
  ·exact ((jdf htu).flat _ h1).1
 have e1 : jal [keepC asked says ins t,keepC asked says ins u] = jal (jaN asked says ins (t.flat ++ u.flat)):=by
  unfold keepC
  rw [unionC_nest (l := [jal (jaN asked says ins u.flat)]) (fun x hx => by rw [List.mem_singleton.1 hx];exact jdf hcu) hct,jhp]
  have h2 : jal (jaN asked says ins t.flat ++ [jal (jaN asked says ins u.flat)]) = jal (jal (jaN asked says ins u.flat) :: jaN asked says ins t.flat):=by
   refine unionC_congr (fun x hx => ?_) (fun x hx => ?_) (fun x => ?_)
   ·rcases List.mem_append.1 hx with q | q
    ·exact hct x q
    ·rw [List.mem_singleton.1 q];exact jdf hcu
   ·rcases List.mem_cons.1 hx with q | q
    ·rw [q];exact jdf hcu
    ·exact hct x q
   ·simp only [List.flatMap_append,List.flatMap_cons,List.flatMap_nil,List.append_nil,List.mem_append]
    exact Or.comm
  rw [h2,unionC_nest hct hcu]
  refine unionC_congr (fun x hx => ?_) (fun x hx => ?_) (fun x => ?_)
  ·rcases List.mem_append.1 hx with q | q
   ·exact hcu x q
   ·exact hct x q
  ·rcases List.mem_append.1 hx with q | q
   ·exact hct x q
   ·exact hcu x q
  ·simp only [List.flatMap_append,List.mem_append]
   exact Or.comm
 rw [e1]
 show jaR _ = jaR _
 refine jgK (Fl.of hcU) (Fl.of fun y hy => by rw [jhp] at hy;rcases List.mem_append.1 hy with q | q;exact hct y q;exact hcu y q) fun x hx => ?_
 have key : ∀ L M : List Ty,(∀ y ∈ L,y ∈ M ∨ y = ja3 3) → x ∈ (jaN asked says ins L).flatMap Ty.flat → x ∈ (jaN asked says ins M).flatMap Ty.flat:=fun L M hLM hm => by
  obtain ⟨y,hy,hxy⟩:=List.mem_flatMap.1 hm
  obtain ⟨z,h1,h2,hz⟩:=jdv.1 hy
  rcases hLM z h1 with q | rfl
  ·exact List.mem_flatMap.2 ⟨y,jdv.2 ⟨z,q,h2,hz⟩,hxy⟩
  ·have hy3 : y = ja3 3:=by
    rcases hz with ⟨_,_,e⟩ | ⟨_,e⟩
    ·rw [e,h3.2]
    ·exact e
   rw [hy3,jbO 3 (by decide),List.mem_singleton] at hxy
   rw [hxy] at hx
   exact absurd rfl hx
 refine ⟨key _ _ hin,key _ _ fun y hy => ?_⟩
 rcases hf y hy with q | q
 ·exact .inr (valid_never (hG y hy).1.valid q)
 ·exact .inl q
theorem Ty.Valid.counts {t : Ty} (h : t.Valid) : (t.kind = 13 ∨ t.kind = 20 ∨ t.kind = 15 → t.parts ≠ []) ∧ (t.kind = 14 → t.parts.length ≤ t.names.length ∧ t.parts.length ≤ t.marks.length) ∧ (t.kind = 15 → t.parts.length ≤ t.marks.length + 1):=by
 cases h <;> simp only [Ty.kind,Ty.parts,Ty.names,Ty.marks] <;> refine ⟨fun h => ?_,fun h => ?_,fun h => ?_⟩ <;> first | omega | simp
theorem NOk.snd {t : Ty} (h : NOk t) : Snd t:=by
 induction h with
 | @mk k n nm ps ns ms hp hc ih =>
   rw [jgo] at hc
   by_cases hk : k = 16
   ·subst hk
    exact .mk (fun h => by omega) (fun h => by omega) (fun h => by omega) ih
   ·rw [if_neg hk] at hc
    have e : (ps.map jbm).length = ps.length:=List.length_map ..
    obtain ⟨k1,k2,k3⟩:=hc.valid.counts
    simp only [Ty.kind,Ty.parts,Ty.names,Ty.marks] at k1 k2 k3
    rw [e] at k2 k3
    exact .mk (fun h e2 => k1 h (List.length_eq_zero_iff.1 (by rw [e,e2];rfl))) k2 k3 ih
theorem jnA {t u : Ty} (ht : NOk t) (hu : NOk u) (h : ∀ x ∈ (jaA t).flat ++ (jaA u).flat,x.kind = 3 ∨ ∃ y ∈ (jbi [jaA t,jaA u]).flat,dt y = dt x) :
  ∀ x ∈ (jbm t).flat ++ (jbm u).flat,x.kind = 3 ∨ x ∈ (jal [jbm t,jbm u]).flat:=fun x hx => by
 have hcv : ∀ z ∈ [jaA t,jaA u],CV z.canon:=fun z hz => by
  simp only [List.mem_cons,List.not_mem_nil,or_false] at hz
  rcases hz with rfl | rfl
  ·rw [ht.norm];exact ht.cv
  ·rw [hu.norm];exact hu.cv
 have e1 : jal [jbm t,jbm u] = (jbi [jaA t,jaA u]).canon:=by
  rw [je2 hcv, ← ht.norm, ← hu.norm]
  rfl
 have fl : ∀ z : Ty,z.canon.flat = z.flat.map Ty.canon:=fun z => by
  have:=jda [z]
  simpa using this
 have cvf : ∀ z : Ty,CV z.canon → ∀ y : Ty,y ∈ z.flat → CV y.canon:=fun z hz y hy => (hz.flat y.canon (by rw [fl];exact List.mem_map_of_mem hy)).1
 have hU : CV (jbi [jaA t,jaA u]).canon:=by
  rw [← e1]
  exact jdf fun z hz => by
   simp only [List.mem_cons,List.not_mem_nil,or_false] at hz
   rcases hz with rfl | rfl
   ·exact ht.cv
   ·exact hu.cv
 obtain ⟨x0,hx0,hxc,rfl⟩ : ∃ x0,x0 ∈ (jaA t).flat ++ (jaA u).flat ∧ CV x0.canon ∧ x0.canon = x:=by
  rw [← ht.norm, ← hu.norm,fl,fl,List.mem_append,List.mem_map,List.mem_map] at hx
  rcases hx with ⟨y,hy,rfl⟩ | ⟨y,hy,rfl⟩
  ·exact ⟨y,List.mem_append_left _ hy,cvf _ (hcv _ (by simp)) y hy,rfl⟩
  ·exact ⟨y,List.mem_append_right _ hy,cvf _ (hcv _ (by simp)) y hy,rfl⟩
 rcases h x0 hx0 with hk | ⟨y,hy,e⟩
 ·exact .inl (by rw [Ty.canon_kind];exact hk)
 ·refine .inr ?_
  have hyc:=cvf _ hU y hy
  rw [jka hyc,jka hxc, ← Ty.text_canon y, ← Ty.text_canon x0] at e
  have e2:=hyc.text_inj hxc e
  rw [e1,fl, ← e2]
  exact List.mem_map_of_mem hy
theorem jkD {w0 W : World} {A : Nat} {bs : List Nat} {ts : List Ty} {tv mv : Value} (h : Sta w0 W A bs ts tv mv) {i : Nat} {t : Ty} (hi : ts[i]? = some t) :
  Calls Tryz.prog 27 #[.pointer (some ⟨A,0,none⟩), .int .i64 i] W fun e w' => e = .returned (.string t.text) ∧ Sta w0 w' A bs ts tv mv :=
 (jot (.map none) w0.heap.size A bs ts tv mv i t W h.are hi h.glob).mono fun e w' ⟨he,hm⟩ => ⟨he,h.step (h.are.memo hm) (LayM.of_memo hm)⟩
def SomeB (w : World) (e : Ending) (w' : World) : Prop := ∃ b : Bool,e = .returned (.bool b) ∧ Up w w'
set_option maxRecDepth 100000
set_option maxHeartbeats 6400000
theorem jjk (B : Nat) : ∀ (m : Nat) (t : Ty) (us : List Value) (w : World),t.nodes ≤ m → TIs B w us t → B ≤ w.heap.size → Calls Tryz.prog 37 #[.agg us.toArray] w (SomeB w):=by
 intro m
 induction m with
 | zero => intro t us w h;have:=t.nodes_pos;omega
 | succ m ih =>
   intro t us w hm h hB
   cases h with
   | @mk k n nm pa cap nv mv ps ns ms us hn1 hn2 hnm hnv hln hsm hmv hlm hl hpl hpc hc hq =>
     have hsum : Hid ((Ty.mk k n nm ps ns ms).nodes = 1 + sumN ps):=Ty.nodes_mk _ _ _ _ _ _
     have HP:=Lib.hid (fun (j : Nat) (hj : j < ps.length) => jcP hl hc hq hj)
     have IH:=Lib.hid ih
     have HB:=Lib.hid (And.intro hB hm)
     obtain ⟨na,ncap,rfl,_,_⟩:=hnv.form
     obtain ⟨ma,mcap,rfl,_,_⟩:=hmv.form
     obtain ⟨nl,hnl⟩ : ∃ nl,Hid ((ns.map Value.string).length = nl):=⟨_,rfl⟩
     obtain ⟨ml,hml⟩ : ∃ ml,Hid ((ms.map Value.bool).length = ml):=⟨_,rfl⟩
     rw [hnl.out,hml.out]
     obtain ⟨lp,hlp⟩ : ∃ lp,Hid (ps.length = lp):=⟨_,rfl⟩
     rw [hlp.out] at HP hpl ⊢
     clear ih hm hB hl hc hq hn1 hn2 hnm hnv hln hsm hmv hlm hnl hml
     go_enter Tryz.func37,Tryz.ntmps37
     go_upto_region 1 with (fail)
     refine ja4 fun A2 W2 hA2 hW2 => ?_
     have hu0 : Hid (Up w W2):=by subst hW2;exact uq
     obtain ⟨q,hq⟩ : ∃ q,Hid (w.heap.size = q):=⟨_,rfl⟩
     have HQ : Hid (W2.heap[q]? = some (.cells #[.int .i64 k, .int .i64 n, .string nm, .slice pa lp cap, .slice na nl ncap, .slice ma ml mcap] RefT (0,0))):=by subst hW2;rw [← hq.out];exact jaa _ _ _ rfl
     rw [hq.out] at hA2
     clear hW2
     subst hA2
     have s0:=HQ.out
     obtain ⟨q0,p0,q1,p1,q2,p2,q3,p3,q4,p4,q5,p5,q9⟩:=uc6 s0;clear s0
     by_cases hk : k = 1
     ·subst hk
      go_wp2_with fail
      go_ret
      exact ⟨true,rfl,hu0.out.trans (show Up W2 _ from uq)⟩
     have hk1 : (k == 1) = false:=beq_eq_false_iff_ne.2 hk
     clear hk
     go_wp2_with fail
     go_loopw [3] (fun i wr => ∃ j : Nat,j ≤ lp ∧ i = .int .i64 j ∧ Up W2 wr) (fun i _ => lp - (intOf i).toNat)
     case atStart => exact ⟨0,Nat.zero_le _,rfl,uq⟩
     case round =>
      obtain ⟨j,hj,rfl,hup⟩:=hrel
      have HU:=Lib.hid (hu0.out.trans hup)
      have s0:=hup.get HQ.out
      obtain ⟨q0,p0,q1,p1,q2,p2,q3,p3,q4,p4,q5,p5,q9⟩:=uc6 s0;clear s0
      by_cases hlt : j < lp
      ·have hji : (j : Int) < lp:=by omega
       obtain ⟨p,b,off,u0,u1,u2,u3,u4,u5,hp,rfl,hb,c0,c1,c2,c3,c4,c5,ht⟩:=HP.out j hlt
       have hbw:=Nat.lt_of_lt_of_le hb HB.out.1
       have c0:=(HU.out.cells _ _ hbw).trans c0
       have c1:=(HU.out.cells _ _ hbw).trans c1
       have c2:=(HU.out.cells _ _ hbw).trans c2
       have c3:=(HU.out.cells _ _ hbw).trans c3
       have c4:=(HU.out.cells _ _ hbw).trans c4
       have c5:=(HU.out.cells _ _ hbw).trans c5
       have hbl:=Nat.lt_of_lt_of_le hbw HU.out.size
       have HT:=Lib.hid (fun W (hW : Up w W) => IH.out p [u0,u1,u2,u3,u4,u5] W (by have:=jdj (List.mem_of_getElem? hp);have:=hsum.out;have:=HB.out;omega) (ht.low (hW.below HB.out.1)) (Nat.le_trans HB.out.1 hW.size))
       clear hp ht hlt
       go_wp2_with (first | (go_at_call 37;refine (HT.out _ (HU.out.trans (show Up wr _ from uq))).mono ?_;(rintro e w2 ⟨(_ | _),rfl,hu2⟩)))
       all_goals first
        | (go_ret;exact ⟨true,rfl,HU.out.trans (show Up wr _ from uq)⟩)
        | exact ⟨⟨j + 1,by omega,by simp,uq⟩,by simp [intOf];omega⟩
      ·obtain rfl : j = lp:=by omega
       clear hlt
       go_wp2_with fail
       go_ret
       exact ⟨false,rfl,HU.out.trans (show Up wr _ from uq)⟩
end Go.Proofs.YtiaepldmgighbaaGreatDoor
