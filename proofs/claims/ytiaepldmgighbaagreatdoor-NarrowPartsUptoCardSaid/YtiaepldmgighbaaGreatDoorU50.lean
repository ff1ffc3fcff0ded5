import Derived.Test.YtiaepldmgighbaaGreatDoorU48
import Derived.Test.YtiaepldmgighbaaGreatDoorU44
namespace Go.Proofs.YtiaepldmgighbaaGreatDoor
open Go.RowKit
set_option linter.unusedSimpArgs false
set_option linter.unusedVariables false
theorem Ty.Valid.kn {t : Ty} (h : t.Valid) : Kn t:=by
 induction h with
 | basic h1 h2 => exact .mk h1 (by omega) (fun p hp => by cases hp)
 | num => exact .mk (by decide) (by decide) (fun p hp => by cases hp)
 | str => exact .mk (by decide) (by decide) (fun p hp => by cases hp)
 | arr hp ih => exact .mk (by decide) (by decide) (fun p h => by cases List.mem_singleton.1 h;exact ih)
 | obj xs hn hr hp ih => exact .mk (by decide) (by decide) (fun p h => by obtain ⟨x,hx,rfl⟩:=List.mem_map.1 h;exact ih x hx)
 | fn xs r ho hp hr ih1 ih2 =>
   refine .mk (by decide) (by decide) (fun p h => ?_)
   rcases List.mem_append.1 h with h | h
   ·obtain ⟨x,hx,rfl⟩:=List.mem_map.1 h;exact ih1 x hx
   ·cases List.mem_singleton.1 h;exact ih2
 | un ps hl hk hs hg hp ih => exact .mk (by decide) (by decide) ih
 | ref ps h1 h2 hn hp ih => exact .mk (by decide) (by decide) ih
 | named hk h1 h2 hn => exact .mk (by omega) (by omega) (fun p hp => by cases hp)
 | case h1 h2 hn h1' h2' hn' => exact .mk (by decide) (by decide) (fun p h => by cases List.mem_singleton.1 h;exact .mk (by decide) (by decide) (fun p h => by cases h))
theorem Kn.of_canon : ∀ (m : Nat) (t : Ty),t.nodes ≤ m → Kn t.canon → Kn t:=by
 intro m
 induction m with
 | zero => intro t h;have:=t.nodes_pos;omega
 | succ m ih =>
   intro t h hk
   cases t with
   | mk k n nm ps ns ms =>
     rw [Ty.canon_mk] at hk
     obtain ⟨h1,h2⟩:=hk.part
     exact .mk h1.1 h1.2 fun p hp => ih p (by have:=Ty.part_nodes (k:=k) (n:=n) (nm:=nm) (ns:=ns) (ms:=ms) hp;omega) (h2 _ (List.mem_map_of_mem hp))
theorem jka {x : Ty} (h : CV x.canon) : dt x = x.text:=(Kn.of_canon _ x (Nat.le_refl _) h.valid.kn).dt
theorem jiL {x : Ty} (h : CV x.canon) : jbh x = x.canon.partT:=by
 unfold jbh
 rw [jka h,Ty.partT_canon]
 rfl
theorem jda (l : List Ty) : (l.map Ty.canon).flatMap Ty.flat = (l.flatMap Ty.flat).map Ty.canon:=by
 induction l with
 | nil => rfl
 | cons x r ih => rw [List.map_cons,List.flatMap_cons,List.flatMap_cons,List.map_append,jdW,ih]
theorem jg4 {x : Ty} (h : CV x.canon) (hk : x.kind = 20) : ∃ e,x.parts = [e] ∧ CV e.canon:=by
 have hv:=h.valid
 have hp:=h.parts
 rw [Ty.canon_parts] at hp
 have hl : x.canon.parts.length = 1:=by
  rw [← Ty.canon_kind] at hk
  generalize x.canon = y at hv hk
  cases hv with
  | case => rfl
  | basic h1 h2 => exact absurd hk (by simp only [Ty.kind];omega)
  | num => exact absurd hk (by simp only [Ty.kind];omega)
  | str => exact absurd hk (by simp only [Ty.kind];omega)
  | arr => exact absurd hk (by simp only [Ty.kind];omega)
  | obj => exact absurd hk (by simp only [Ty.kind];omega)
  | fn => exact absurd hk (by simp only [Ty.kind];omega)
  | un => exact absurd hk (by simp only [Ty.kind];omega)
  | ref => exact absurd hk (by simp only [Ty.kind];omega)
  | named hk' => exact absurd hk (by simp only [Ty.kind];omega)
 rw [Ty.canon_parts,List.length_map] at hl
 match hx : x.parts,hl with
 | [e],_ => exact ⟨e,rfl,hp e.canon (by rw [hx];simp)⟩
theorem jhv {x : Ty} {F : List Ty} (hx : CV x.canon) (hF : ∀ y ∈ F,CV y.canon) : jcd x F = true ↔ Goes (F.map Ty.canon) x.canon:=by
 have hany : ∀ k : Int,(F.any (fun y => y.kind == k) = true ↔ ∃ q ∈ F.map Ty.canon,q.kind = k):=fun k => by
  rw [List.any_eq_true]
  constructor
  ·rintro ⟨y,h1,h2⟩
   exact ⟨y.canon,List.mem_map_of_mem h1,by rw [Ty.canon_kind];simpa using h2⟩
  ·rintro ⟨q,h1,h2⟩
   obtain ⟨y,hy,rfl⟩:=List.mem_map.1 h1
   exact ⟨y,hy,by rw [Ty.canon_kind] at h2;simpa using h2⟩
 have h20 : x.kind = 20 → (F.any (fun y => y.kind == 19 && decide (dt y = dt (part x 0))) = true ↔ ∃ q ∈ F.map Ty.canon,q.kind = 19 ∧ ∃ e ∈ x.canon.parts,q.text = e.text):=fun hk => by
  obtain ⟨e,he,hce⟩:=jg4 hx hk
  have hp : part x 0 = e:=by unfold part;rw [he];rfl
  rw [hp,List.any_eq_true,Ty.canon_parts,he,jka hce]
  constructor
  ·rintro ⟨y,h1,h2⟩
   simp only [Bool.and_eq_true,beq_iff_eq,decide_eq_true_eq] at h2
   refine ⟨y.canon,List.mem_map_of_mem h1,by rw [Ty.canon_kind];exact h2.1,e.canon,by simp,?_⟩
   rw [Ty.text_canon,Ty.text_canon, ← h2.2,jka (hF y h1)]
  ·rintro ⟨q,h1,h2,e',h3,h4⟩
   obtain ⟨y,hy,rfl⟩:=List.mem_map.1 h1
   simp only [List.map_cons,List.map_nil,List.mem_singleton] at h3
   subst h3
   refine ⟨y,hy,?_⟩
   rw [Ty.canon_kind] at h2
   rw [Ty.text_canon,Ty.text_canon] at h4
   simp only [Bool.and_eq_true,beq_iff_eq,decide_eq_true_eq]
   exact ⟨h2,by rw [jka (hF y hy),h4]⟩
 unfold jcd Goes
 rw [Ty.canon_kind]
 simp only [Bool.or_eq_true,Bool.and_eq_true,beq_iff_eq,hany 7,hany 8]
 by_cases hk : x.kind = 20
 ·rw [h20 hk,or_assoc,or_assoc]
 ·simp only [hk,false_and,or_false]
  rw [or_assoc]
theorem jfZ {x : Ty} (hx : CV x.canon) (k16 : x.kind ≠ 16) : ∀ {out : List Ty},(∀ y ∈ out,CV y.canon ∧ y.kind ≠ 16) → (out.map Ty.canon).Pairwise LtP → ((insD x out).map Ty.canon).Pairwise LtP ∧ ∀ z,z ∈ (insD x out).map Ty.canon ↔ z = x.canon ∨ z ∈ out.map Ty.canon
 | [],_,_ => by simp [insD]
 | y :: r,hc,hs => by
   have hy:=hc y (by simp)
   simp only [List.map_cons,List.pairwise_cons] at hs
   obtain ⟨ih1,ih2⟩:=jfZ hx k16 (out:=r) (fun z hz => hc z (by simp [hz])) hs.2
   unfold insD
   rw [jiL hx,jiL hy.1]
   split
   ·rename_i h1
    refine ⟨?_,fun z => ?_⟩
    ·simp only [List.map_cons,List.pairwise_cons]
     refine ⟨fun z hz => ?_,ih1⟩
     rcases (ih2 z).1 hz with rfl | q
     ·exact h1
     ·exact hs.1 z q
    ·simp only [List.map_cons,List.mem_cons,ih2]
     constructor
     ·rintro (h | h | h)
      ·exact .inr (.inl h)
      ·exact .inl h
      ·exact .inr (.inr h)
     ·rintro (h | h | h)
      ·exact .inr (.inl h)
      ·exact .inl h
      ·exact .inr (.inr h)
   ·rename_i h1
    split
    ·rename_i h2
     have e:=CV.inj hy.1 hx (by rw [Ty.canon_kind];exact hy.2) (by rw [Ty.canon_kind];exact k16) h2
     refine ⟨by simp only [List.map_cons,List.pairwise_cons];exact hs,fun z => ?_⟩
     simp only [List.map_cons,List.mem_cons]
     constructor
     ·exact .inr
     ·rintro (h | h)
      ·exact .inl (h.trans e.symm)
      ·exact h
    ·rename_i h2
     have hlt : LtP x.canon y.canon:=by
      unfold LtP
      cases h3 : ltS x.canon.partT y.canon.partT with
      | true => rfl
      | false => exact absurd (ltS_tot.tri _ _ (by simpa using h1) h3) h2
     refine ⟨?_,fun z => ?_⟩
     ·simp only [List.map_cons,List.pairwise_cons]
      refine ⟨fun z hz => ?_,hs⟩
      rcases List.mem_cons.1 hz with rfl | q
      ·exact hlt
      ·exact LtP.trans hlt (hs.1 z q)
     ·simp only [List.map_cons,List.mem_cons]
theorem jf5 : ∀ {m out : List Ty},(∀ y ∈ m,CV y.canon ∧ y.kind ≠ 16) → (∀ y ∈ out,CV y.canon ∧ y.kind ≠ 16) → (out.map Ty.canon).Pairwise LtP →
  ((m.foldl (fun o x => insD x o) out).map Ty.canon).Pairwise LtP ∧ ∀ z,z ∈ (m.foldl (fun o x => insD x o) out).map Ty.canon ↔ z ∈ m.map Ty.canon ∨ z ∈ out.map Ty.canon
 | [],out,_,_,hs => ⟨hs,fun z => by simp⟩
 | x :: r,out,hm,ho,hs => by
   have hx:=hm x (by simp)
   obtain ⟨h1,h2⟩:=jfZ hx.1 hx.2 ho hs
   obtain ⟨h3,h4⟩:=jf5 (m:=r) (out:=insD x out) (fun y hy => hm y (by simp [hy])) (fun y hy => by
    rcases jgs x out y hy with rfl | q
    ·exact hx
    ·exact ho y q) h1
   refine ⟨h3,fun z => ?_⟩
   rw [List.foldl_cons,h4,h2,List.map_cons,List.mem_cons]
   constructor
   ·rintro (h | h | h)
    ·exact .inl (.inr h)
    ·exact .inl (.inl h)
    ·exact .inr h
   ·rintro ((h | h) | h)
    ·exact .inr (.inl h)
    ·exact .inl h
    ·exact .inr (.inr h)
theorem jcK {k : Int} (h1 : 1 ≤ k) (h2 : k ≤ 10) : (ja3 k).canon = ja3 k:=(CV.basic h1 h2).same
theorem jhN (l : List Ty) : (jlV l).canon = jec (l.map Ty.canon):=by
 match l with
 | [] => exact jcK (by decide) (by decide)
 | [x] => rfl
 | x :: y :: r =>
   show (Ty.mk 16 0 ⟨#[]⟩ (x :: y :: r) [] []).canon = _
   rw [Ty.canon_mk,if_neg (by decide)]
   rfl
theorem je2 {l : List Ty} (h : ∀ x ∈ l,CV x.canon) : (jbi l).canon = jal (l.map Ty.canon):=by
 have hG : Fl ((l.map Ty.canon).flatMap Ty.flat):=Fl.of fun t ht => by
  obtain ⟨x,hx,rfl⟩:=List.mem_map.1 ht
  exact h x hx
 rw [jda] at hG
 have hF : ∀ y ∈ l.flatMap Ty.flat,CV y.canon ∧ y.kind ≠ 16:=fun y hy => by
  obtain ⟨h1,h2⟩:=hG y.canon (List.mem_map_of_mem hy)
  exact ⟨h1,by rw [Ty.canon_kind] at h2;exact h2⟩
 unfold jal
 rw [jda]
 unfold jbi
 generalize l.flatMap Ty.flat = F at hG hF
 have hany : ∀ k : Int,(F.any (fun y => y.kind == k) = true ↔ ∃ q ∈ F.map Ty.canon,q.kind = k):=fun k => by
  rw [List.any_eq_true]
  constructor
  ·rintro ⟨y,h1,h2⟩
   exact ⟨y.canon,List.mem_map_of_mem h1,by rw [Ty.canon_kind];simpa using h2⟩
  ·rintro ⟨q,h1,h2⟩
   obtain ⟨y,hy,rfl⟩:=List.mem_map.1 h1
   exact ⟨y,hy,by rw [Ty.canon_kind] at h2;simpa using h2⟩
 rcases jaq (F.map Ty.canon) with ⟨h1,e⟩ | ⟨h1,h2,e⟩ | ⟨h1,h2,e⟩
 ·rw [e,if_pos ((hany 1).2 h1)]
  exact jcK (by decide) (by decide)
 ·rw [e,if_neg (fun q => h1 ((hany 1).1 q)),if_pos ((hany 2).2 h2)]
  exact jcK (by decide) (by decide)
 ·rw [e,if_neg (fun q => h1 ((hany 1).1 q)),if_neg (fun q => h2 ((hany 2).1 q)),jhN]
  congr 1
  have hk : ∀ y ∈ F.filter (jfs F),CV y.canon ∧ y.kind ≠ 16:=fun y hy => hF y (List.mem_filter.1 hy).1
  obtain ⟨h3,h4⟩:=jf5 (m:=F.filter (jfs F)) (out := []) hk (fun y hy => by cases hy) List.Pairwise.nil
  have h4 : ∀ z,z ∈ (outD F F).map Ty.canon ↔ z ∈ (F.filter (jfs F)).map Ty.canon ∨ z ∈ ([] : List Ty).map Ty.canon:=h4
  refine jbW h3 (jaS _) fun z => ?_
  rw [h4,jbj _ (fun a ha b hb => hG.key a (jaf.1 ha).1 b (jaf.1 hb).1),jaf]
  simp only [List.map_nil,List.not_mem_nil,or_false,List.mem_map,List.mem_filter]
  constructor
  ·rintro ⟨y,⟨h5,h6⟩,rfl⟩
   refine ⟨⟨y,h5,rfl⟩,fun hg => ?_⟩
   unfold jfs at h6
   rw [(jhv (hF y h5).1 fun z hz => (hF z hz).1).2 hg] at h6
   cases h6
  ·rintro ⟨⟨y,h5,rfl⟩,h6⟩
   refine ⟨y,⟨h5,?_⟩,rfl⟩
   unfold jfs
   cases hg : jcd y F with
   | false => rfl
   | true => exact absurd ((jhv (hF y h5).1 fun z hz => (hF z hz).1).1 hg) h6
mutual
def jaA : Ty → Ty
 | .mk k n nm ps ns ms => if k = 16 then jbi (jfS ps) else .mk k n nm (jfS ps) ns ms
def jfS : List Ty → List Ty
 | [] => []
 | p :: r => jaA p :: jfS r
end
theorem jhh : ∀ ps : List Ty,jfS ps = ps.map jaA
 | [] => by rw [jfS];rfl
 | p :: r => by rw [jfS,jhh r];rfl
theorem jcb (k n : Int) (nm : ByteArray) (ps : List Ty) (ns : List ByteArray) (ms : List Bool) : jaA (.mk k n nm ps ns ms) = if k = 16 then jbi (ps.map jaA) else .mk k n nm (ps.map jaA) ns ms:=by rw [jaA,jhh]
theorem NOk.cv {t : Ty} (h : NOk t) : CV (jbm t):=by cases h with | mk hp hc => exact hc
theorem NOk.norm {t : Ty} (h : NOk t) : (jaA t).canon = jbm t:=by
 induction h with
 | @mk k n nm ps ns ms hp hc ih =>
   have hl : (ps.map jaA).map Ty.canon = ps.map jbm:=by
    rw [List.map_map]
    exact List.map_congr_left fun p hp' => ih p hp'
   rw [jcb,jgo]
   split
   ·rw [je2,hl]
    intro x hx
    obtain ⟨p,hp',rfl⟩:=List.mem_map.1 hx
    rw [ih p hp']
    exact (hp p hp').cv
   ·rw [Ty.canon_mk,hl]
inductive Low : Ty → Prop
 | mk {k n : Int} {nm : ByteArray} {ps : List Ty} {ns : List ByteArray} {ms : List Bool} (h1 : nm.size ≤ 2000000) (h2 : jaF (ns.map (·.size)) ≤ 4100000000000) (hp : ∀ p ∈ ps,Low p) : Low (.mk k n nm ps ns ms)
theorem Low.wide {t : Ty} (h : Low t) : t.wide + 32 ≤ t.nodes * 5000000000000:=by
 induction h with
 | @mk k n nm ps ns ms h1 h2 hp ih =>
   rw [Ty.wide_mk,Ty.nodes_mk]
   have key : ∀ l : List Ty,(∀ p ∈ l,p.wide + 32 ≤ p.nodes * 5000000000000) → jaF (l.map Ty.wide) ≤ (l.map Ty.nodes).sum * 5000000000000:=by
    intro l
    induction l with
    | nil => intro _;simp [jaF]
    | cons x r ih =>
      intro hl
      have h1:=hl x (by simp)
      have h2:=ih fun y hy => hl y (by simp [hy])
      rw [List.map_cons,jax,List.map_cons,List.sum_cons,Nat.add_mul]
      omega
   have:=key ps ih
   rw [Nat.add_mul]
   omega
theorem Low.flat {t : Ty} (h : Low t) : ∀ x ∈ t.flat,Low x:=fun x hx => by
 unfold Ty.flat at hx
 split at hx
 ·cases h with | mk h1 h2 hp => exact hp x hx
 ·rw [List.mem_singleton.1 hx];exact h
theorem Snd.flat {t : Ty} (h : Snd t) : ∀ x ∈ t.flat,Snd x:=fun x hx => by
 unfold Ty.flat at hx
 split at hx
 ·cases h with | mk h1 h2 h3 hp => exact hp x hx
 ·rw [List.mem_singleton.1 hx];exact h
theorem jeu : ∀ l : List ByteArray,(∀ s ∈ l,s.size ≤ 2000000) → jaF (l.map (·.size)) ≤ l.length * 2000032
 | [],_ => by simp [jaF]
 | x :: r,h => by
   have h1:=h x (by simp)
   have h2:=jeu r fun y hy => h y (by simp [hy])
   rw [List.map_cons,jax,List.length_cons,Nat.succ_mul]
   omega
theorem TIs.lowT {B : Nat} {w : World} {us : List Value} {t : Ty} (h : TIs B w us t) : Low t:=by
 induction h with
 | mk us hn1 hn2 hnm hnv hln hsm hmv hlm hl hpl hpc hc hq ih =>
   refine .mk hnm (by have:=jeu _ hsm;omega) fun p hp => ?_
   obtain ⟨j,hj⟩:=List.getElem?_of_mem hp
   obtain ⟨u,hu⟩ : ∃ u,us[j]? = some u:=⟨_,List.getElem?_eq_getElem (by rw [hl];exact (List.getElem?_eq_some_iff.1 hj).1)⟩
   exact ih j u p hu hj
theorem jfz {P : Ty → Prop} (h0 : ∀ k : Int,k = 1 ∨ k = 2 ∨ k = 3 → P (ja3 k)) (h16 : ∀ l,(∀ x ∈ l,P x) → P (.mk 16 0 ⟨#[]⟩ l [] [])) {l : List Ty} (hf : ∀ t ∈ l,∀ x ∈ t.flat,P x) : P (jbi l):=by
 have hm : ∀ x ∈ l.flatMap Ty.flat,P x:=fun x hx => by
  obtain ⟨t,ht,hx⟩:=List.mem_flatMap.1 hx
  exact hf t ht x hx
 unfold jbi
 split
 ·exact h0 1 (.inl rfl)
 split
 ·exact h0 2 (.inr (.inl rfl))
 have ho : ∀ x ∈ outD (l.flatMap Ty.flat) (l.flatMap Ty.flat),P x:=fun x hx => hm x (jgl hx).1
 generalize outD (l.flatMap Ty.flat) (l.flatMap Ty.flat) = o at ho
 match o,ho with
 | [],_ => exact h0 3 (.inr (.inr rfl))
 | [x],ho => exact ho x (by simp)
 | x :: y :: r,ho => exact h16 _ ho
theorem Snd.norm {t : Ty} (h : Snd t) : Snd (jaA t):=by
 induction h with
 | @mk k n nm ps ns ms h1 h2 h3 hp ih =>
   have hl : ∀ x ∈ ps.map jaA,Snd x:=fun x hx => by
    obtain ⟨p,hp',rfl⟩:=List.mem_map.1 hx
    exact ih p hp'
   rw [jcb]
   split
   ·exact jfz (fun k hk => .mk (by omega) (by omega) (by omega) (fun p hp => by cases hp)) (fun l hl => .mk (by omega) (by omega) (by omega) hl) (fun t ht => (hl t ht).flat)
   ·exact .mk (fun e => by simpa using h1 e) (by simpa using h2) (by simpa using h3) hl
theorem Low.norm {t : Ty} (h : Low t) : Low (jaA t):=by
 induction h with
 | @mk k n nm ps ns ms h1 h2 hp ih =>
   have hl : ∀ x ∈ ps.map jaA,Low x:=fun x hx => by
    obtain ⟨p,hp',rfl⟩:=List.mem_map.1 hx
    exact ih p hp'
   rw [jcb]
   split
   ·exact jfz (fun k hk => .mk (by decide) (by decide) (fun p hp => by cases hp)) (fun l hl => .mk (by decide) (by decide) hl) (fun t ht => (hl t ht).flat)
   ·exact .mk h1 h2 hl
theorem jj2 (x : Ty) : ∀ l : List Ty,((insD x l).map Ty.nodes).sum ≤ x.nodes + (l.map Ty.nodes).sum
 | [] => by simp [insD]
 | y :: r => by
   have:=jj2 x r
   unfold insD
   split
   ·simp only [List.map_cons,List.sum_cons] at this ⊢; omega
   ·split
    ·simp only [List.map_cons,List.sum_cons];omega
    ·simp only [List.map_cons,List.sum_cons];omega
theorem jhx : ∀ (m out : List Ty),((m.foldl (fun o x => insD x o) out).map Ty.nodes).sum ≤ (m.map Ty.nodes).sum + (out.map Ty.nodes).sum
 | [],out => by simp
 | x :: r,out => by
   have h1:=jhx r (insD x out)
   have h2:=jj2 x out
   rw [List.foldl_cons,List.map_cons,List.sum_cons]
   omega
theorem jgM (l : List Ty) : (jbi l).nodes ≤ 1 + (l.map Ty.nodes).sum:=by
 have hb : ∀ k : Int,(ja3 k).nodes = 1:=fun k => by unfold ja3;rw [Ty.nodes_mk];rfl
 have hs : ((outD (l.flatMap Ty.flat) (l.flatMap Ty.flat)).map Ty.nodes).sum ≤ (l.map Ty.nodes).sum:=by
  have h1:=jhx ((l.flatMap Ty.flat).filter (jfs (l.flatMap Ty.flat))) []
  have h2:=jdY (jfs (l.flatMap Ty.flat)) (l.flatMap Ty.flat)
  have h3:=jdB l
  unfold outD
  simp only [List.map_nil,List.sum_nil] at h1
  omega
 unfold jbi
 split
 ·rw [hb];omega
 split
 ·rw [hb];omega
 generalize outD (l.flatMap Ty.flat) (l.flatMap Ty.flat) = o at hs
 match o,hs with
 | [],_ => show (ja3 3).nodes ≤ _;rw [hb];omega
 | [x],hs => show x.nodes ≤ _;simp only [List.map_cons,List.map_nil,List.sum_cons,List.sum_nil] at hs;omega
 | x :: y :: r,hs => show (Ty.mk 16 0 ⟨#[]⟩ (x :: y :: r) [] []).nodes ≤ _;rw [Ty.nodes_mk];exact Nat.add_le_add_left hs 1
theorem jid : ∀ (m : Nat) (t : Ty),t.nodes ≤ m → (jaA t).nodes ≤ t.nodes:=by
 intro m
 induction m with
 | zero => intro t h;have:=t.nodes_pos;omega
 | succ m ih =>
   intro t h
   cases t with
   | mk k n nm ps ns ms =>
     have key : ∀ l : List Ty,(∀ p ∈ l,(jaA p).nodes ≤ p.nodes) → ((l.map jaA).map Ty.nodes).sum ≤ (l.map Ty.nodes).sum:=by
      intro l
      induction l with
      | nil => intro _;exact Nat.le_refl _
      | cons x r ih2 =>
        intro hl
        have h1:=hl x (by simp)
        have h2:=ih2 fun y hy => hl y (by simp [hy])
        simp only [List.map_cons,List.sum_cons]
        omega
     have hk:=key ps fun p hp => ih p (by have:=Ty.part_nodes (k:=k) (n:=n) (nm:=nm) (ns:=ns) (ms:=ms) hp;omega)
     rw [jcb]
     split
     ·have:=jgM (ps.map jaA)
      rw [Ty.nodes_mk]
      omega
     ·rw [Ty.nodes_mk,Ty.nodes_mk]
      omega
theorem jio (k : Int) (w : World) : Calls Tryz.prog 19 #[.int .i64 k] w fun e w' => e = .returned (.agg #[.int .i64 k, .int .i64 0, .string ⟨#[]⟩, .slice none 0 0, .slice none 0 0, .slice none 0 0]) ∧ Up w w':=by
 go_enter Tryz.func19,Tryz.ntmps19
 go_wp2_with fail
 refine bodyPost_ret (v := .agg #[.int .i64 k, .int .i64 0, .string ⟨#[]⟩, .slice none 0 0, .slice none 0 0, .slice none 0 0]) (by simp [results,Tryz.results19,go_sem]) rfl ?_
 exact ⟨rfl,uq⟩
theorem RowU.nil (N : Nat → Prop) (lo : Nat) (w : World) : RowU N lo w (.slice none 0 0) [] []:=by
 refine ⟨rfl,?_,?_,World.ownsRow_nil _ _ _ _,?_⟩
 ·intro u h;cases h
 ·intro j u t h;simp at h
 ·intro g h;cases h
theorem jaT {w : World} {g : Nat} {c0 c1 c2 c3 c4 c5 : Value} {T : TypeId} {f : Nat × Nat} (h : w.heap[g]? = some (.cells #[c0,c1,c2,c3,c4,c5] T f)) (u0 u1 u2 u3 u4 u5 : Value) : (jbc w g 0 u0 u1 u2 u3 u4 u5).heap[g]? = some (.cells #[u0,u1,u2,u3,u4,u5] T f):=by
 unfold jbc
 exact ja6 (ja6 (ja6 (ja6 (ja6 (ja6 h u0) u1) u2) u3) u4) u5
theorem jbv {N : Nat → Prop} {w w3 : World} {q : Nat} {c0 c1 c2 c3 c4 c5 : Value} (hq : w.heap.size = q) (hu : Up w w3) (h : w3.heap[q]? = some (.cells #[c0,c1,c2,c3,c4,c5] RefT (0,0))) (hN : ∀ x,N x → x < w.heap.size) {u0 u1 u2 u3 u4 u5 : Value} {t : Ty} (hT : TIn (fun x => N x ∨ q + 1 ≤ x) w3 [u0,u1,u2,u3,u4,u5] t) :
  TIn (fun x => N x ∨ w.heap.size ≤ x) (jbc w3 q 0 u0 u1 u2 u3 u4 u5) [u0,u1,u2,u3,u4,u5] t ∧ Up w (jbc w3 q 0 u0 u1 u2 u3 u4 u5):=by
 refine ⟨hT.keep fun x o hx ho => ⟨?_,?_⟩,jcq hu (by omega) _ _ _ _ _ _ _⟩
 ·rcases hx with hx | hx
  ·exact .inl hx
  ·exact .inr (by omega)
 ·rw [jcr (fun e => ?_)]
  ·exact ho
  ·rcases hx with hx | hx
   ·have:=hN x hx;omega
   ·omega
theorem jcm {a : Act} {W : World} {q : Nat} {P : Ending → World → Prop} {u0 u1 u2 u3 u4 u5 : Value} (ha : a.tmps[2]?.getD undef = .pointer (some ⟨q,0,none⟩)) (hd : a.defers = []) (hb : W.heap[q]? = some (.cells #[u0,u1,u2,u3,u4,u5] RefT (0,0))) (h : P (.returned (.agg #[u0,u1,u2,u3,u4,u5])) W) : bodyPost Tryz.prog Tryz.f69 P Exit.ret a W:=by
 have s0:=hb
 obtain ⟨q0,p0,q1,p1,q2,p2,q3,p3,q4,p4,q5,p5,q9⟩:=uc6 s0;clear s0
 refine bodyPost_ret (v := .agg #[u0,u1,u2,u3,u4,u5]) (by simp [results,Tryz.results69,go_sem, *]) hd h
theorem RowU.olds {N : Nat → Prop} {lo : Nat} {w : World} {g n cap : Nat} {ts : List Ty} {uss : List (List Value)} (h : RowU N lo w (.slice (some ⟨g,0,none⟩) n cap) ts uss) {j : Nat} (hj : j < ts.length) :
  g < w.heap.size ∧ (∃ o0 o1 o2 o3 o4 o5,w.cell? ⟨g,j * 6,none⟩ = some o0 ∧ w.cell? ⟨g,j * 6 + 1,none⟩ = some o1 ∧ w.cell? ⟨g,j * 6 + 2,none⟩ = some o2 ∧ w.cell? ⟨g,j * 6 + 3,none⟩ = some o3 ∧ w.cell? ⟨g,j * 6 + 4,none⟩ = some o4 ∧ w.cell? ⟨g,j * 6 + 5,none⟩ = some o5) ∧ ∀ i,w.frozen? ⟨g,i,none⟩ = false:=by
 obtain ⟨cur,hc⟩:=jbF h.own rfl
 obtain ⟨a,cap',e,_,hel⟩:=h.elems
 injection e with e _ _
 obtain ⟨t,ht⟩ : ∃ t,ts[j]? = some t:=⟨_,List.getElem?_eq_getElem hj⟩
 obtain ⟨b,off,u1,u2,u3,u4,u5,e2,c0,c1,c2,c3,c4,c5,_⟩:=hel j t ht
 rw [← e] at e2
 injection e2 with e2
 injection e2 with e2 e3 _
 subst e2 e3
 simp only [Nat.zero_add] at c0 c1 c2 c3 c4 c5
 exact ⟨ja0 hc,⟨_,_,_,_,_,_,c0,c1,c2,c3,c4,c5⟩,fun i => jab hc i⟩
theorem jbl {w : World} {g : Nat} {cur : Array Value} {T : TypeId} {f : Nat × Nat} (h : w.heap[g]? = some (.cells cur T f)) {i j : Nat} (hij : i ≠ j) (v : Value) : (w.setCell ⟨g,i,none⟩ v).cell? ⟨g,j,none⟩ = w.cell? ⟨g,j,none⟩:=by
 rw [ja1 (ja6 h v),ja1 h,Array.getElem?_setIfInBounds_ne hij]
theorem jeF {w : World} {g : Nat} {cur : Array Value} (h : w.heap[g]? = some (.cells cur RefT (0,0))) {k : Nat} {o1 o2 o3 o4 o5 : Value} (e1 : w.cell? ⟨g,k + 1,none⟩ = some o1) (e2 : w.cell? ⟨g,k + 2,none⟩ = some o2) (e3 : w.cell? ⟨g,k + 3,none⟩ = some o3) (e4 : w.cell? ⟨g,k + 4,none⟩ = some o4) (e5 : w.cell? ⟨g,k + 5,none⟩ = some o5) (v0 v1 v2 v3 v4 : Value) :
  ((w.setCell ⟨g,k,none⟩ v0).cell? ⟨g,k + 1,none⟩ = some o1 ∧ (w.setCell ⟨g,k,none⟩ v0).frozen? ⟨g,k + 1,none⟩ = false) ∧ (((w.setCell ⟨g,k,none⟩ v0).setCell ⟨g,k + 1,none⟩ v1).cell? ⟨g,k + 2,none⟩ = some o2 ∧ ((w.setCell ⟨g,k,none⟩ v0).setCell ⟨g,k + 1,none⟩ v1).frozen? ⟨g,k + 2,none⟩ = false) ∧
  ((((w.setCell ⟨g,k,none⟩ v0).setCell ⟨g,k + 1,none⟩ v1).setCell ⟨g,k + 2,none⟩ v2).cell? ⟨g,k + 3,none⟩ = some o3 ∧ (((w.setCell ⟨g,k,none⟩ v0).setCell ⟨g,k + 1,none⟩ v1).setCell ⟨g,k + 2,none⟩ v2).frozen? ⟨g,k + 3,none⟩ = false) ∧
  (((((w.setCell ⟨g,k,none⟩ v0).setCell ⟨g,k + 1,none⟩ v1).setCell ⟨g,k + 2,none⟩ v2).setCell ⟨g,k + 3,none⟩ v3).cell? ⟨g,k + 4,none⟩ = some o4 ∧ ((((w.setCell ⟨g,k,none⟩ v0).setCell ⟨g,k + 1,none⟩ v1).setCell ⟨g,k + 2,none⟩ v2).setCell ⟨g,k + 3,none⟩ v3).frozen? ⟨g,k + 4,none⟩ = false) ∧
  ((((((w.setCell ⟨g,k,none⟩ v0).setCell ⟨g,k + 1,none⟩ v1).setCell ⟨g,k + 2,none⟩ v2).setCell ⟨g,k + 3,none⟩ v3).setCell ⟨g,k + 4,none⟩ v4).cell? ⟨g,k + 5,none⟩ = some o5 ∧ (((((w.setCell ⟨g,k,none⟩ v0).setCell ⟨g,k + 1,none⟩ v1).setCell ⟨g,k + 2,none⟩ v2).setCell ⟨g,k + 3,none⟩ v3).setCell ⟨g,k + 4,none⟩ v4).frozen? ⟨g,k + 5,none⟩ = false):=by
 have h0:=ja6 (i:=k) h v0
 have h1:=ja6 (i:=k + 1) h0 v1
 have h2:=ja6 (i:=k + 2) h1 v2
 have h3:=ja6 (i:=k + 3) h2 v3
 have h4:=ja6 (i:=k + 4) h3 v4
 have a : ∀ i,i ≠ k → (w.setCell ⟨g,k,none⟩ v0).cell? ⟨g,i,none⟩ = w.cell? ⟨g,i,none⟩:=fun i hi => jbl h (fun e => hi e.symm) v0
 refine ⟨⟨by rw [a _ (by omega)];exact e1,jab h0 _⟩,⟨by rw [jbl h0 (by omega),a _ (by omega)];exact e2,jab h1 _⟩,⟨by rw [jbl h1 (by omega),jbl h0 (by omega),a _ (by omega)];exact e3,jab h2 _⟩,⟨by rw [jbl h2 (by omega),jbl h1 (by omega),jbl h0 (by omega),a _ (by omega)];exact e4,jab h3 _⟩,⟨by rw [jbl h3 (by omega),jbl h2 (by omega),jbl h1 (by omega),jbl h0 (by omega),a _ (by omega)];exact e5,jab h4 _⟩⟩
theorem TIn.shapes {N : Nat → Prop} {w : World} {k : Int} {v1 v2 v3 v4 v5 : Value} {t : Ty} (h : TIn N w [.int .i64 k,v1,v2,v3,v4,v5] t) : ∃ (n : Int) (nm : ByteArray) (pa na ma : Option Addr) (lp cp ln cn lm cm : Nat),v1 = .int .i64 n ∧ v2 = .string nm ∧ v3 = .slice pa lp cp ∧ v4 = .slice na ln cn ∧ v5 = .slice ma lm cm:=by
 cases h with
 | mk us hn1 hn2 hnm hnv hln hsm hmv hlm hl hpl hpc hc hq =>
   obtain ⟨na,ncap,rfl,_,_⟩:=hnv.form
   obtain ⟨ma,mcap,rfl,_,_⟩:=hmv.form
   exact ⟨_,_,_,_,_,_,_,_,_,_,_,rfl,rfl,rfl,rfl,rfl⟩
theorem jkJ {α : Type} {O : List α} {z x : α} {j : Nat} (h : O[j]? = some x) : (O.take (j + 1) ++ z :: O.drop (j + 1)).set (j + 1) x = O.take j ++ x :: O.drop j:=by
 have hl:=(List.getElem?_eq_some_iff.1 h).1
 have h1 : O.take (j + 1) = O.take j ++ [x]:=by rw [List.take_add_one,h];rfl
 have h2 : O.drop j = x :: O.drop (j + 1):=by rw [List.drop_eq_getElem_cons hl,(List.getElem?_eq_some_iff.1 h).2]
 rw [h1,h2,List.set_append_right _ _ (by simp;omega)]
 have : j + 1 - (O.take j ++ [x]).length = 0:=by simp;omega
 rw [this,List.set_cons_zero,List.append_assoc]
 rfl
theorem jiT {α : Type} {O : List α} {z x : α} {k : Nat} (h : k ≤ O.length) : (O.take k ++ z :: O.drop k).set k x = O.take k ++ x :: O.drop k:=by
 rw [List.set_append_right _ _ (by simp;omega)]
 have : k - (O.take k).length = 0:=by simp;omega
 rw [this,List.set_cons_zero]
theorem jm6 {α : Type} {O : List α} {z : α} {j : Nat} (h : j < O.length) : (O.take (j + 1) ++ z :: O.drop (j + 1))[j]? = O[j]? := by
 rw [List.getElem?_append_left (by simp;omega),List.getElem?_take,if_pos (by omega)]
theorem RowU.tin16 {N : Nat → Prop} {lo q : Nat} {w : World} {v : Value} {ts : List Ty} {uss : List (List Value)} (h : RowU N lo w v ts uss) (hlo : q ≤ lo) (hpl : ts.length ≤ 2000000) :
  TIn (fun x => N x ∨ q ≤ x) w [.int .i64 16, .int .i64 0, .string ⟨#[]⟩,v, .slice none 0 0, .slice none 0 0] (.mk 16 0 ⟨#[]⟩ ts [] []):=by
 obtain ⟨a,cap,rfl,hc⟩:=h.form
 obtain ⟨h1,h2,h3,h4,h5⟩:=h
 refine .mk (ns := []) (ms := []) uss (by decide) (by decide) (by decide) (RowV.nil _ _) (by simp) (by simp) (RowV.nil _ _) (by simp) h1 hpl hc (fun j u hj => ?_) (fun j u p hj hp => (h3 j u p hj hp).more fun x hx _ => .inl hx)
 have h6:=h2 u (List.mem_of_getElem? hj)
 have hf:=jcf uss j u h2 hj
 obtain ⟨x,hx⟩ : ∃ x,u[0]? = some x:=⟨_,List.getElem?_eq_getElem (by omega)⟩
 obtain ⟨g,cap',cur,e,hg,_⟩:=jfI h4 ((hf 0 (by decide)).trans hx)
 injection e with e _ _
 refine ⟨g,0,e, .inr (Nat.le_trans hlo (h5 g (by rw [e];rfl))),h6,fun i hi => ?_⟩
 obtain ⟨y,hy⟩ : ∃ y,u[i]? = some y:=⟨_,List.getElem?_eq_getElem (by omega)⟩
 obtain ⟨g',_,_,e',_,hc'⟩:=jfI h4 ((hf i hi).trans hy)
 injection e' with e' _ _
 rw [e] at e'
 injection e' with e'
 injection e' with e' _ _
 subst e'
 rw [Nat.zero_add,hc',hy]
structure GivenD (ts : List Ty) : Prop where
 flat : ∀ t ∈ ts,t.kind = 16 → t.parts ≠ []
 part : ∀ t ∈ ts,∀ x ∈ t.flat,jbq x ∧ x.wide ≤ 1000000000000000 ∧ (x.kind = 20 → x.parts ≠ [] ∧ ∀ p ∈ x.parts,jbq p)
 few : (ts.flatMap Ty.flat).length ≤ 2000000
def jgw (ts : List Ty) (j : Nat) : List Ty:=(ts.take j).flatMap Ty.flat
theorem jk3 {ts : List Ty} {j : Nat} {t : Ty} (h : ts[j]? = some t) : jgw ts (j + 1) = jgw ts j ++ t.flat:=by
 unfold jgw
 rw [List.take_add_one,h,Option.toList_some,List.flatMap_append]
 simp
theorem jmL (ts : List Ty) (j : Nat) : (jgw ts j).length ≤ (ts.flatMap Ty.flat).length:=by
 unfold jgw
 conv => rhs;rw [← List.take_append_drop j ts]
 rw [List.flatMap_append,List.length_append]
 omega
set_option maxRecDepth 100000
set_option maxHeartbeats 25600000
theorem jg1 (N : Nat → Prop) (ts : List Ty) (a : Option Addr) (c : Nat) (w : World) (h : ElemsAt N w ts a) (hc : ts.length ≤ c) (hl : ts.length ≤ 1000000000) (hg : GivenD ts) (hN : ∀ x,N x → x < w.heap.size) :
  Calls Tryz.prog 69 #[.slice a ts.length c] w fun e w' => ∃ us,e = .returned (.agg us.toArray) ∧ TIn (fun x => N x ∨ w.heap.size ≤ x) w' us (jbi ts) ∧ Up w w':=by
 have HE:=Lib.hid (And.intro h (And.intro hg hN))
 obtain ⟨i0,hi,hz0,hz1,hz2⟩:=info_parts jgg
 have hfew:=hg.few
 obtain ⟨lt,hlt0⟩ : ∃ x,Hid (ts.length = x):=⟨_,rfl⟩
 rw [hlt0.out] at hc hl ⊢
 clear h hg hN
 go_enter Tryz.func69,Tryz.ntmps69
 go_upto_region 1 with (fail)
 refine ja4 fun A2 W2 hA2 hW2 => ?_
 have hu0 : Hid (Up w W2):=by subst hW2;exact uq
 obtain ⟨q,hq⟩ : ∃ q,Hid (w.heap.size = q):=⟨_,rfl⟩
 have HQ:=Lib.hid (show W2.heap[q]? = some (.cells #[.int .i64 0, .int .i64 0, .string ⟨#[]⟩, .slice none 0 0, .slice none 0 0, .slice none 0 0] RefT (0,0)) by subst hW2;rw [← hq.out];exact jaa _ _ _ rfl)
 have hqW : Hid (W2.heap.size = q + 1):=by subst hW2;unfold Hid;rw [← hq.out];simp only [gQw]
 rw [hq.out] at hA2
 clear hW2
 subst hA2
 go_wp2_with fail
 go_loopw [3,4] (fun l i wr => ∃ (j : Nat) (uss : List (List Value)),j ≤ lt ∧ i = .int .i64 j ∧ RowU N W2.heap.size wr l (jgw ts j) uss ∧ Up W2 wr) (fun _ i _ => lt - (intOf i).toNat)
 case atStart => exact ⟨0,[],Nat.zero_le _,rfl,RowU.nil _ _ _,uq⟩
 case round =>
  obtain ⟨j,uss,hj,rfl,hrow,hup⟩:=hrel
  obtain ⟨la,lc,rfl,hlc⟩:=hrow.form
  have hupw:=hu0.out.trans hup
  by_cases hlt : j < lt
  ·have hji : (j : Int) < lt:=by omega
   obtain ⟨t,ht⟩ : ∃ t,ts[j]? = some t:=⟨_,List.getElem?_eq_getElem (by rw [hlt0.out];exact hlt)⟩
   obtain ⟨b,off,u1,u2,u3,u4,u5,rfl,c0,c1,c2,c3,c4,c5,hT⟩:=HE.out.1.later hupw j t ht
   have hbl:=jaj c0
   have HF:=Lib.hid (fun W (hW : Up wr W) => jdD N t _ W (hT.up hW))
   have hfl : t.flat ≠ []:=by
    unfold Ty.flat
    split
    ·exact HE.out.2.1.flat t (List.mem_of_getElem? ht) (by assumption)
    ·simp
   have hfp : 0 < t.flat.length:=List.length_pos_iff.2 hfl
   have hnx:=jk3 ht
   have hle:=jmL ts (j + 1)
   rw [hnx,List.length_append] at hle
   have HNX:=Lib.hid hnx
   obtain ⟨tk,htk⟩ : ∃ y,Hid (t.kind = y):=⟨_,rfl⟩
   rw [htk.out] at c0 HF
   obtain ⟨fl,hfl2⟩ : ∃ y,Hid (t.flat = y):=⟨_,rfl⟩
   rw [hfl2.out] at HF hfp hle HNX
   have HR:=Lib.hid hrow
   obtain ⟨m,hm⟩ : ∃ y,Hid (fl.length = y):=⟨_,rfl⟩
   obtain ⟨n,hn⟩ : ∃ y,Hid ((jgw ts j).length = y):=⟨_,rfl⟩
   rw [hm.out] at HF hfp hle
   rw [hn.out] at hle hlc HR ⊢
   have hb1 : (n + m) * 104 ≤ 140737488355328:=by omega
   have hb2 : n + m ≤ maxLen:=by unfold maxLen;omega
   clear hT ht hrow hfl hnx hle hlt
   go_wp2_with (first
    | (go_at_call 70;refine (HF.out _ uq).mono ?_;rintro e w2 ⟨fa,fc,rfl,hf1,hf2,hf3,hu2⟩;obtain ⟨uss2,g1,g2,g3,g4,g5⟩:=hf3.rows;obtain ⟨b3,off3,hfa⟩ : ∃ b off,fa = some ⟨b,off,none⟩:=(by obtain ⟨y,hy⟩ : ∃ y,fl[0]? = some y:=⟨_,List.getElem?_eq_getElem (by rw [hm.out];exact hfp)⟩;obtain ⟨b,off,_,_,_,_,_,e,_⟩:=hf3 0 y hy;exact ⟨b,off,e⟩);have HRW:=Lib.hid (And.intro g1 (And.intro g2 (And.intro g3 (And.intro g4 g5))));clear g1 g2 g3 g4 g5 hf3;subst hfa)
    | (at_builtin;go_must (refine jbU rfl _ _ 29 rfl RefT i0 (.agg #[.int .i64 0, .int .i64 0, .string ⟨#[]⟩, .slice none 0 0, .slice none 0 0, .slice none 0 0]) 6 104 Tryz.underlying29 hi hz0 hz1 hz2 rfl (by decide) (.slice la n lc) n uss.flatten rfl (by have:=(HR.out.up hu2).own;rw [hn.out] at this;exact this) ⟨b3,off3,none⟩ m fc uss2.flatten rfl (by rw [jce _ HRW.out.2.1,HRW.out.1,hm.out]) (fun k x hx => by obtain ⟨b,off,e,hc⟩:=HRW.out.2.2.2.2 k x hx;injection e with e;injection e with e1 e2 _;subst e1 e2;rw [Addr.add_lit];exact hc) HRW.out.2.2.2.1 hb2 hb1 ?_;intro sa' cap' w3 hown' hgrow hblk)))
   refine ⟨⟨j + 1,uss ++ uss2,by omega,by simp,?_,((hup.trans hu2).grown hgrow (fun r e => HR.out.far r e))⟩,by simp [intOf];omega⟩
   rw [HNX.out]
   refine RowU.push (w:=w) (HR.out.up hu2) (fun x hx _ => Nat.lt_of_lt_of_le (HE.out.2.2 x hx) hu0.out.size) (hup.trans hu2).size HRW.out.1 HRW.out.2.1 HRW.out.2.2.1 ?_ hgrow hblk
   rw [hn.out,hm.out]
   exact hown'
  ·obtain rfl : j = lt:=by omega
   have hL : jgw ts j = ts.flatMap Ty.flat:=by unfold jgw;rw [← hlt0.out,List.take_length]
   rw [hL] at hrow hlc ⊢
   have hup1:=Lib.hid hup
   obtain ⟨a2,cap2,e2,hc2,hel⟩:=hrow.elems
   injection e2 with q1 _ q2
   subst q1 q2
   obtain ⟨L,hLL⟩ : ∃ L,Hid (ts.flatMap Ty.flat = L):=⟨_,rfl⟩
   have hD : Hid (jbi ts = if L.any (fun x => x.kind == 1) = true then ja3 1 else if L.any (fun x => x.kind == 2) = true then ja3 2 else jlV (outD L L)):=by unfold Hid;rw [← hLL.out];rfl
   have HLP : Hid (∀ x ∈ L,jbq x ∧ x.wide ≤ 1000000000000000 ∧ (x.kind = 20 → x.parts ≠ [] ∧ ∀ p ∈ x.parts,jbq p)):=fun x hx => by
    rw [← hLL.out] at hx
    obtain ⟨t,ht,hx⟩:=List.mem_flatMap.1 hx
    exact HE.out.2.1.part t ht x hx
   rw [hLL.out] at hc2 hel hlc hfew ⊢
   have HL:=Lib.hid hel
   obtain ⟨n,hn⟩ : ∃ y,Hid (L.length = y):=⟨_,rfl⟩
   have HKI:=Lib.hid (fun k W (hW : Up wr W) => jf8 N L k la lc W (hel.later hW) hc2 (by omega))
   have HNL : Hid (∀ x,N x → x < W2.heap.size):=fun x hx => Nat.lt_of_lt_of_le (HE.out.2.2 x hx) hu0.out.size
   rw [hn.out] at hc2 hlc hfew HKI ⊢
   have HQw:=Lib.hid (hup.get HQ.out)
   clear hrow hel hL hlt hlt0
   by_cases ha1 : L.any (fun x => x.kind == 1) = true
   ·rw [if_pos ha1] at hD
    go_wp2_with (first
     | (go_at_call 110;refine (HKI.out _ _ uq).mono ?_;rintro e w2 ⟨rfl,hu2⟩)
     | (go_at_call 19;refine (jio _ _).mono ?_;rintro e w3 ⟨rfl,hu3⟩;have s0:=(hu2.trans hu3).get HQw.out;obtain ⟨q0,p0,q1,p1,q2,p2,q3,p3,q4,p4,q5,p5,q9⟩:=uc6 s0;clear s0))
    all_goals (change bodyPost _ _ _ _ _ (jbc _ q 0 (.int .i64 1) (.int .i64 0) (.string ⟨#[]⟩) (.slice none 0 0) (.slice none 0 0) (.slice none 0 0));obtain ⟨hT9,hu9⟩:=jbv hq.out (hu0.out.trans (hup1.out.trans (hu2.trans hu3))) ((hu2.trans hu3).get HQw.out) HE.out.2.2 (TIn.leaf (fun x => N x ∨ q + 1 ≤ x) _ 1);exact jcm rfl rfl (jaT ((hu2.trans hu3).get HQw.out) (.int .i64 1) (.int .i64 0) (.string ⟨#[]⟩) (.slice none 0 0) (.slice none 0 0) (.slice none 0 0)) ⟨_,rfl,by rw [hD.out];exact hT9,hu9⟩)
   ·have hb1 : L.any (fun x => x.kind == 1) = false:=by simpa using ha1
    rw [if_neg ha1] at hD
    by_cases ha2 : L.any (fun x => x.kind == 2) = true
    ·rw [if_pos ha2] at hD
     clear ha1
     go_wp2_with (first
      | (go_at_call 110;refine (HKI.out _ _ uq).mono ?_;rintro e w2 ⟨rfl,hu2⟩;have hu2:=(show Up wr w2 from uq))
      | (go_at_call 19;refine (jio _ _).mono ?_;rintro e w3 ⟨rfl,hu3⟩;have s0:=(show Up wr w3 from uq).get HQw.out;obtain ⟨q0,p0,q1,p1,q2,p2,q3,p3,q4,p4,q5,p5,q9⟩:=uc6 s0;clear s0))
     all_goals (change bodyPost _ _ _ _ _ (jbc _ q 0 (.int .i64 2) (.int .i64 0) (.string ⟨#[]⟩) (.slice none 0 0) (.slice none 0 0) (.slice none 0 0));obtain ⟨hT9,hu9⟩:=jbv hq.out (hu0.out.trans (hup1.out.trans (hu2.trans hu3))) ((hu2.trans hu3).get HQw.out) HE.out.2.2 (TIn.leaf (fun x => N x ∨ q + 1 ≤ x) _ 2);exact jcm rfl rfl (jaT ((hu2.trans hu3).get HQw.out) (.int .i64 2) (.int .i64 0) (.string ⟨#[]⟩) (.slice none 0 0) (.slice none 0 0) (.slice none 0 0)) ⟨_,rfl,by rw [hD.out];exact hT9,hu9⟩)
    ·have hb2 : L.any (fun x => x.kind == 2) = false:=by simpa using ha2
     rw [if_neg ha2] at hD
     clear ha1 ha2
     go_wp2_with (first
      | (go_at_call 110;refine (HKI.out _ _ uq).mono ?_;rintro e w2 ⟨rfl,hu2⟩;have hu2:=(show Up wr w2 from uq)))
     have HU1:=Lib.hid hu2
     obtain ⟨WL,hWL⟩ : ∃ X,X = wr:=⟨_,rfl⟩
     subst hWL
     go_loopw [5,6] (fun o i wr => ∃ (ii : Nat) (uss : List (List Value)),ii ≤ n ∧ i = .int .i64 ii ∧ RowU N WL.heap.size wr o (outD L (L.take ii)) uss ∧ Up WL wr) (fun _ i _ => n - (intOf i).toNat)
     case atStart => exact ⟨0,[],Nat.zero_le _,rfl,RowU.nil _ _ _,HU1.out⟩
     case round =>
      obtain ⟨ii,uso,hii,rfl,hro,hupi⟩:=hrel
      obtain ⟨oa,oc,rfl,hoc⟩:=hro.form
      by_cases hin : ii < n
      ·have hini : (ii : Int) < n:=by omega
       obtain ⟨x,hx⟩ : ∃ x,L[ii]? = some x:=⟨_,List.getElem?_eq_getElem (by rw [hn.out];exact hin)⟩
       have hxp:=HLP.out x (List.mem_of_getElem? hx)
       obtain ⟨b,off,u1,u2,u3,u4,u5,rfl,c0,c1,c2,c3,c4,c5,hT⟩:=HL.out.later hupi ii x hx
       have hbl:=jaj c0
       have HGO:=Lib.hid (fun W (hW : Up wr W) => jlE N N x _ L _ lc W (hT.up hW) (HL.out.later (hupi.trans hW)) (by rw [hn.out];exact hc2) (by rw [hn.out];omega) hxp.2.2 (fun y hy => (HLP.out y hy).1))
       have HPX:=Lib.hid (fun W (hW : Up wr W) => jcI x hxp.1 hxp.2.1 W.heap.size _ W (hT.up hW).tis (Nat.le_refl _))
       have HNX : Hid (outD L (L.take (ii + 1)) = if jcd x L = true then outD L (L.take ii) else insD x (outD L (L.take ii))):=by unfold Hid;rw [List.take_add_one,hx,Option.toList_some,jhe]
       rw [hn.out] at HGO
       obtain ⟨xk,hxk⟩ : ∃ y,Hid (x.kind = y):=⟨_,rfl⟩
       have HTX:=Lib.hid hT
       have HRO:=Lib.hid hro
       rw [show jaK x.kind (dt x) = jbh x from rfl] at HPX
       rw [hxk.out] at c0 HGO HPX HTX
       have HXI:=Lib.hid hx
       clear hT hx hin hxp hro
       by_cases hgo : jcd x L = true
       ·rw [hgo] at HGO
        rw [hgo,if_pos rfl] at HNX
        clear hgo
        go_wp2_with (first | (go_at_call 111;refine (HGO.out _ uq).mono ?_;rintro e w2 ⟨rfl,hu2⟩))
        all_goals exact ⟨⟨ii + 1,uso,by omega,by simp,by rw [HNX.out];exact HRO.out.up hu2,hupi.trans hu2⟩,by simp [intOf];omega⟩
       ·have hgo2 : jcd x L = false:=by simpa using hgo
        rw [hgo2] at HGO
        rw [if_neg hgo] at HNX
        clear hgo hgo2
        obtain ⟨O,hO⟩ : ∃ y,Hid (outD L (L.take ii) = y):=⟨_,rfl⟩
        have hmn : O.length ≤ ii:=by rw [← hO.out];exact Nat.le_trans (jgm _ _) (by rw [List.length_take];omega)
        have HOP : Hid (∀ y ∈ O,jbq y ∧ y.wide ≤ 1000000000000000):=fun y hy => by
         rw [← hO.out] at hy
         have:=HLP.out y (List.mem_of_mem_take (jgl hy).1)
         exact ⟨this.1,this.2.1⟩
        rw [hO.out] at HRO HNX hoc ⊢
        obtain ⟨m,hm⟩ : ∃ y,Hid (O.length = y):=⟨_,rfl⟩
        rw [hm.out] at HRO hmn hoc ⊢
        obtain ⟨sx,hsx⟩ : ∃ y,Hid (jbh x = y):=⟨_,rfl⟩
        rw [hsx.out] at HPX
        obtain ⟨WI,hWI⟩ : ∃ X,X = wr:=⟨_,rfl⟩
        subst hWI
        have HROm : Hid (WI.ownsRow 0 RefT 6 (.slice oa m oc) m uso.flatten):=by have:=HRO.out.own;rw [hm.out] at this;exact this
        go_wp2_with (first
         | (go_at_call 111;refine (HGO.out _ uq).mono ?_;rintro e w2 ⟨rfl,hu2⟩;have d0:=jak hu2 rfl c0;have d1:=jak hu2 rfl c1;have d2:=jak hu2 rfl c2;have d3:=jak hu2 rfl c3;have d4:=jak hu2 rfl c4;have d5:=jak hu2 rfl c5;have dl:=jaj d0)
         | (go_at_call 83;refine (HPX.out _ uq).mono ?_;rintro e w3 ⟨rfl,hu3⟩))
        have HU3:=Lib.hid (hu2.trans hu3)
        clear d0 d1 d2 d3 d4 d5 dl
        go_loopw [8] (fun k wr => ∃ (kk : Nat),kk ≤ m ∧ k = .int .i64 kk ∧ Hid (∀ (j : Nat) (y : Ty),j < kk → O[j]? = some y → ltS (jbh y) sx = true) ∧ Up WI wr) (fun k _ => m - (intOf k).toNat)
        case atStart => exact ⟨0,Nat.zero_le _,rfl,fun j y hj => by omega,HU3.out⟩
        case round =>
         obtain ⟨kk,hkk,rfl,hkl,hupk⟩:=hrel
         have hcase : (kk < m ∧ ∃ y,O[kk]? = some y ∧ ltS (jbh y) sx = true) ∨ (kk < m ∧ ∃ y,O[kk]? = some y ∧ ltS (jbh y) sx = false ∧ jbh y = sx) ∨ (kk < m ∧ ∃ y,O[kk]? = some y ∧ ltS (jbh y) sx = false ∧ jbh y ≠ sx) ∨ kk = m:=by
          rcases Nat.lt_or_ge kk m with h | h
          ·obtain ⟨y,hy⟩ : ∃ y,O[kk]? = some y:=⟨_,List.getElem?_eq_getElem (by rw [hm.out];exact h)⟩
           cases hl : ltS (jbh y) sx with
           | true => exact .inl ⟨h,y,hy,hl⟩
           | false =>
             by_cases he : jbh y = sx
             ·exact .inr (.inl ⟨h,y,hy,hl,he⟩)
             ·exact .inr (.inr (.inl ⟨h,y,hy,hl,he⟩))
          ·exact .inr (.inr (.inr (by omega)))
         rcases hcase with ⟨hkm,y,hy,hl⟩ | ⟨hkm,y,hy,hl,he⟩ | ⟨hkm,y,hy,hl,he⟩ | hkm
         ·have hkmi : (kk : Int) < m:=(by omega);obtain ⟨oa2,oc2,e2,_,hel2⟩:=(HRO.out.up hupk).elems;injection e2 with e2 e4 e3;clear e4;subst e2 e3;obtain ⟨b2,off2,v1,v2,v3,v4,v5,rfl,y0,y1,y2,y3,y4,y5,hT2⟩:=hel2 kk y hy;have hyl:=jaj y0;have hyp:=HOP.out y (List.mem_of_getElem? hy);have HPY:=Lib.hid (fun W (hW : Up wr W) => jcI y hyp.1 hyp.2 W.heap.size _ W (hT2.up hW).tis (Nat.le_refl _));rw [show jaK y.kind (dt y) = jbh y from rfl] at HPY;obtain ⟨yk,hyk⟩ : ∃ z,Hid (y.kind = z):=⟨_,rfl⟩;rw [hyk.out] at y0 HPY;have HY:=Lib.hid hy;obtain ⟨sy,hsy⟩ : ∃ z,Hid (jbh y = z):=⟨_,rfl⟩;rw [hsy.out] at HPY hl;(try rw [hsy.out] at he);clear hel2 hT2 hyp hy
          have hl2 : Op.bytesLess sy.toList sx.toList = true:=hl
          go_wp2_with (first | (go_at_call 83;refine (HPY.out _ uq).mono ?_;rintro e w4 ⟨rfl,hu4⟩))
          all_goals exact ⟨⟨kk + 1,by omega,by simp,fun j z hj hz => (by
           rcases Nat.lt_or_ge j kk with h | h
           ·exact hkl.out j z h hz
           ·obtain rfl : j = kk:=by omega
            rw [HY.out] at hz
            cases hz
            rw [hsy.out]
            exact hl2),hupk.trans hu4⟩,by simp [intOf];omega⟩
         ·have hkmi : (kk : Int) < m:=(by omega);obtain ⟨oa2,oc2,e2,_,hel2⟩:=(HRO.out.up hupk).elems;injection e2 with e2 e4 e3;clear e4;subst e2 e3;obtain ⟨b2,off2,v1,v2,v3,v4,v5,rfl,y0,y1,y2,y3,y4,y5,hT2⟩:=hel2 kk y hy;have hyl:=jaj y0;have hyp:=HOP.out y (List.mem_of_getElem? hy);have HPY:=Lib.hid (fun W (hW : Up wr W) => jcI y hyp.1 hyp.2 W.heap.size _ W (hT2.up hW).tis (Nat.le_refl _));rw [show jaK y.kind (dt y) = jbh y from rfl] at HPY;obtain ⟨yk,hyk⟩ : ∃ z,Hid (y.kind = z):=⟨_,rfl⟩;rw [hyk.out] at y0 HPY;have HY:=Lib.hid hy;obtain ⟨sy,hsy⟩ : ∃ z,Hid (jbh y = z):=⟨_,rfl⟩;rw [hsy.out] at HPY hl;(try rw [hsy.out] at he);clear hel2 hT2 hyp hy
          have hl2 : Op.bytesLess sy.toList sx.toList = false:=hl
          have he2 : (sy.toList == sx.toList) = true:=by rw [he];simp
          have hins : Hid (insD x O = O):=by
           unfold Hid
           rw [jgt x O kk (by rw [hm.out];exact hkk) (fun j z hj hz => by rw [hsx.out];exact hkl.out j z hj hz) (fun z hz => by rw [HY.out] at hz;cases hz;rw [hsy.out,hsx.out];exact hl),if_pos ⟨y,HY.out,by rw [hsy.out,hsx.out];exact he⟩]
          clear hl he
          go_wp2_with (first | (go_at_call 83;refine (HPY.out _ uq).mono ?_;rintro e w4 ⟨rfl,hu4⟩;have hu4:=(show Up wr w4 from uq);have z0:=jak hu4 rfl y0;have z1:=jak hu4 rfl y1;have z2:=jak hu4 rfl y2;have z3:=jak hu4 rfl y3;have z4:=jak hu4 rfl y4;have z5:=jak hu4 rfl y5;have zl:=jaj z0))
          all_goals exact ⟨⟨ii + 1,uso,by omega,by simp,by rw [HNX.out,hins.out];exact HRO.out.up (hupk.trans hu4),hupi.trans (hupk.trans hu4)⟩,by simp [intOf];omega⟩
         ·have hkmi : (kk : Int) < m:=(by omega);obtain ⟨oa2,oc2,e2,_,hel2⟩:=(HRO.out.up hupk).elems;injection e2 with e2 e4 e3;clear e4;subst e2 e3;obtain ⟨b2,off2,v1,v2,v3,v4,v5,rfl,y0,y1,y2,y3,y4,y5,hT2⟩:=hel2 kk y hy;have hyl:=jaj y0;have hyp:=HOP.out y (List.mem_of_getElem? hy);have HPY:=Lib.hid (fun W (hW : Up wr W) => jcI y hyp.1 hyp.2 W.heap.size _ W (hT2.up hW).tis (Nat.le_refl _));rw [show jaK y.kind (dt y) = jbh y from rfl] at HPY;obtain ⟨yk,hyk⟩ : ∃ z,Hid (y.kind = z):=⟨_,rfl⟩;rw [hyk.out] at y0 HPY;have HY:=Lib.hid hy;obtain ⟨sy,hsy⟩ : ∃ z,Hid (jbh y = z):=⟨_,rfl⟩;rw [hsy.out] at HPY hl;(try rw [hsy.out] at he);clear hel2 hT2 hyp hy
          have hl2 : Op.bytesLess sy.toList sx.toList = false:=hl
          have he2 : (sy.toList == sx.toList) = false:=by rw [jji];exact decide_eq_false he
          have hins : Hid (insD x O = O.take kk ++ x :: O.drop kk):=by
           unfold Hid
           rw [jgt x O kk (by rw [hm.out];exact hkk) (fun j z hj hz => by rw [hsx.out];exact hkl.out j z hj hz) (fun z hz => by rw [HY.out] at hz;cases hz;rw [hsy.out,hsx.out];exact hl),if_neg (by rintro ⟨z,hz,hz2⟩;rw [HY.out] at hz;cases hz;rw [hsy.out,hsx.out] at hz2;exact he hz2)]
          clear hl he
          go_wp2_with (first | (go_at_call 83;refine (HPY.out _ uq).mono ?_;rintro e w4 ⟨rfl,hu4⟩;have hu4:=(show Up wr w4 from uq);have z0:=jak hu4 rfl y0;have z1:=jak hu4 rfl y1;have z2:=jak hu4 rfl y2;have z3:=jak hu4 rfl y3;have z4:=jak hu4 rfl y4;have z5:=jak hu4 rfl y5;have zl:=jaj z0) | (at_builtin;go_must (refine jae rfl _ _ 29 rfl RefT i0 (.agg #[.int .i64 0, .int .i64 0, .string ⟨#[]⟩, .slice none 0 0, .slice none 0 0, .slice none 0 0]) 6 104 Tryz.underlying29 hi hz0 hz1 hz2 rfl (by decide) (.slice (some ⟨b2,off2,none⟩) m oc) m uso.flatten rfl (ja5 HROm.out (hupk.trans (Up.alloc hu4 _))) _ 1 1 rfl ?_ rfl ?_ ?_ ?_ ?_;(simp only [gQw]);(simp [Value.oneCell']);(unfold maxLen;omega);omega;intro sa' cap' w5 hown' hgrow hblk)))
          have HR5 : Hid (RowU N WL.heap.size w5 (.slice sa' (m + 1) cap') (O ++ [ja3 0]) (uso ++ [[.int .i64 0, .int .i64 0, .string ⟨#[]⟩, .slice none 0 0, .slice none 0 0, .slice none 0 0]])):=by
           refine RowU.push (w:=w) (HRO.out.up (hupk.trans (Up.alloc hu4 _))) (fun x hx _ => Nat.lt_of_lt_of_le (HNL.out x hx) hup1.out.size) ((hupi.trans hupk).trans (Up.alloc hu4 _)).size rfl (by simp) (fun j u t h1 h2 => ?_) ?_ hgrow ?_
           ·cases j with
            | zero =>
              simp only [gQz,Option.some.injEq] at h1 h2
              subst h1 h2
              exact TIn.leaf _ _ 0
            | succ j => simp at h1
           ·rw [hm.out];exact hown'
           ·simpa only [gQw] using hblk
          have HU5 : Hid (Up WL w5):=((hupi.trans hupk).trans (Up.alloc hu4 _)).grown hgrow (fun r e => HRO.out.far r e)
          obtain ⟨g,hsa⟩ : ∃ g,sa' = some ⟨g,0,none⟩:=by
           rcases hown'.2 with ⟨_,h0⟩ | ⟨g,cap,cur,e,_⟩
           ·omega
           ·injection e with e _ _;exact ⟨g,e⟩
          subst hsa
          clear hown' hgrow hblk
          (try clear z0 z1 z2 z3 z4 z5 zl)
          (try clear y0 y1 y2 y3 y4 y5 hyl)
          go_loopw [9] (fun jv wr => ∃ (jj : Nat) (z : Ty) (us : List (List Value)),kk ≤ jj ∧ jj ≤ m ∧ jv = .int .i64 jj ∧ RowU N WL.heap.size wr (.slice (some ⟨g,0,none⟩) (m + 1) cap') (O.take jj ++ z :: O.drop jj) us ∧ Up WL wr) (fun jv _ => (intOf jv).toNat)
          case atStart => exact ⟨m,ja3 0,_,hkk,Nat.le_refl _,rfl,by rw [show O.take m ++ ja3 0 :: O.drop m = O ++ [ja3 0] by rw [← hm.out,List.take_length,List.drop_length]];exact HR5.out,HU5.out⟩
          case round =>
           obtain ⟨jj,z,us,hkj,hjm,rfl,hrj,hupj⟩:=hrel
           by_cases hkj2 : kk < jj
           ·obtain ⟨jn,rfl⟩ : ∃ jn,jj = jn + 1:=⟨jj - 1,by omega⟩
            have hji : (kk : Int) < (jn : Int) + 1:=by omega
            have HRJ:=Lib.hid hrj
            have hlo:=Lib.hid (hrj.far g rfl)
            have HLN : Hid ((O.take (jn + 1) ++ z :: O.drop (jn + 1)).length = m + 1):=by unfold Hid;rw [List.length_append,List.length_take,List.length_cons,List.length_drop,hm.out];omega
            obtain ⟨a3,cap3,e3,_,hel3⟩:=hrj.elems
            injection e3 with r1 r2 r3
            subst r1 r3
            clear r2
            obtain ⟨xj,hxj⟩ : ∃ x,O[jn]? = some x:=⟨_,List.getElem?_eq_getElem (by rw [hm.out];omega)⟩
            obtain ⟨b4,off4,v1,v2,v3,v4,v5,e4,d0,d1,d2,d3,d4,d5,hTj⟩:=hel3 jn xj (by rw [jm6 (by rw [hm.out];omega)];exact hxj)
            injection e4 with e4
            injection e4 with e4 e5 _
            subst e4 e5
            simp only [Nat.zero_add] at d0 d1 d2 d3 d4 d5
            obtain ⟨dl,⟨o0,o1,o2,o3,o4,o5,e0,e1,e2,e3,e4,e5⟩,hice⟩:=hrj.olds (j:=jn + 1) (by rw [HLN.out];omega)
            have i0:=hice ((jn + 1) * 6)
            have i1:=hice ((jn + 1) * 6 + 1)
            have i2:=hice ((jn + 1) * 6 + 2)
            have i3:=hice ((jn + 1) * 6 + 3)
            have i4:=hice ((jn + 1) * 6 + 4)
            have i5:=hice ((jn + 1) * 6 + 5)
            obtain ⟨vn,vnm,vpa,vna,vma,vlp,vcp,vln,vcn,vlm,vcm,rfl,rfl,rfl,rfl,rfl⟩:=hTj.shapes
            have HTJ:=Lib.hid hTj
            have HXJ:=Lib.hid hxj
            obtain ⟨xjk,hxjk⟩ : ∃ y,Hid (xj.kind = y):=⟨_,rfl⟩
            rw [hxjk.out] at d0
            rw [hxjk.out] at HTJ
            obtain ⟨cur,hcur⟩:=jbF HRJ.out.own rfl
            obtain ⟨⟨p1,p2⟩,⟨p3,p4⟩,⟨p5,p6⟩,⟨p7,p8⟩,p9,p10⟩:=jeF hcur e1 e2 e3 e4 e5 (.int .i64 xjk) (.int .i64 vn) (.string vnm) (.slice vpa vlp vcp) (.slice vna vln vcn)
            clear hel3 hrj hTj hxj hice i1 i2 i3 i4 i5 e1 e2 e3 e4 e5 hcur
            go_wp2_with fail
            have q:=HRJ.out.store (fun x hx _ => Nat.lt_of_lt_of_le (HNL.out x hx) hup1.out.size) (j:=jn + 1) (by rw [HLN.out];omega) HTJ.out
            rw [jkJ HXJ.out] at q
            exact ⟨⟨jn,xj,_,by omega,by omega,rfl,q,jcq hupj hlo.out _ _ _ _ _ _ _⟩,by simp [intOf]⟩
           ·obtain rfl : jj = kk:=by omega
            have HRJ:=Lib.hid hrj
            have hlo:=Lib.hid (hrj.far g rfl)
            have HLN : Hid ((O.take jj ++ z :: O.drop jj).length = m + 1):=by unfold Hid;rw [List.length_append,List.length_take,List.length_cons,List.length_drop,hm.out];omega
            obtain ⟨b4,off4,v1,v2,v3,v4,v5,e4,d0,d1,d2,d3,d4,d5,hTj⟩:=HL.out.later hupj ii x HXI.out
            injection e4 with e4
            injection e4 with e4 e5 _
            subst e4 e5
            obtain ⟨dl,⟨o0,o1,o2,o3,o4,o5,e0,e1,e2,e3,e4,e5⟩,hice⟩:=hrj.olds (j:=jj) (by rw [HLN.out];omega)
            have i0:=hice (jj * 6)
            have hbl2:=jaj d0
            obtain ⟨vn,vnm,vpa,vna,vma,vlp,vcp,vln,vcn,vlm,vcm,rfl,rfl,rfl,rfl,rfl⟩:=hTj.shapes
            have HTJ:=Lib.hid hTj
            rw [hxk.out] at d0 HTJ
            obtain ⟨cur,hcur⟩:=jbF HRJ.out.own rfl
            obtain ⟨⟨p1,p2⟩,⟨p3,p4⟩,⟨p5,p6⟩,⟨p7,p8⟩,p9,p10⟩:=jeF hcur e1 e2 e3 e4 e5 (.int .i64 xk) (.int .i64 vn) (.string vnm) (.slice vpa vlp vcp) (.slice vna vln vcn)
            clear hrj hTj hice e1 e2 e3 e4 e5 hcur
            go_wp2_with fail
            have q:=HRJ.out.store (fun x hx _ => Nat.lt_of_lt_of_le (HNL.out x hx) hup1.out.size) (j:=jj) (by rw [HLN.out];omega) HTJ.out
            rw [jiT (by rw [hm.out];omega), ← hins.out, ← HNX.out] at q
            exact ⟨⟨ii + 1,_,by omega,by simp,q,jcq hupj hlo.out _ _ _ _ _ _ _⟩,by simp [intOf];omega⟩
         ·have hnk : ¬ (kk : Int) < m:=by omega
          have hins : Hid (insD x O = O.take kk ++ x :: O.drop kk):=by
           unfold Hid
           rw [jgt x O kk (by rw [hm.out];exact hkk) (fun j z hj hz => by rw [hsx.out];exact hkl.out j z hj hz) (fun z hz => by rw [List.getElem?_eq_none (by rw [hm.out];omega)] at hz;cases hz),if_neg (by rintro ⟨z,hz,hz2⟩;rw [List.getElem?_eq_none (by rw [hm.out];omega)] at hz;cases hz)]
          have hu4:=Up.refl wr
          have HKM:=Lib.hid hkm
          clear hkm hnk
          have hnk : ¬ (kk : Int) < m:=by have:=HKM.out;omega
          go_wp2_with (first | (at_builtin;go_must (refine jae rfl _ _ 29 rfl RefT i0 (.agg #[.int .i64 0, .int .i64 0, .string ⟨#[]⟩, .slice none 0 0, .slice none 0 0, .slice none 0 0]) 6 104 Tryz.underlying29 hi hz0 hz1 hz2 rfl (by decide) (.slice oa m oc) m uso.flatten rfl (ja5 HROm.out (hupk.trans (Up.alloc hu4 _))) _ 1 1 rfl ?_ rfl ?_ ?_ ?_ ?_;(simp only [gQw]);(simp [Value.oneCell']);(unfold maxLen;omega);omega;intro sa' cap' w5 hown' hgrow hblk)))
          have HR5 : Hid (RowU N WL.heap.size w5 (.slice sa' (m + 1) cap') (O ++ [ja3 0]) (uso ++ [[.int .i64 0, .int .i64 0, .string ⟨#[]⟩, .slice none 0 0, .slice none 0 0, .slice none 0 0]])):=by
           refine RowU.push (w:=w) (HRO.out.up (hupk.trans (Up.alloc hu4 _))) (fun x hx _ => Nat.lt_of_lt_of_le (HNL.out x hx) hup1.out.size) ((hupi.trans hupk).trans (Up.alloc hu4 _)).size rfl (by simp) (fun j u t h1 h2 => ?_) ?_ hgrow ?_
           ·cases j with
            | zero =>
              simp only [gQz,Option.some.injEq] at h1 h2
              subst h1 h2
              exact TIn.leaf _ _ 0
            | succ j => simp at h1
           ·rw [hm.out];exact hown'
           ·simpa only [gQw] using hblk
          have HU5 : Hid (Up WL w5):=((hupi.trans hupk).trans (Up.alloc hu4 _)).grown hgrow (fun r e => HRO.out.far r e)
          obtain ⟨g,hsa⟩ : ∃ g,sa' = some ⟨g,0,none⟩:=by
           rcases hown'.2 with ⟨_,h0⟩ | ⟨g,cap,cur,e,_⟩
           ·omega
           ·injection e with e _ _;exact ⟨g,e⟩
          subst hsa
          clear hown' hgrow hblk
          (try clear z0 z1 z2 z3 z4 z5 zl)
          (try clear y0 y1 y2 y3 y4 y5 hyl)
          go_loopw [9] (fun jv wr => ∃ (jj : Nat) (z : Ty) (us : List (List Value)),kk ≤ jj ∧ jj ≤ m ∧ jv = .int .i64 jj ∧ RowU N WL.heap.size wr (.slice (some ⟨g,0,none⟩) (m + 1) cap') (O.take jj ++ z :: O.drop jj) us ∧ Up WL wr) (fun jv _ => (intOf jv).toNat)
          case atStart => exact ⟨m,ja3 0,_,hkk,Nat.le_refl _,rfl,by rw [show O.take m ++ ja3 0 :: O.drop m = O ++ [ja3 0] by rw [← hm.out,List.take_length,List.drop_length]];exact HR5.out,HU5.out⟩
          case round =>
           obtain ⟨jj,z,us,hkj,hjm,rfl,hrj,hupj⟩:=hrel
           by_cases hkj2 : kk < jj
           ·exfalso
            have:=HKM.out
            omega
           ·obtain rfl : jj = kk:=by omega
            have HRJ:=Lib.hid hrj
            have hlo:=Lib.hid (hrj.far g rfl)
            have HLN : Hid ((O.take jj ++ z :: O.drop jj).length = m + 1):=by unfold Hid;rw [List.length_append,List.length_take,List.length_cons,List.length_drop,hm.out];omega
            obtain ⟨b4,off4,v1,v2,v3,v4,v5,e4,d0,d1,d2,d3,d4,d5,hTj⟩:=HL.out.later hupj ii x HXI.out
            injection e4 with e4
            injection e4 with e4 e5 _
            subst e4 e5
            obtain ⟨dl,⟨o0,o1,o2,o3,o4,o5,e0,e1,e2,e3,e4,e5⟩,hice⟩:=hrj.olds (j:=jj) (by rw [HLN.out];omega)
            have i0:=hice (jj * 6)
            have hbl2:=jaj d0
            obtain ⟨vn,vnm,vpa,vna,vma,vlp,vcp,vln,vcn,vlm,vcm,rfl,rfl,rfl,rfl,rfl⟩:=hTj.shapes
            have HTJ:=Lib.hid hTj
            rw [hxk.out] at d0 HTJ
            obtain ⟨cur,hcur⟩:=jbF HRJ.out.own rfl
            obtain ⟨⟨p1,p2⟩,⟨p3,p4⟩,⟨p5,p6⟩,⟨p7,p8⟩,p9,p10⟩:=jeF hcur e1 e2 e3 e4 e5 (.int .i64 xk) (.int .i64 vn) (.string vnm) (.slice vpa vlp vcp) (.slice vna vln vcn)
            clear hrj hTj hice e1 e2 e3 e4 e5 hcur
            go_wp2_with fail
            have q:=HRJ.out.store (fun x hx _ => Nat.lt_of_lt_of_le (HNL.out x hx) hup1.out.size) (j:=jj) (by rw [HLN.out];omega) HTJ.out
            rw [jiT (by rw [hm.out];omega), ← hins.out, ← HNX.out] at q
            exact ⟨⟨ii + 1,_,by omega,by simp,q,jcq hupj hlo.out _ _ _ _ _ _ _⟩,by simp [intOf];omega⟩
      ·obtain rfl : ii = n:=by omega
       rw [show L.take ii = L by rw [← hn.out,List.take_length]] at hro hoc ⊢
       have hol:=jgm L L
       rw [hn.out] at hol
       obtain ⟨O,hO⟩ : ∃ y,Hid (outD L L = y):=⟨_,rfl⟩
       rw [hO.out] at hro hoc hol hD ⊢
       obtain ⟨m,hm⟩ : ∃ y,Hid (O.length = y):=⟨_,rfl⟩
       rw [hm.out] at hoc hol ⊢
       have HRO:=Lib.hid hro
       have HQi:=Lib.hid (hupi.get HQw.out)
       have HUi : Hid (Up w wr):=hu0.out.trans (hup1.out.trans hupi)
       have hm2 : m ≤ 2000000:=by omega
       clear hro hin
       match O,hm,HRO,hD with
       | [],hm,HRO,hD =>
         obtain rfl : m = 0:=by have:=hm.out;simp at this;omega
         go_wp2_with (first
          | (go_at_call 19;refine (jio _ _).mono ?_;rintro e w3 ⟨rfl,hu3⟩;have s0:=(show Up wr w3 from uq).get HQi.out;obtain ⟨q0,p0,q1,p1,q2,p2,q3,p3,q4,p4,q5,p5,q9⟩:=uc6 s0;clear s0))
         all_goals (change bodyPost _ _ _ _ _ (jbc _ q 0 (.int .i64 3) (.int .i64 0) (.string ⟨#[]⟩) (.slice none 0 0) (.slice none 0 0) (.slice none 0 0));obtain ⟨hT9,hu9⟩:=jbv hq.out (HUi.out.trans (show Up wr w3 from uq)) ((show Up wr w3 from uq).get HQi.out) HE.out.2.2 (TIn.leaf (fun x => N x ∨ q + 1 ≤ x) _ 3);exact jcm rfl rfl (jaT ((show Up wr w3 from uq).get HQi.out) (.int .i64 3) (.int .i64 0) (.string ⟨#[]⟩) (.slice none 0 0) (.slice none 0 0) (.slice none 0 0)) ⟨_,rfl,by rw [hD.out];exact hT9,hu9⟩)
       | [x],hm,HRO,hD =>
         obtain rfl : m = 1:=by have:=hm.out;simp at this;omega
         obtain ⟨a3,cap3,e3,_,hel3⟩:=HRO.out.elems
         injection e3 with r1 r2 r3
         subst r1 r3
         clear r2
         obtain ⟨b4,off4,v1,v2,v3,v4,v5,e4,d0,d1,d2,d3,d4,d5,hTj⟩:=hel3 0 x rfl
         subst e4
         simp only [Nat.zero_mul,Nat.add_zero] at d0 d1 d2 d3 d4 d5
         obtain ⟨vn,vnm,vpa,vna,vma,vlp,vcp,vln,vcn,vlm,vcm,rfl,rfl,rfl,rfl,rfl⟩:=hTj.shapes
         have HTJ:=Lib.hid hTj
         have dl:=jaj d0
         obtain ⟨xk,hxk⟩ : ∃ y,Hid (x.kind = y):=⟨_,rfl⟩
         rw [hxk.out] at d0 HTJ
         have s0:=HQi.out
         obtain ⟨q0,p0,q1,p1,q2,p2,q3,p3,q4,p4,q5,p5,q9⟩:=uc6 s0;clear s0
         clear hel3 hTj
         go_wp2_with fail
         all_goals (change bodyPost _ _ _ _ _ (jbc _ q 0 (.int .i64 xk) (.int .i64 vn) (.string vnm) (.slice vpa vlp vcp) (.slice vna vln vcn) (.slice vma vlm vcm));obtain ⟨hT9,hu9⟩:=jbv hq.out (HUi.out) (HQi.out) HE.out.2.2 (HTJ.out.more (fun x hx _ => .inl hx));exact jcm rfl rfl (jaT (HQi.out) (.int .i64 xk) (.int .i64 vn) (.string vnm) (.slice vpa vlp vcp) (.slice vna vln vcn) (.slice vma vlm vcm)) ⟨_,rfl,by rw [hD.out];exact hT9,hu9⟩)
       | x :: y :: r,hm,HRO,hD =>
         have hlen:=hm.out
         rw [List.length_cons,List.length_cons] at hlen
         have hm3 : ¬ (m : Int) = 0:=by omega
         have hm4 : ¬ (m : Int) = 1:=by omega
         clear hlen
         have hm5 : ((m : Int) == 0) = false:=beq_eq_false_iff_ne.2 hm3
         have hm6 : ((m : Int) == 1) = false:=beq_eq_false_iff_ne.2 hm4
         have s0:=HQi.out
         obtain ⟨q0,p0,q1,p1,q2,p2,q3,p3,q4,p4,q5,p5,q9⟩:=uc6 s0;clear s0
         go_wp2_with fail
         all_goals (change bodyPost _ _ _ _ _ (jbc _ q 0 (.int .i64 16) (.int .i64 0) (.string ⟨#[]⟩) (.slice oa m oc) (.slice none 0 0) (.slice none 0 0));obtain ⟨hT9,hu9⟩:=jbv hq.out (HUi.out) (HQi.out) HE.out.2.2 ((show TIn (fun x => N x ∨ q + 1 ≤ x) _ [.int .i64 16, .int .i64 0, .string ⟨#[]⟩, .slice oa m oc, .slice none 0 0, .slice none 0 0] (.mk 16 0 ⟨#[]⟩ (x :: y :: r) [] []) by have h5:=HRO.out.tin16 (q:=q + 1) (by have:=hqW.out;have:=hup1.out.size;omega) (by rw [hm.out];exact hm2);rw [hm.out] at h5;exact h5));exact jcm rfl rfl (jaT (HQi.out) (.int .i64 16) (.int .i64 0) (.string ⟨#[]⟩) (.slice oa m oc) (.slice none 0 0) (.slice none 0 0)) ⟨_,rfl,by rw [hD.out];exact hT9,hu9⟩)
end Go.Proofs.YtiaepldmgighbaaGreatDoor
