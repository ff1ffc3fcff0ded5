import Derived.Lib.LaidTab
import Derived.Test.YtiaepldmgighbaaGreatDoorU22
import Derived.Test.YtiaepldmgighbaaGreatDoorU12
namespace Go.Proofs.YtiaepldmgighbaaGreatDoor
open Go.RowKit
set_option linter.unusedSimpArgs false
def Tab (w : World) : Prop:=Lib.TabIs Tryz.prog w "internal/strconv.uint64pow10" .u64 Lib.pow10Tab
def Bru (w : World) : Prop:=w.cell? ⟨3,15,none⟩ = some (.int .u8 4)
def jou (o : Obj) : Prop := ∀ (cs : Array Value) (f : Nat × Nat),o ≠ .cells cs TyT f ∧ o ≠ .cells cs TpT f
def Glob (w : World) : Prop := ∀ w' : World,(∀ (b : Nat) (o : Obj),w.heap[b]? = some o → jou o → w'.heap[b]? = some o) → Tab w' ∧ Bru w'
theorem Glob.now {w : World} (h : Glob w) : Tab w ∧ Bru w:=h w fun _ _ q _ => q
theorem Glob.step {w w' : World} (h : Glob w) (k : ∀ (b : Nat) (o : Obj),w.heap[b]? = some o → jou o → w'.heap[b]? = some o) : Glob w':=fun w2 h2 => h w2 fun b o q p => h2 b o (k b o q p) p
theorem Glob.up {w w' : World} (h : Glob w) (k : Up w w') : Glob w':=h.step fun _ _ q _ => k.get q
theorem Glob.memo {B : Nat} {w w' : World} (h : Glob w) (k : Memo jag B w w') : Glob w':=h.step fun b o q p => k.obj b o q (fun cs f e => (p cs f).1 e) (fun e => e)
theorem Glob.row {w : World} {g i : Nat} {cs : Array Value} {f : Nat × Nat} (h : Glob w) (hg : w.heap[g]? = some (.cells cs TpT f)) (v : Value) : Glob (w.setCell ⟨g,i,none⟩ v):=h.step fun b o q p => by
 rw [ja2 (fun e => ?_)]
 ·exact q
 ·subst e
  rw [hg] at q
  injection q with q
  exact (p cs f).2 q.symm
def jaF (l : List Nat) : Nat:=(l.map (· + 32)).sum
mutual
def Ty.wide : Ty → Nat
 | .mk _ _ nm ps ns _ => 128 + 6 * nm.size + jaF (ns.map (·.size)) + jaF (Ty.wides ps)
def Ty.wides : List Ty → List Nat
 | [] => []
 | p :: r => p.wide :: Ty.wides r
end
theorem Ty.wides_eq : ∀ ps : List Ty,Ty.wides ps = ps.map Ty.wide
 | [] => rfl
 | p :: r => by rw [Ty.wides,Ty.wides_eq r];rfl
theorem Ty.wide_mk (k n : Int) (nm : ByteArray) (ps : List Ty) (ns : List ByteArray) (ms : List Bool) : (Ty.mk k n nm ps ns ms).wide = 128 + 6 * nm.size + jaF (ns.map (·.size)) + jaF (ps.map Ty.wide):=by rw [Ty.wide,Ty.wides_eq]
structure Shape (k : Int) (np nn nm : Nat) : Prop where
 lo : 1 ≤ k
 hi : k ≤ 23
 arr : k = 13 → 1 ≤ np
 obj : k = 14 → nn = np ∧ nm = np
 fn : k = 15 → 1 ≤ np ∧ nm + 1 = np
 case_ : k = 20 → 1 ≤ np
inductive Ty.Ok : Ty → Prop
 | mk {k n : Int} {nm : ByteArray} {ps : List Ty} {ns : List ByteArray} {ms : List Bool} (sh : Shape k ps.length ns.length ms.length) (lo : -9223372036854775808 ≤ n) (hi : n ≤ 9223372036854775807) (hp : ∀ p ∈ ps,Ty.Ok p) : Ty.Ok (.mk k n nm ps ns ms)
def jaL (t : Ty) : Prop := ∀ (N : Nat → Prop) (B b : Nat) (W : World),TyAt N B W b t → Glob W → Calls Tryz.prog 61 #[.pointer (some ⟨b,0,none⟩)] W fun e W' => e = .returned (.string t.text) ∧ Memo jag B W W'
def jaO (t : Ty) : Prop := ∀ (N : Nat → Prop) (B b : Nat) (W : World),TyAt N B W b t → Glob W → Calls Tryz.prog 101 #[.pointer (some ⟨b,0,none⟩)] W fun e W' => e = .returned (.string t.text) ∧ Memo jag B W W'
def jgB (t : Ty) : Prop := ∀ (N : Nat → Prop) (B b : Nat) (W : World),TyAt N B W b t → Glob W → Calls Tryz.prog 61 #[.pointer (some ⟨b,0,none⟩)] W fun e W' => e = .returned (.string t.text) ∧ Memo jag B W W' ∧ W'.cell? ⟨b,7,none⟩ = some (.string t.text)
theorem jm1 {N : Nat → Prop} {B : Nat} {w : World} {b : Nat} {t : Ty} (h : TyAt N B w b t) (v : Value) : (w.setCell ⟨b,7,none⟩ v).cell? ⟨b,7,none⟩ = some v:=by
 cases h with
 | mk said pv nv mv qs hB hh => exact (ja1 (ja6 (i:=7) hh v) 7).trans rfl
set_option maxHeartbeats 1600000
theorem jcn {t : Ty} (h : jaO t) : jgB t:=by
 intro N B b W ht hg
 have HT:=Lib.hid ht
 have HS:=Lib.hid (h N B b W ht hg)
 cases ht with
 | @mk _ k n nm ps ns ms said pv nv mv qs hB hh hs hp hn hm hl hq =>
   have HH:=Lib.hid hh
   have a7:=ja1 hh 7
   have al:=ja0 hh
   simp only [gQa,gQz,gQs] at a7
   obtain ⟨tx,htx⟩ : ∃ tx,Hid ((Ty.mk k n nm ps ns ms).text = tx):=⟨_,rfl⟩
   rw [htx.out] at HS hs ⊢
   have HE:=Lib.hid hs
   by_cases he : said.toList = []
   ·have he2 : (said.toList == []) = true:=by simp [he]
    clear hh hs hp hn hm hl hq hg
    go_enter Tryz.func61,Tryz.ntmps61
    go_wp2_with fail
    refine HS.out.mono ?_
    rintro e w2 ⟨rfl,hm2⟩
    obtain ⟨cs',h1,h2⟩:=hm2.fld b _ _ HH.out
    have x7 : ∃ v7,cs'[7]? = some v7:=by
     have q:=hm2.ty N b _ (fun _ _ e => e) HT.out
     cases q with
     | mk said' pv' nv' mv' qs' hB' hh' =>
       rw [h1] at hh'
       injection hh' with e
       injection e with e _ _
       exact ⟨_,by rw [e];rfl⟩
    obtain ⟨v7,hv7⟩:=x7
    have a7:=(ja1 h1 7).trans hv7
    have f7:=jab h1 7
    have al:=ja0 h1
    have M2:=Lib.hid hm2
    have T2:=Lib.hid (hm2.ty N b _ (fun _ _ e => e) HT.out)
    clear h1 h2 hv7 hm2 he
    go_wp2_with fail
    go_ret
    refine ⟨rfl,M2.out.trans ?_,jm1 T2.out _⟩
    have q:=Memo.said (S:=jag) T2.out
    rw [htx.out] at q
    exact q
   ·have he2 : (said.toList == []) = false:=by simp [he]
    clear hh hs hp hn hm hl hq hg
    go_enter Tryz.func61,Tryz.ntmps61
    go_wp2_with fail
    go_ret
    rcases HE.out with q | q
    ·subst q
     exact absurd (by rw [ByteArray.toList_eq]) he
    ·subst q
     exact ⟨rfl,Memo.refl _ _ _,(ja1 HH.out 7).trans rfl⟩
theorem jau {t : Ty} (h : jaO t) : jaL t:=fun N B b W ht hg => (jcn h N B b W ht hg).mono fun _ _ ⟨h1,h2,_⟩ => ⟨h1,h2⟩
theorem jcJ : ∀ (k u : Nat),u < 10 ^ (k + 1) → (Lib.decDigits u).length ≤ k + 1
 | 0,u,h => by
   unfold Lib.decDigits
   split
   ·simp
   ·omega
 | k + 1,u,h => by
   unfold Lib.decDigits
   split
   ·simp
   ·have:=jcJ k (u / 10) (by rw [Nat.pow_succ] at h;omega)
    simp
    omega
theorem jbx (n : Int) (h0 : -9223372036854775808 ≤ n) (h1 : n ≤ 9223372036854775807) : (numS n).size ≤ 24:=by
 have e : (numS n).size = (Lib.itoa n).length:=by simp [numS,ByteArray.size]
 rw [e]
 unfold Lib.itoa
 split
 ·have:=jcJ 19 n.natAbs (by omega)
  simp
  omega
 ·have:=jcJ 19 n.toNat (by omega)
  omega
theorem jbe (sep : ByteArray) (l : List ByteArray) : (jav sep l).size ≤ (l.map fun x => x.size + sep.size).sum:=by
 have e : (jav sep l).size = (Lib.join (l.map (·.data.toList)) sep.data.toList).length:=by simp [jav,ByteArray.size]
 rw [e]
 have key : ∀ l : List ByteArray,(Lib.join (l.map (·.data.toList)) sep.data.toList).length ≤ (l.map fun x => x.size + sep.size).sum:=by
  intro l
  induction l with
  | nil => exact Nat.zero_le _
  | cons x r ih =>
    have hx : x.data.toList.length = x.size:=rfl
    have hs : sep.data.toList.length = sep.size:=rfl
    cases r with
    | nil =>
      have e2 : Lib.join ([x].map (·.data.toList)) sep.data.toList = x.data.toList:=by
       unfold Lib.join List.intercalate
       simp only [List.map_cons,List.map_nil,List.intersperse_singleton,List.flatten_cons,List.flatten_nil,List.append_nil]
      rw [e2]
      simp only [List.map_cons,List.sum_cons]
      omega
    | cons y r =>
      have e2 : Lib.join ((x :: y :: r).map (·.data.toList)) sep.data.toList = x.data.toList ++ (sep.data.toList ++ Lib.join ((y :: r).map (·.data.toList)) sep.data.toList):=by
       unfold Lib.join List.intercalate
       simp only [List.map_cons,List.intersperse_cons_cons,List.flatten_cons]
      rw [e2,List.length_append,List.length_append]
      simp only [List.map_cons,List.sum_cons] at ih ⊢
      omega
 exact key l
theorem jax (x : Nat) (l : List Nat) : jaF (x :: l) = x + 32 + jaF l:=by simp [jaF]
theorem jaU (zs : List Int) (k : Int) (s : ByteArray) : (jas zs k s).size ≤ s.size + 2:=by
 unfold jas
 split
 ·simp only [ByteArray.size_append]
  have a : (⟨#[40]⟩ : ByteArray).size = 1:=rfl
  have b : (⟨#[41]⟩ : ByteArray).size = 1:=rfl
  omega
 ·omega
theorem jfV (m : Bool) : (jds m).size ≤ 1:=by cases m <;> decide
theorem jcA : ∀ (ts : List (Int × ByteArray)) (ns : List ByteArray) (ms : List Bool),((jaC ts ns ms).map fun x => x.size + 2).sum ≤ jaF (ns.map (·.size)) + jaF (ts.map (·.2.size))
 | [],ns,ms => by simp [jaC]
 | x :: r,[],ms => by simp [jaC]
 | x :: r,nm :: ns,[] => by simp [jaC]
 | x :: r,nm :: ns,m :: ms => by
   have ih:=jcA r ns ms
   have h1:=jfV m
   have a : (⟨#[58,32]⟩ : ByteArray).size = 2:=rfl
   simp only [jaC,List.map_cons,List.sum_cons,jax,ByteArray.size_append]
   omega
theorem jd8 : ∀ (ts : List (Int × ByteArray)) (ms : List Bool),((jaM ts ms).map fun x => x.size + 2).sum ≤ jaF (ts.map (·.2.size))
 | [],ms => by simp [jaM]
 | x :: r,[] => by simp [jaM]
 | x :: r,m :: ms => by
   have ih:=jd8 r ms
   have h1:=jaU [15,16] x.1 x.2
   have a : (⟨#[63]⟩ : ByteArray).size = 1:=rfl
   simp only [jaM,List.map_cons,List.sum_cons,jax]
   split
   ·simp only [ByteArray.size_append];omega
   ·omega
theorem jfN (ts : List (Int × ByteArray)) : (((ts.map fun x => jaK x.1 x.2)).map fun x => x.size + 3).sum ≤ jaF (ts.map (·.2.size)):=by
 induction ts with
 | nil => simp
 | cons x r ih =>
   have h1:=jaU [15] x.1 x.2
   simp only [List.map_cons,List.sum_cons,jax,jaK] at ih ⊢
   omega
theorem jeU (ts : List (Int × ByteArray)) : (((ts.map (·.2))).map fun x => x.size + 2).sum ≤ jaF (ts.map (·.2.size)):=by
 induction ts with
 | nil => simp
 | cons x r ih =>
   simp only [List.map_cons,List.sum_cons,jax] at ih ⊢
   omega
theorem jhu (ts : List (Int × ByteArray)) : (ts.headD (0,⟨#[]⟩)).2.size ≤ jaF (ts.map (·.2.size)):=by
 cases ts with
 | nil => simp;decide
 | cons x r => simp only [List.headD_cons,List.map_cons,jax];omega
theorem jgF (a b : List Nat) : jaF (a ++ b) = jaF a + jaF b:=by simp [jaF]
theorem jhn (ts : List (Int × ByteArray)) : jaF (ts.dropLast.map (·.2.size)) + (ts.getLastD (0,⟨#[]⟩)).2.size ≤ jaF (ts.map (·.2.size)):=by
 rcases List.eq_nil_or_concat ts with rfl | ⟨r,x,rfl⟩
 ·simp;decide
 ·rw [List.concat_eq_append,List.dropLast_concat,List.map_append,jgF]
  have e : (r ++ [x]).getLastD (0,⟨#[]⟩) = x:=by simp [List.getLastD_eq_getLast?]
  rw [e]
  simp only [List.map_cons,List.map_nil,jax]
  omega
theorem jjo (k : Int) : (jaw k).size ≤ 9:=by
 unfold jaw
 repeat' split
 all_goals decide
theorem jkR (r : Nat) : (jac r).size ≤ 6:=by
 have h1:=encode_size_le (r : Int)
 have h2 : (hexS r).size ≤ 2:=by
  have key : ∀ u,u < 32 → (hexS u).size ≤ 2:=by decide
  by_cases h : r < 32
  ·exact key r h
  ·by_cases h2 : r = 127
   ·subst h2;decide
   ·unfold hexS
    iterate 32 rw [if_neg (by omega)]
    rw [if_neg h2]
    decide
 have a1 : (⟨#[92]⟩ : ByteArray).size = 1:=rfl
 have a2 : (⟨#[92,117,123]⟩ : ByteArray).size = 3:=rfl
 have a3 : (⟨#[125]⟩ : ByteArray).size = 1:=rfl
 have a4 : (⟨#[92,110]⟩ : ByteArray).size = 2:=rfl
 have a5 : (⟨#[92,114]⟩ : ByteArray).size = 2:=rfl
 have a6 : (⟨#[92,116]⟩ : ByteArray).size = 2:=rfl
 unfold jac
 generalize hexS r = hx at h2 ⊢
 repeat' split
 all_goals first | (rw [ByteArray.size_append,ByteArray.size_append];omega) | (rw [ByteArray.size_append];omega) | omega
theorem jh4 : ∀ (l : List (Nat × Nat)) (acc : ByteArray),(jaH acc l).size ≤ acc.size + 6 * l.length
 | [],acc => by simp [jaH]
 | x :: r,acc => by
   have ih:=jh4 r (acc ++ jac x.2)
   have h:=jkR x.2
   have e : jaH acc (x :: r) = jaH (acc ++ jac x.2) r:=rfl
   rw [e]
   rw [ByteArray.size_append] at ih
   simp only [List.length_cons]
   omega
theorem jdP : ∀ (f a : Nat) (l : List UInt8),(jbw f a l).length ≤ f
 | 0,_,_ => by simp [jbw]
 | f + 1,a,[] => by simp [jbw]
 | f + 1,a,x :: r => by
   have:=jdP f (a + (decS (x :: r)).2) ((x :: r).drop (decS (x :: r)).2)
   simp only [jbw,List.length_cons]
   omega
theorem jeH (s : ByteArray) : (jbJ s).size ≤ 6 * s.size + 2:=by
 unfold jbJ
 rw [ByteArray.size_append]
 have h1:=jh4 (jaz s.data.toList) ⟨#[34]⟩
 have h2:=jdP s.data.toList.length 0 s.data.toList
 have a : (⟨#[34]⟩ : ByteArray).size = 1:=rfl
 have e : s.data.toList.length = s.size:=rfl
 have h3 : (jaz s.data.toList).length ≤ s.data.toList.length:=h2
 omega
theorem jfD (k n : Int) (nm : ByteArray) (ts : List (Int × ByteArray)) (ns : List ByteArray) (ms : List Bool) (h0 : -9223372036854775808 ≤ n) (h1 : n ≤ 9223372036854775807) : (jap k n nm ts ns ms).size ≤ 128 + 6 * nm.size + jaF (ns.map (·.size)) + jaF (ts.map (·.2.size)):=by
 have hn:=jbx n h0 h1
 have hq:=jeH nm
 have b1 : (⟨#[91,93]⟩ : ByteArray).size = 2:=rfl
 have b2 : (⟨#[123]⟩ : ByteArray).size = 1:=rfl
 have b3 : (⟨#[125]⟩ : ByteArray).size = 1:=rfl
 have b4 : (⟨#[40]⟩ : ByteArray).size = 1:=rfl
 have b5 : (⟨#[41,32,61,62,32]⟩ : ByteArray).size = 5:=rfl
 have b6 : (⟨#[60]⟩ : ByteArray).size = 1:=rfl
 have b7 : (⟨#[62]⟩ : ByteArray).size = 1:=rfl
 have b8 : (⟨#[39]⟩ : ByteArray).size = 1:=rfl
 have b9 : (⟨#[64]⟩ : ByteArray).size = 1:=rfl
 have c1 : (⟨#[46]⟩ : ByteArray).size = 1:=rfl
 have c2 : (⟨#[99,108,97,115,115,32]⟩ : ByteArray).size = 6:=rfl
 have c3 : (⟨#[101,110,117,109,32]⟩ : ByteArray).size = 5:=rfl
 have c4 : (⟨#[110,97,109,101,115,112,97,99,101,32]⟩ : ByteArray).size = 10:=rfl
 have c5 : (⟨#[35]⟩ : ByteArray).size = 1:=rfl
 have hh : (jbn nm n).size ≤ nm.size + 25:=by unfold jbn;simp only [ByteArray.size_append];omega
 unfold jap
 by_cases e11 : k = 11
 ·rw [if_pos e11]
  omega
 rw [if_neg e11]
 by_cases e12 : k = 12
 ·rw [if_pos e12]
  omega
 rw [if_neg e12]
 by_cases e13 : k = 13
 ·rw [if_pos e13]
  have r1:=jaU [15,16] (ts.headD (0,⟨#[]⟩)).1 (ts.headD (0,⟨#[]⟩)).2
  have r2:=jhu ts
  rw [ByteArray.size_append]
  omega
 rw [if_neg e13]
 by_cases e14 : k = 14
 ·rw [if_pos e14]
  have r1:=jbe ⟨#[59,32]⟩ (jaC ts ns ms)
  have r2:=jcA ts ns ms
  have e : (⟨#[59,32]⟩ : ByteArray).size = 2:=rfl
  rw [e] at r1
  simp only [ByteArray.size_append]
  omega
 rw [if_neg e14]
 by_cases e15 : k = 15
 ·rw [if_pos e15]
  have r1:=jbe ⟨#[44,32]⟩ (jaM ts.dropLast ms)
  have r2:=jd8 ts.dropLast ms
  have r3:=jhn ts
  have e : (⟨#[44,32]⟩ : ByteArray).size = 2:=rfl
  rw [e] at r1
  simp only [ByteArray.size_append]
  omega
 rw [if_neg e15]
 by_cases e16 : k = 16
 ·rw [if_pos e16]
  have r1:=jbe ⟨#[32,124,32]⟩ (ts.map fun x => jaK x.1 x.2)
  have r2:=jfN ts
  have e : (⟨#[32,124,32]⟩ : ByteArray).size = 3:=rfl
  rw [e] at r1
  omega
 rw [if_neg e16]
 by_cases e17 : k = 17
 ·rw [if_pos e17]
  split
  ·omega
  ·have r1:=jbe ⟨#[44,32]⟩ (ts.map (·.2))
   have r2:=jeU ts
   have e : (⟨#[44,32]⟩ : ByteArray).size = 2:=rfl
   rw [e] at r1
   simp only [ByteArray.size_append]
   omega
 rw [if_neg e17]
 by_cases e18 : k = 18
 ·rw [if_pos e18]
  simp only [ByteArray.size_append];omega
 rw [if_neg e18]
 by_cases e19 : k = 19
 ·rw [if_pos e19]
  simp only [ByteArray.size_append];omega
 rw [if_neg e19]
 by_cases e20 : k = 20
 ·rw [if_pos e20]
  have r2:=jhu ts
  simp only [ByteArray.size_append]
  omega
 rw [if_neg e20]
 by_cases e21 : k = 21
 ·rw [if_pos e21]
  simp only [ByteArray.size_append];omega
 rw [if_neg e21]
 by_cases e22 : k = 22
 ·rw [if_pos e22]
  simp only [ByteArray.size_append];omega
 rw [if_neg e22]
 by_cases e23 : k = 23
 ·rw [if_pos e23]
  simp only [ByteArray.size_append];omega
 rw [if_neg e23]
 have:=jjo k
 omega
theorem jfx : ∀ (l : List Ty),(∀ p ∈ l,p.text.size ≤ p.wide) → jaF (l.map fun p => p.text.size) ≤ jaF (l.map Ty.wide)
 | [],_ => by simp [jaF]
 | p :: r,h => by
   have h1:=h p (by simp)
   have h2:=jfx r fun q hq => h q (by simp [hq])
   simp only [List.map_cons,jax]
   omega
theorem jkA {t : Ty} (h : t.Ok) : t.text.size ≤ t.wide:=by
 induction h with
 | @mk k n nm ps ns ms sh lo hi hp ih =>
   rw [Ty.text_mk,Ty.wide_mk]
   have h1:=jfD k n nm (ps.map fun p => (p.kind,p.text)) ns ms lo hi
   have h2:=jfx ps ih
   rw [List.map_map] at h1
   have e : ((fun x : Int × ByteArray => x.2.size) ∘ fun p : Ty => (p.kind,p.text)) = fun p => p.text.size:=rfl
   rw [e] at h1
   omega
theorem Bru.up {w w' : World} (h : Bru w) (k : Up w w') : Bru w':=by
 unfold Bru at *
 rw [k.cells _ _ (jcX h)];exact h
theorem jkV (w : World) : Calls Tryz.prog 223 #[.int .i64 16] w fun e w' => e = .returned (.bool true) ∧ w = w':=by
 go_enter Tryz.func223,Tryz.ntmps223
 go_wp2_with fail
 go_ret
 exact ⟨rfl,rfl⟩
theorem jnC (w : World) (h : Bru w) : Calls Tryz.prog 228 #[.int .u64 16] w fun e w' => e = .returned (.int .i64 4) ∧ w = w':=by
 unfold Bru at h
 have e1 : IntKind.u64.wrap (bits BinOp.and IntKind.u64 16 (IntKind.u64.wrap (-16)) * 285870213051353865) / 288230376151711744 = 15:=by decide
 go_enter Tryz.func228,Tryz.ntmps228
 go_wp2_with fail
 go_ret
 exact ⟨rfl,rfl⟩
theorem tz_16 (w : World) (h : Bru w) : Calls Tryz.prog 224 #[.int .u64 16] w fun e w' => e = .returned (.int .i64 4) ∧ w = w':=by
 go_enter Tryz.func224,Tryz.ntmps224
 go_wp2_with (first | (go_at_call 228;refine (jnC _ h).mono ?_;rintro e w2 ⟨rfl,rfl⟩))
 go_ret
 exact ⟨rfl,rfl⟩
theorem jcL : Tryz.zeroCells279 = Array.replicate 65 (.int .u8 0):=by kernel_rfl
theorem jg8 (w : World) (j : Nat) (hj : j < 65) : (w.alloc (.cells Tryz.zeroCells279 279)).cell? ⟨w.heap.size,j,none⟩ = some (.int .u8 0):=by
 rw [ja1 (ja9 w _) j,jcL]
 simp [hj]
theorem conv1 (c : UInt8) (W : World) (b off cap : Nat) (h : W.cell? ⟨b,off,none⟩ = some (.int .u8 c.toNat)) : (convert 193 9 (.slice (some ⟨b,off,none⟩) 1 cap)).run Tryz.prog W = .ok (.string ⟨#[c]⟩) W :=
 run_convert_bytes_back W _ _ 5 ⟨b,off,none⟩ cap [c] Tryz.underlying193 Tryz.underlying5 Tryz.underlying9 fun j hj => by
  obtain rfl : j = 0:=by simpa using hj
  rw [Addr.add_lit]
  simpa using h
theorem conv2 (c d : UInt8) (W : World) (b off cap : Nat) (h : W.cell? ⟨b,off,none⟩ = some (.int .u8 c.toNat)) (h2 : W.cell? ⟨b,off + 1,none⟩ = some (.int .u8 d.toNat)) : (convert 193 9 (.slice (some ⟨b,off,none⟩) 2 cap)).run Tryz.prog W = .ok (.string ⟨#[c,d]⟩) W :=
 run_convert_bytes_back W _ _ 5 ⟨b,off,none⟩ cap [c,d] Tryz.underlying193 Tryz.underlying5 Tryz.underlying9 fun j hj => by
  rw [Addr.add_lit]
  match j,hj with
  | 0,_ => simpa using h
  | 1,_ => simpa using h2
def jht : List (Int × UInt8) := [(0,48),(1,49),(2,50),(3,51),(4,52),(5,53),(6,54),(7,55),(8,56),(9,57),(10,97),(11,98),(12,99),(13,100),(14,101),(15,102)]
def jhs : List (Int × UInt8 × UInt8) := [(16,49,48),(17,49,49),(18,49,50),(19,49,51),(20,49,52),(21,49,53),(22,49,54),(23,49,55),(24,49,56),(25,49,57),(26,49,97),(27,49,98),(28,49,99),(29,49,100),(30,49,101),(31,49,102),(127,55,102)]
set_option maxRecDepth 100000
set_option maxHeartbeats 8000000
theorem jmn (u : Int) (c : UInt8) (q : (u,c) ∈ jht) (w : World) (hb : Bru w) : Calls Tryz.prog 210 #[.slice none 0 0, .int .u64 u, .int .i64 16, .bool false, .bool false] w fun e w' => e = .returned (.tuple #[.slice none 0 0, .string ⟨#[c]⟩]) ∧ Up w w':=by
 have HB:=Lib.hid hb
 clear hb
 have z0:=jg8 w 64 (by omega)
 have z1:=jg8 w 63 (by omega)
 have hc:=Lib.hid (fun W => conv1 c W w.heap.size 64 1)
 simp only [jht,List.mem_cons,Prod.mk.injEq,List.not_mem_nil,or_false] at q
 rcases q with ⟨rfl,rfl⟩ | ⟨rfl,rfl⟩ | ⟨rfl,rfl⟩ | ⟨rfl,rfl⟩ | ⟨rfl,rfl⟩ | ⟨rfl,rfl⟩ | ⟨rfl,rfl⟩ | ⟨rfl,rfl⟩ | ⟨rfl,rfl⟩ | ⟨rfl,rfl⟩ | ⟨rfl,rfl⟩ | ⟨rfl,rfl⟩ | ⟨rfl,rfl⟩ | ⟨rfl,rfl⟩ | ⟨rfl,rfl⟩ | ⟨rfl,rfl⟩
 all_goals (go_enter Tryz.func210,Tryz.ntmps210
            go_wp2_with (first | (go_at_call 223;refine (jkV _).mono ?_;rintro e w2 ⟨rfl,rfl⟩) | (go_at_call 224;refine (tz_16 _ (HB.out.up uq)).mono ?_;rintro e w2 ⟨rfl,rfl⟩))
            refine wp_loop_rounds 2 ?_
            rw [rounds_succ]
            go_wp2_with (fail)
            rw [hc.out _ (by rw [ja1 (ja9 w _) 64,jcL];rfl)]
            go_wp2_with (fail)
            exact bodyPost_ret (v := .tuple #[.slice none 0 0, .string _]) (by simp [results,Tryz.results210,go_sem]) rfl ⟨rfl,uq⟩)
theorem jmk (u : Int) (c : UInt8) (q : (u,c) ∈ jht) (w : World) (hb : Bru w) : Calls Tryz.prog 197 #[.int .i64 u, .int .i64 16] w fun e w' => e = .returned (.string ⟨#[c]⟩) ∧ Up w w':=by
 have HB:=Lib.hid hb
 have HQ:=Lib.hid q
 clear hb
 simp only [jht,List.mem_cons,Prod.mk.injEq,List.not_mem_nil,or_false] at q
 rcases q with ⟨rfl,rfl⟩ | ⟨rfl,rfl⟩ | ⟨rfl,rfl⟩ | ⟨rfl,rfl⟩ | ⟨rfl,rfl⟩ | ⟨rfl,rfl⟩ | ⟨rfl,rfl⟩ | ⟨rfl,rfl⟩ | ⟨rfl,rfl⟩ | ⟨rfl,rfl⟩ | ⟨rfl,rfl⟩ | ⟨rfl,rfl⟩ | ⟨rfl,rfl⟩ | ⟨rfl,rfl⟩ | ⟨rfl,rfl⟩ | ⟨rfl,rfl⟩
 all_goals (go_enter Tryz.func197,Tryz.ntmps197
            go_wp2_with (first | (go_at_call 210;refine (jmn _ _ HQ.out _ HB.out).mono ?_;rintro e w2 ⟨rfl,hu2⟩))
            go_ret
            exact ⟨rfl,uq⟩)
theorem jb4 (u : Int) (c : UInt8) (q : (u,c) ∈ jht) (w : World) (hb : Bru w) : Calls Tryz.prog 182 #[.int .i64 u, .int .i64 16] w fun e w' => e = .returned (.string ⟨#[c]⟩) ∧ Up w w':=by
 have HB:=Lib.hid hb
 have HQ:=Lib.hid q
 clear hb
 simp only [jht,List.mem_cons,Prod.mk.injEq,List.not_mem_nil,or_false] at q
 rcases q with ⟨rfl,rfl⟩ | ⟨rfl,rfl⟩ | ⟨rfl,rfl⟩ | ⟨rfl,rfl⟩ | ⟨rfl,rfl⟩ | ⟨rfl,rfl⟩ | ⟨rfl,rfl⟩ | ⟨rfl,rfl⟩ | ⟨rfl,rfl⟩ | ⟨rfl,rfl⟩ | ⟨rfl,rfl⟩ | ⟨rfl,rfl⟩ | ⟨rfl,rfl⟩ | ⟨rfl,rfl⟩ | ⟨rfl,rfl⟩ | ⟨rfl,rfl⟩
 all_goals (go_enter Tryz.func182,Tryz.ntmps182
            go_wp2_with (first | (go_at_call 197;refine (jmk _ _ HQ.out _ HB.out).mono ?_;rintro e w2 ⟨rfl,hu2⟩))
            go_ret
            exact ⟨rfl,uq⟩)
theorem jmm (u : Int) (c d : UInt8) (q : (u,c,d) ∈ jhs) (w : World) (hb : Bru w) : Calls Tryz.prog 210 #[.slice none 0 0, .int .u64 u, .int .i64 16, .bool false, .bool false] w fun e w' => e = .returned (.tuple #[.slice none 0 0, .string ⟨#[c,d]⟩]) ∧ Up w w':=by
 have HB:=Lib.hid hb
 clear hb
 have z0:=jg8 w 64 (by omega)
 have z1:=jg8 w 63 (by omega)
 have hc:=Lib.hid (fun W => conv2 c d W w.heap.size 63 2)
 simp only [jhs,List.mem_cons,Prod.mk.injEq,List.not_mem_nil,or_false] at q
 rcases q with ⟨rfl,rfl,rfl⟩ | ⟨rfl,rfl,rfl⟩ | ⟨rfl,rfl,rfl⟩ | ⟨rfl,rfl,rfl⟩ | ⟨rfl,rfl,rfl⟩ | ⟨rfl,rfl,rfl⟩ | ⟨rfl,rfl,rfl⟩ | ⟨rfl,rfl,rfl⟩ | ⟨rfl,rfl,rfl⟩ | ⟨rfl,rfl,rfl⟩ | ⟨rfl,rfl,rfl⟩ | ⟨rfl,rfl,rfl⟩ | ⟨rfl,rfl,rfl⟩ | ⟨rfl,rfl,rfl⟩ | ⟨rfl,rfl,rfl⟩ | ⟨rfl,rfl,rfl⟩ | ⟨rfl,rfl,rfl⟩
 all_goals (go_enter Tryz.func210,Tryz.ntmps210
            go_wp2_with (first | (go_at_call 223;refine (jkV _).mono ?_;rintro e w2 ⟨rfl,rfl⟩) | (go_at_call 224;refine (tz_16 _ (HB.out.up uq)).mono ?_;rintro e w2 ⟨rfl,rfl⟩))
            refine wp_loop_rounds 3 ?_
            rw [rounds_succ]
            go_wp2_with (fail)
            rw [rounds_succ]
            go_wp2_with (fail)
            rw [hc.out _ (by rw [ja1 (ja9 w _) 63,jcL];rfl) (by rw [ja1 (ja9 w _) 64,jcL];rfl)]
            go_wp2_with (fail)
            exact bodyPost_ret (v := .tuple #[.slice none 0 0, .string _]) (by simp [results,Tryz.results210,go_sem]) rfl ⟨rfl,uq⟩)
theorem jmj (u : Int) (c d : UInt8) (q : (u,c,d) ∈ jhs) (w : World) (hb : Bru w) : Calls Tryz.prog 197 #[.int .i64 u, .int .i64 16] w fun e w' => e = .returned (.string ⟨#[c,d]⟩) ∧ Up w w':=by
 have HB:=Lib.hid hb
 have HQ:=Lib.hid q
 clear hb
 simp only [jhs,List.mem_cons,Prod.mk.injEq,List.not_mem_nil,or_false] at q
 rcases q with ⟨rfl,rfl,rfl⟩ | ⟨rfl,rfl,rfl⟩ | ⟨rfl,rfl,rfl⟩ | ⟨rfl,rfl,rfl⟩ | ⟨rfl,rfl,rfl⟩ | ⟨rfl,rfl,rfl⟩ | ⟨rfl,rfl,rfl⟩ | ⟨rfl,rfl,rfl⟩ | ⟨rfl,rfl,rfl⟩ | ⟨rfl,rfl,rfl⟩ | ⟨rfl,rfl,rfl⟩ | ⟨rfl,rfl,rfl⟩ | ⟨rfl,rfl,rfl⟩ | ⟨rfl,rfl,rfl⟩ | ⟨rfl,rfl,rfl⟩ | ⟨rfl,rfl,rfl⟩ | ⟨rfl,rfl,rfl⟩
 all_goals (go_enter Tryz.func197,Tryz.ntmps197
            go_wp2_with (first | (go_at_call 210;refine (jmm _ _ _ HQ.out _ HB.out).mono ?_;rintro e w2 ⟨rfl,hu2⟩))
            go_ret
            exact ⟨rfl,uq⟩)
theorem jaW (u : Int) (c d : UInt8) (q : (u,c,d) ∈ jhs) (w : World) (hb : Bru w) : Calls Tryz.prog 182 #[.int .i64 u, .int .i64 16] w fun e w' => e = .returned (.string ⟨#[c,d]⟩) ∧ Up w w':=by
 have HB:=Lib.hid hb
 have HQ:=Lib.hid q
 clear hb
 simp only [jhs,List.mem_cons,Prod.mk.injEq,List.not_mem_nil,or_false] at q
 rcases q with ⟨rfl,rfl,rfl⟩ | ⟨rfl,rfl,rfl⟩ | ⟨rfl,rfl,rfl⟩ | ⟨rfl,rfl,rfl⟩ | ⟨rfl,rfl,rfl⟩ | ⟨rfl,rfl,rfl⟩ | ⟨rfl,rfl,rfl⟩ | ⟨rfl,rfl,rfl⟩ | ⟨rfl,rfl,rfl⟩ | ⟨rfl,rfl,rfl⟩ | ⟨rfl,rfl,rfl⟩ | ⟨rfl,rfl,rfl⟩ | ⟨rfl,rfl,rfl⟩ | ⟨rfl,rfl,rfl⟩ | ⟨rfl,rfl,rfl⟩ | ⟨rfl,rfl,rfl⟩ | ⟨rfl,rfl,rfl⟩
 all_goals (go_enter Tryz.func182,Tryz.ntmps182
            go_wp2_with (first | (go_at_call 197;refine (jmj _ _ _ HQ.out _ HB.out).mono ?_;rintro e w2 ⟨rfl,hu2⟩))
            go_ret
            exact ⟨rfl,uq⟩)
theorem jhc (u : Nat) (hu : u < 32 ∨ u = 127) (w : World) (hb : Bru w) : Calls Tryz.prog 182 #[.int .i64 u, .int .i64 16] w fun e w' => e = .returned (.string (hexS u)) ∧ Up w w':=by
 rcases hu with hu | rfl
 ·match u,hu with
  | 0,_ => exact jb4 0 48 (by decide) w hb
  | 1,_ => exact jb4 1 49 (by decide) w hb
  | 2,_ => exact jb4 2 50 (by decide) w hb
  | 3,_ => exact jb4 3 51 (by decide) w hb
  | 4,_ => exact jb4 4 52 (by decide) w hb
  | 5,_ => exact jb4 5 53 (by decide) w hb
  | 6,_ => exact jb4 6 54 (by decide) w hb
  | 7,_ => exact jb4 7 55 (by decide) w hb
  | 8,_ => exact jb4 8 56 (by decide) w hb
  | 9,_ => exact jb4 9 57 (by decide) w hb
  | 10,_ => exact jb4 10 97 (by decide) w hb
  | 11,_ => exact jb4 11 98 (by decide) w hb
  | 12,_ => exact jb4 12 99 (by decide) w hb
  | 13,_ => exact jb4 13 100 (by decide) w hb
  | 14,_ => exact jb4 14 101 (by decide) w hb
  | 15,_ => exact jb4 15 102 (by decide) w hb
  | 16,_ => exact jaW 16 49 48 (by decide) w hb
  | 17,_ => exact jaW 17 49 49 (by decide) w hb
  | 18,_ => exact jaW 18 49 50 (by decide) w hb
  | 19,_ => exact jaW 19 49 51 (by decide) w hb
  | 20,_ => exact jaW 20 49 52 (by decide) w hb
  | 21,_ => exact jaW 21 49 53 (by decide) w hb
  | 22,_ => exact jaW 22 49 54 (by decide) w hb
  | 23,_ => exact jaW 23 49 55 (by decide) w hb
  | 24,_ => exact jaW 24 49 56 (by decide) w hb
  | 25,_ => exact jaW 25 49 57 (by decide) w hb
  | 26,_ => exact jaW 26 49 97 (by decide) w hb
  | 27,_ => exact jaW 27 49 98 (by decide) w hb
  | 28,_ => exact jaW 28 49 99 (by decide) w hb
  | 29,_ => exact jaW 29 49 100 (by decide) w hb
  | 30,_ => exact jaW 30 49 101 (by decide) w hb
  | 31,_ => exact jaW 31 49 102 (by decide) w hb
  | u + 32,h => exact absurd h (by omega)
 ·exact jaW 127 55 102 (by decide) w hb
end Go.Proofs.YtiaepldmgighbaaGreatDoor
