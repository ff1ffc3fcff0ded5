import Derived.Lib.LaidTab
import Derived.Lib.SmallJoins
import Derived.Test.YtbghpkoimbmijaaGreatDoorM08
/- YtbghpkoimbmijaaGreatDoorM09: lemmas of the proof, in order: TX, TL, TS, TP. -/
/- Walks: the text of a type: round, text; kinds without parts. -/
namespace Go.Proofs.YtbghpkoimbmijaaGreatDoor
open Go.RowKit
set_option linter.unusedSimpArgs false

/-- strconv's table, and a cell of math/bits's -/
def Tab (w : World) : Prop := Lib.TabIs Tryz.prog w "internal/strconv.uint64pow10" .u64 Lib.pow10Tab
def Bru (w : World) : Prop := w.cell? ⟨3, 15, none⟩ = some (.int .u8 4)
/-- what is no type and no row of types -/
def Plain (o : Obj) : Prop := ∀ (cs : Array Value) (f : Nat × Nat), o ≠ .cells cs TyT f ∧ o ≠ .cells cs TpT f
/-- the tables, whatever types are made and filled in -/
def Glob (w : World) : Prop := ∀ w' : World, (∀ (b : Nat) (o : Obj), w.heap[b]? = some o → Plain o → w'.heap[b]? = some o) → Tab w' ∧ Bru w'
theorem Glob.now {w : World} (h : Glob w) : Tab w ∧ Bru w := h w fun _ _ q _ => q
theorem Glob.step {w w' : World} (h : Glob w) (k : ∀ (b : Nat) (o : Obj), w.heap[b]? = some o → Plain o → w'.heap[b]? = some o) : Glob w' := fun w2 h2 => h w2 fun b o q p => h2 b o (k b o q p) p
theorem Glob.up {w w' : World} (h : Glob w) (k : Up w w') : Glob w' := h.step fun _ _ q _ => k.get q
theorem Glob.memo {B : Nat} {w w' : World} (h : Glob w) (k : Memo none1 B w w') : Glob w' := h.step fun b o q p => k.obj b o q (fun cs f e => (p cs f).1 e) (fun e => e)
theorem Glob.row {w : World} {g i : Nat} {cs : Array Value} {f : Nat × Nat} (h : Glob w) (hg : w.heap[g]? = some (.cells cs TpT f)) (v : Value) : Glob (w.setCell ⟨g, i, none⟩ v) := h.step fun b o q p => by
  rw [setCell_other (fun e => ?_)]
  · exact q
  · subst e
    rw [hg] at q
    injection q with q
    exact (p cs f).2 q.symm

/-- how many bytes a type's text takes, at most -/
def wideL (l : List Nat) : Nat := (l.map (· + 32)).sum
mutual
def Ty.wide : Ty → Nat
  | .mk _ _ nm ps ns _ => 128 + 6 * nm.size + wideL (ns.map (·.size)) + wideL (Ty.wides ps)
def Ty.wides : List Ty → List Nat
  | [] => []
  | p :: r => p.wide :: Ty.wides r
end
theorem Ty.wides_eq : ∀ ps : List Ty, Ty.wides ps = ps.map Ty.wide
  | [] => rfl
  | p :: r => by rw [Ty.wides, Ty.wides_eq r]; rfl
theorem Ty.wide_mk (k n : Int) (nm : ByteArray) (ps : List Ty) (ns : List ByteArray) (ms : List Bool) : (Ty.mk k n nm ps ns ms).wide = 128 + 6 * nm.size + wideL (ns.map (·.size)) + wideL (ps.map Ty.wide) := by rw [Ty.wide, Ty.wides_eq]

/-- as many parts, names and marks as a kind asks for -/
structure Shape (k : Int) (np nn nm : Nat) : Prop where
  lo : 1 ≤ k
  hi : k ≤ 23
  arr : k = 13 → 1 ≤ np
  obj : k = 14 → nn = np ∧ nm = np
  fn : k = 15 → 1 ≤ np ∧ nm + 1 = np
  case_ : k = 20 → 1 ≤ np
inductive Ty.Ok : Ty → Prop
  | mk {k n : Int} {nm : ByteArray} {ps : List Ty} {ns : List ByteArray} {ms : List Bool} (sh : Shape k ps.length ns.length ms.length) (lo : -9223372036854775808 ≤ n) (hi : n ≤ 9223372036854775807) (hp : ∀ p ∈ ps, Ty.Ok p) : Ty.Ok (.mk k n nm ps ns ms)

/-- the text of a type is told, wherever it lies -/
def TextAny (t : Ty) : Prop := ∀ (N : Nat → Prop) (B b : Nat) (W : World), TyAt N B W b t → Glob W → Calls Tryz.prog 34 #[.pointer (some ⟨b, 0, none⟩)] W fun e W' => e = .returned (.string t.text) ∧ Memo none1 B W W'
def SpellAny (t : Ty) : Prop := ∀ (N : Nat → Prop) (B b : Nat) (W : World), TyAt N B W b t → Glob W → Calls Tryz.prog 53 #[.pointer (some ⟨b, 0, none⟩)] W fun e W' => e = .returned (.string t.text) ∧ Memo none1 B W W'

set_option maxHeartbeats 1600000 in
theorem text_of_spelled {t : Ty} (h : SpellAny t) : TextAny t := by
  intro N B b W ht hg
  have HT := Lib.hid ht
  have HS := Lib.hid (h N B b W ht hg)
  cases ht with
  | @mk _ k n nm ps ns ms said pv nv mv qs hB hh hs hp hn hm hl hq =>
    have HH := Lib.hid hh
    have a7 := cell_of hh 7
    have al := lt_of_heap hh
    simp only [List.getElem?_toArray, List.getElem?_cons_zero, List.getElem?_cons_succ] at a7
    obtain ⟨tx, htx⟩ : ∃ tx, Hid ((Ty.mk k n nm ps ns ms).text = tx) := ⟨_, rfl⟩
    rw [htx.out] at HS hs ⊢
    have HE := Lib.hid hs
    by_cases he : said.toList = []
    · have he2 : (said.toList == []) = true := by simp [he]
      clear hh hs hp hn hm hl hq hg
      go_enter Tryz.func34, Tryz.ntmps34
      go_wp2_with fail
      refine HS.out.mono ?_
      rintro e w2 ⟨rfl, hm2⟩
      obtain ⟨cs', h1, h2⟩ := hm2.fld b _ _ HH.out
      have x7 : ∃ v7, cs'[7]? = some v7 := by
        have q := hm2.ty N b _ (fun _ _ e => e) HT.out
        cases q with
        | mk said' pv' nv' mv' qs' hB' hh' =>
          rw [h1] at hh'
          injection hh' with e
          injection e with e _ _
          exact ⟨_, by rw [e]; rfl⟩
      obtain ⟨v7, hv7⟩ := x7
      have a7 := (cell_of h1 7).trans hv7
      have f7 := ice_of h1 7
      have al := lt_of_heap h1
      have M2 := Lib.hid hm2
      have T2 := Lib.hid (hm2.ty N b _ (fun _ _ e => e) HT.out)
      clear h1 h2 hv7 hm2 he
      go_wp2_with fail
      go_ret
      refine ⟨rfl, M2.out.trans ?_⟩
      have q := Memo.said (S := none1) T2.out
      rw [htx.out] at q
      exact q
    · have he2 : (said.toList == []) = false := by simp [he]
      clear hh hs hp hn hm hl hq hg
      go_enter Tryz.func34, Tryz.ntmps34
      go_wp2_with fail
      go_ret
      refine ⟨?_, Memo.refl _ _ _⟩
      rcases HE.out with q | q
      · subst q
        exact absurd (by rw [ByteArray.toList_eq]) he
      · subst q
        rfl

end Go.Proofs.YtbghpkoimbmijaaGreatDoor

/- Plain law: how long a type's text is, at most. -/
namespace Go.Proofs.YtbghpkoimbmijaaGreatDoor
open Go.RowKit
set_option linter.unusedSimpArgs false

theorem decDigits_le : ∀ (k u : Nat), u < 10 ^ (k + 1) → (Lib.decDigits u).length ≤ k + 1
  | 0, u, h => by
    unfold Lib.decDigits
    split
    · simp
    · omega
  | k + 1, u, h => by
    unfold Lib.decDigits
    split
    · simp
    · have := decDigits_le k (u / 10) (by rw [Nat.pow_succ] at h; omega)
      simp
      omega
theorem numS_size (n : Int) (h0 : -9223372036854775808 ≤ n) (h1 : n ≤ 9223372036854775807) : (numS n).size ≤ 24 := by
  have e : (numS n).size = (Lib.itoa n).length := by simp [numS, ByteArray.size]
  rw [e]
  unfold Lib.itoa
  split
  · have := decDigits_le 19 n.natAbs (by omega)
    simp
    omega
  · have := decDigits_le 19 n.toNat (by omega)
    omega
theorem joinB_length (sep : ByteArray) (l : List ByteArray) : (joinB sep l).size ≤ (l.map fun x => x.size + sep.size).sum := by
  have e : (joinB sep l).size = (Lib.join (l.map (·.data.toList)) sep.data.toList).length := by simp [joinB, ByteArray.size]
  rw [e]
  have key : ∀ l : List ByteArray, (Lib.join (l.map (·.data.toList)) sep.data.toList).length ≤ (l.map fun x => x.size + sep.size).sum := by
    intro l
    induction l with
    | nil => exact Nat.zero_le _
    | cons x r ih =>
      have hx : x.data.toList.length = x.size := rfl
      have hs : sep.data.toList.length = sep.size := rfl
      cases r with
      | nil =>
        have e2 : Lib.join ([x].map (·.data.toList)) sep.data.toList = x.data.toList := by
          unfold Lib.join List.intercalate
          simp only [List.map_cons, List.map_nil, List.intersperse_singleton, List.flatten_cons, List.flatten_nil, List.append_nil]
        rw [e2]
        simp only [List.map_cons, List.sum_cons]
        omega
      | cons y r =>
        have e2 : Lib.join ((x :: y :: r).map (·.data.toList)) sep.data.toList = x.data.toList ++ (sep.data.toList ++ Lib.join ((y :: r).map (·.data.toList)) sep.data.toList) := by
          unfold Lib.join List.intercalate
          simp only [List.map_cons, List.intersperse_cons_cons, List.flatten_cons]
        rw [e2, List.length_append, List.length_append]
        simp only [List.map_cons, List.sum_cons] at ih ⊢
        omega
  exact key l
theorem wideL_cons (x : Nat) (l : List Nat) : wideL (x :: l) = x + 32 + wideL l := by simp [wideL]
theorem roundS_size (zs : List Int) (k : Int) (s : ByteArray) : (roundS zs k s).size ≤ s.size + 2 := by
  unfold roundS
  split
  · simp only [ByteArray.size_append]
    have a : (⟨#[40]⟩ : ByteArray).size = 1 := rfl
    have b : (⟨#[41]⟩ : ByteArray).size = 1 := rfl
    omega
  · omega
theorem markS_size (m : Bool) : (markS m).size ≤ 1 := by cases m <;> decide
theorem members_size : ∀ (ts : List (Int × ByteArray)) (ns : List ByteArray) (ms : List Bool), ((membersL ts ns ms).map fun x => x.size + 2).sum ≤ wideL (ns.map (·.size)) + wideL (ts.map (·.2.size))
  | [], ns, ms => by simp [membersL]
  | x :: r, [], ms => by simp [membersL]
  | x :: r, nm :: ns, [] => by simp [membersL]
  | x :: r, nm :: ns, m :: ms => by
    have ih := members_size r ns ms
    have h1 := markS_size m
    have a : (⟨#[58, 32]⟩ : ByteArray).size = 2 := rfl
    simp only [membersL, List.map_cons, List.sum_cons, wideL_cons, ByteArray.size_append]
    omega
theorem params_size : ∀ (ts : List (Int × ByteArray)) (ms : List Bool), ((paramsL ts ms).map fun x => x.size + 2).sum ≤ wideL (ts.map (·.2.size))
  | [], ms => by simp [paramsL]
  | x :: r, [] => by simp [paramsL]
  | x :: r, m :: ms => by
    have ih := params_size r ms
    have h1 := roundS_size [15, 16] x.1 x.2
    have a : (⟨#[63]⟩ : ByteArray).size = 1 := rfl
    simp only [paramsL, List.map_cons, List.sum_cons, wideL_cons]
    split
    · simp only [ByteArray.size_append]; omega
    · omega
theorem parts_size (ts : List (Int × ByteArray)) : (((ts.map fun x => partS x.1 x.2)).map fun x => x.size + 3).sum ≤ wideL (ts.map (·.2.size)) := by
  induction ts with
  | nil => simp
  | cons x r ih =>
    have h1 := roundS_size [15] x.1 x.2
    simp only [List.map_cons, List.sum_cons, wideL_cons, partS] at ih ⊢
    omega
theorem list_size (ts : List (Int × ByteArray)) : (((ts.map (·.2))).map fun x => x.size + 2).sum ≤ wideL (ts.map (·.2.size)) := by
  induction ts with
  | nil => simp
  | cons x r ih =>
    simp only [List.map_cons, List.sum_cons, wideL_cons] at ih ⊢
    omega
theorem head_size (ts : List (Int × ByteArray)) : (ts.headD (0, ⟨#[]⟩)).2.size ≤ wideL (ts.map (·.2.size)) := by
  cases ts with
  | nil => simp; decide
  | cons x r => simp only [List.headD_cons, List.map_cons, wideL_cons]; omega
theorem wideL_append (a b : List Nat) : wideL (a ++ b) = wideL a + wideL b := by simp [wideL]
theorem last_size (ts : List (Int × ByteArray)) : wideL (ts.dropLast.map (·.2.size)) + (ts.getLastD (0, ⟨#[]⟩)).2.size ≤ wideL (ts.map (·.2.size)) := by
  rcases List.eq_nil_or_concat ts with rfl | ⟨r, x, rfl⟩
  · simp; decide
  · rw [List.concat_eq_append, List.dropLast_concat, List.map_append, wideL_append]
    have e : (r ++ [x]).getLastD (0, ⟨#[]⟩) = x := by simp [List.getLastD_eq_getLast?]
    rw [e]
    simp only [List.map_cons, List.map_nil, wideL_cons]
    omega
theorem wordS_size (k : Int) : (wordS k).size ≤ 9 := by
  unfold wordS
  repeat' split
  all_goals decide

theorem quoteR_le (r : Nat) : (quoteR r).size ≤ 6 := by
  have h1 := encode_size_le (r : Int)
  have h2 : (hexS r).size ≤ 2 := by
    have key : ∀ u, u < 32 → (hexS u).size ≤ 2 := by decide
    by_cases h : r < 32
    · exact key r h
    · by_cases h2 : r = 127
      · subst h2; decide
      · unfold hexS
        iterate 32 rw [if_neg (by omega)]
        rw [if_neg h2]
        decide
  have a1 : (⟨#[92]⟩ : ByteArray).size = 1 := rfl
  have a2 : (⟨#[92, 117, 123]⟩ : ByteArray).size = 3 := rfl
  have a3 : (⟨#[125]⟩ : ByteArray).size = 1 := rfl
  have a4 : (⟨#[92, 110]⟩ : ByteArray).size = 2 := rfl
  have a5 : (⟨#[92, 114]⟩ : ByteArray).size = 2 := rfl
  have a6 : (⟨#[92, 116]⟩ : ByteArray).size = 2 := rfl
  unfold quoteR
  generalize hexS r = hx at h2 ⊢
  repeat' split
  all_goals first | (rw [ByteArray.size_append, ByteArray.size_append]; omega) | (rw [ByteArray.size_append]; omega) | omega
theorem quoteL_le : ∀ (l : List (Nat × Nat)) (acc : ByteArray), (quoteL acc l).size ≤ acc.size + 6 * l.length
  | [], acc => by simp [quoteL]
  | x :: r, acc => by
    have ih := quoteL_le r (acc ++ quoteR x.2)
    have h := quoteR_le x.2
    have e : quoteL acc (x :: r) = quoteL (acc ++ quoteR x.2) r := rfl
    rw [e]
    rw [ByteArray.size_append] at ih
    simp only [List.length_cons]
    omega
theorem runesS_len : ∀ (f a : Nat) (l : List UInt8), (runesS f a l).length ≤ f
  | 0, _, _ => by simp [runesS]
  | f + 1, a, [] => by simp [runesS]
  | f + 1, a, x :: r => by
    have := runesS_len f (a + (decS (x :: r)).2) ((x :: r).drop (decS (x :: r)).2)
    simp only [runesS, List.length_cons]
    omega
theorem quoteS_size (s : ByteArray) : (quoteS s).size ≤ 6 * s.size + 2 := by
  unfold quoteS
  rw [ByteArray.size_append]
  have h1 := quoteL_le (runesOf s.data.toList) ⟨#[34]⟩
  have h2 := runesS_len s.data.toList.length 0 s.data.toList
  have a : (⟨#[34]⟩ : ByteArray).size = 1 := rfl
  have e : s.data.toList.length = s.size := rfl
  have h3 : (runesOf s.data.toList).length ≤ s.data.toList.length := h2
  omega

set_option maxHeartbeats 1600000 in
theorem textK_size (k n : Int) (nm : ByteArray) (ts : List (Int × ByteArray)) (ns : List ByteArray) (ms : List Bool) (h0 : -9223372036854775808 ≤ n) (h1 : n ≤ 9223372036854775807) : (textK k n nm ts ns ms).size ≤ 128 + 6 * nm.size + wideL (ns.map (·.size)) + wideL (ts.map (·.2.size)) := by
  have hn := numS_size n h0 h1
  have hq := quoteS_size nm
  have b1 : (⟨#[91, 93]⟩ : ByteArray).size = 2 := rfl
  have b2 : (⟨#[123]⟩ : ByteArray).size = 1 := rfl
  have b3 : (⟨#[125]⟩ : ByteArray).size = 1 := rfl
  have b4 : (⟨#[40]⟩ : ByteArray).size = 1 := rfl
  have b5 : (⟨#[41, 32, 61, 62, 32]⟩ : ByteArray).size = 5 := rfl
  have b6 : (⟨#[60]⟩ : ByteArray).size = 1 := rfl
  have b7 : (⟨#[62]⟩ : ByteArray).size = 1 := rfl
  have b8 : (⟨#[39]⟩ : ByteArray).size = 1 := rfl
  have b9 : (⟨#[64]⟩ : ByteArray).size = 1 := rfl
  have c1 : (⟨#[46]⟩ : ByteArray).size = 1 := rfl
  have c2 : (⟨#[99, 108, 97, 115, 115, 32]⟩ : ByteArray).size = 6 := rfl
  have c3 : (⟨#[101, 110, 117, 109, 32]⟩ : ByteArray).size = 5 := rfl
  have c4 : (⟨#[110, 97, 109, 101, 115, 112, 97, 99, 101, 32]⟩ : ByteArray).size = 10 := rfl
  have c5 : (⟨#[35]⟩ : ByteArray).size = 1 := rfl
  have hh : (hashS nm n).size ≤ nm.size + 25 := by unfold hashS; simp only [ByteArray.size_append]; omega
  unfold textK
  by_cases e11 : k = 11
  · rw [if_pos e11]
    omega
  rw [if_neg e11]
  by_cases e12 : k = 12
  · rw [if_pos e12]
    omega
  rw [if_neg e12]
  by_cases e13 : k = 13
  · rw [if_pos e13]
    have r1 := roundS_size [15, 16] (ts.headD (0, ⟨#[]⟩)).1 (ts.headD (0, ⟨#[]⟩)).2
    have r2 := head_size ts
    rw [ByteArray.size_append]
    omega
  rw [if_neg e13]
  by_cases e14 : k = 14
  · rw [if_pos e14]
    have r1 := joinB_length ⟨#[59, 32]⟩ (membersL ts ns ms)
    have r2 := members_size ts ns ms
    have e : (⟨#[59, 32]⟩ : ByteArray).size = 2 := rfl
    rw [e] at r1
    simp only [ByteArray.size_append]
    omega
  rw [if_neg e14]
  by_cases e15 : k = 15
  · rw [if_pos e15]
    have r1 := joinB_length ⟨#[44, 32]⟩ (paramsL ts.dropLast ms)
    have r2 := params_size ts.dropLast ms
    have r3 := last_size ts
    have e : (⟨#[44, 32]⟩ : ByteArray).size = 2 := rfl
    rw [e] at r1
    simp only [ByteArray.size_append]
    omega
  rw [if_neg e15]
  by_cases e16 : k = 16
  · rw [if_pos e16]
    have r1 := joinB_length ⟨#[32, 124, 32]⟩ (ts.map fun x => partS x.1 x.2)
    have r2 := parts_size ts
    have e : (⟨#[32, 124, 32]⟩ : ByteArray).size = 3 := rfl
    rw [e] at r1
    omega
  rw [if_neg e16]
  by_cases e17 : k = 17
  · rw [if_pos e17]
    split
    · omega
    · have r1 := joinB_length ⟨#[44, 32]⟩ (ts.map (·.2))
      have r2 := list_size ts
      have e : (⟨#[44, 32]⟩ : ByteArray).size = 2 := rfl
      rw [e] at r1
      simp only [ByteArray.size_append]
      omega
  rw [if_neg e17]
  by_cases e18 : k = 18
  · rw [if_pos e18]
    simp only [ByteArray.size_append]; omega
  rw [if_neg e18]
  by_cases e19 : k = 19
  · rw [if_pos e19]
    simp only [ByteArray.size_append]; omega
  rw [if_neg e19]
  by_cases e20 : k = 20
  · rw [if_pos e20]
    have r2 := head_size ts
    simp only [ByteArray.size_append]
    omega
  rw [if_neg e20]
  by_cases e21 : k = 21
  · rw [if_pos e21]
    simp only [ByteArray.size_append]; omega
  rw [if_neg e21]
  by_cases e22 : k = 22
  · rw [if_pos e22]
    simp only [ByteArray.size_append]; omega
  rw [if_neg e22]
  by_cases e23 : k = 23
  · rw [if_pos e23]
    simp only [ByteArray.size_append]; omega
  rw [if_neg e23]
  have := wordS_size k
  omega

theorem wideL_mono : ∀ (l : List Ty), (∀ p ∈ l, p.text.size ≤ p.wide) → wideL (l.map fun p => p.text.size) ≤ wideL (l.map Ty.wide)
  | [], _ => by simp [wideL]
  | p :: r, h => by
    have h1 := h p (by simp)
    have h2 := wideL_mono r fun q hq => h q (by simp [hq])
    simp only [List.map_cons, wideL_cons]
    omega
theorem text_wide {t : Ty} (h : t.Ok) : t.text.size ≤ t.wide := by
  induction h with
  | @mk k n nm ps ns ms sh lo hi hp ih =>
    rw [Ty.text_mk, Ty.wide_mk]
    have h1 := textK_size k n nm (ps.map fun p => (p.kind, p.text)) ns ms lo hi
    have h2 := wideL_mono ps ih
    rw [List.map_map] at h1
    have e : ((fun x : Int × ByteArray => x.2.size) ∘ fun p : Ty => (p.kind, p.text)) = fun p => p.text.size := rfl
    rw [e] at h1
    omega
theorem wideL_mem {x : Nat} : ∀ {l : List Nat}, x ∈ l → x + 32 ≤ wideL l
  | y :: r, h => by
    rw [wideL_cons]
    rcases List.mem_cons.1 h with rfl | h
    · omega
    · have := wideL_mem h
      omega
theorem part_wide {k n : Int} {nm : ByteArray} {ps : List Ty} {ns : List ByteArray} {ms : List Bool} {p : Ty} (h : p ∈ ps) : p.wide < (Ty.mk k n nm ps ns ms).wide := by
  rw [Ty.wide_mk]
  have := wideL_mem (List.mem_map_of_mem (f := Ty.wide) h)
  omega

end Go.Proofs.YtbghpkoimbmijaaGreatDoor

/- Walks: the text of a type: kinds without parts. -/
namespace Go.Proofs.YtbghpkoimbmijaaGreatDoor
open Go.RowKit
set_option linter.unusedSimpArgs false

theorem tabNamed : (Tryz.prog.globalNamed "internal/strconv.uint64pow10").isSome = true := by kernel_rfl
theorem Tab.up {w w' : World} (h : Tab w) (hu : Up w w') : Tab w' := by
  obtain ⟨g, hg⟩ := Option.isSome_iff_exists.1 tabNamed
  exact Joins.tab_stays hg h hu (Nat.le_refl _)
theorem Up.grow (w : World) (k : Nat) (os : Array Obj) : Up w (Go.Sort.grow (w.drewN k) os) :=
  ⟨rfl, rfl, rfl, by simp [Go.Sort.grow, World.drewN], fun b hb => by
    show (w.heap ++ os)[b]? = _
    rw [Array.getElem?_append_left hb]⟩
theorem itoa_any (n : Int) (w : World) (h0 : -9223372036854775808 ≤ n) (h1 : n ≤ 9223372036854775807) (ht : Tab w) : Calls Tryz.prog 71 #[.int .i64 n] w fun e w' => e = .returned (.string (numS n)) ∧ Up w w' :=
  (Tryz.strconv_Itoa n h0 h1 w ht).mono fun _ w' ⟨he, k, os, hw⟩ => ⟨he, by subst hw; exact Up.grow w k os⟩

/-- a world in which just texts of types were filled in -/
structure MemoOf (B : Nat) (w : World) where
  W : World
  memo : Memo none1 B w W
instance (B : Nat) (w : World) : Nonempty (MemoOf B w) := ⟨⟨w, Memo.refl _ _ _⟩⟩
theorem wp_region_memo {P : Program} {id : Nat} {Q : Exit → Act → World → Prop} {a : Act} {w : World} {l : List Oper} (B : Nat) (hm : P.follows .mixedOrders = true) (hB : Region.lexB .any l.toArray = true)
    (h : wpQuiet P l.toArray (fun w' => ∃ i : MemoOf B w, w' = i.W) (fun a' => ∀ w', (∃ i : MemoOf B w, w' = i.W) → Q .normal a' w') l a) : (Code.region id l.toArray true).wp P Q a w :=
  wp_region_quiet (C := fun w' => ∃ i : MemoOf B w, w' = i.W) hm hB ⟨⟨_, Memo.of_up _ _ (Up.refl w).drew⟩, rfl⟩ (by simpa using h)
theorem Calls.memo_of {P : Program} {f : FuncId} {args : Array Value} {B : Nat} {w : World} (i : MemoOf B w) {v : Value} (h : Calls P f args i.W fun e w' => e = .returned v ∧ Memo none1 B i.W w') : Calls P f args i.W fun e w'' => e = .returned v ∧ ∃ j : MemoOf B w, w'' = j.W :=
  h.mono fun _ w' ⟨he, hu⟩ => ⟨he, ⟨w', i.memo.trans hu⟩, rfl⟩

/-- what text.Quote says (proved elsewhere) -/
def QuoteAny : Prop := ∀ (s : ByteArray) (w : World), s.size ≤ 1000000000 → Bru w → Calls Tryz.prog 72 #[.string s] w fun e w' => e = .returned (.string (quoteS s)) ∧ Up w w'

set_option maxRecDepth 100000 in
set_option maxHeartbeats 1600000 in
theorem numbered_any (b : Nat) (n : Int) (nm : ByteArray) (w : World) (a1 : w.cell? ⟨b, 1, none⟩ = some (.int .i64 n)) (a2 : w.cell? ⟨b, 2, none⟩ = some (.string nm)) (h0 : -9223372036854775808 ≤ n) (h1 : n ≤ 9223372036854775807) (hs : nm.size ≤ 1000000000) (ht : Tab w) :
    Calls Tryz.prog 75 #[.pointer (some ⟨b, 0, none⟩)] w fun e w' => e = .returned (.string (hashS nm n)) ∧ Up w w' := by
  have hl := cell_lt3 a1
  have hz := numS_size n h0 h1
  have hsi : (nm.size : Int) ≤ 1000000000 := by omega
  have T := Lib.hid ht
  have hq : Hid (-9223372036854775808 ≤ n ∧ n ≤ 9223372036854775807) := ⟨h0, h1⟩
  obtain ⟨x, hx⟩ : ∃ x, Hid (numS n = x) := ⟨_, rfl⟩
  have hxs : (x.size : Int) ≤ 24 := by rw [← hx.out]; omega
  unfold hashS
  rw [hx.out]
  clear ht h0 h1 hz
  go_enter Tryz.func75, Tryz.ntmps75
  go_wp2_with fail
  have r1 : ∀ i : UpOf w, i.W.cell? ⟨b, 1, none⟩ = some (.int .i64 n) := fun i => (i.up.cells _ _ hl).trans a1
  have r2 : ∀ i : UpOf w, i.W.cell? ⟨b, 2, none⟩ = some (.string nm) := fun i => (i.up.cells _ _ hl).trans a2
  have hc : ∀ i : UpOf w, Calls Tryz.prog 71 #[.int .i64 n] i.W fun e w' => e = .returned (.string x) ∧ Up i.W w' := fun i => by
    rw [← hx.out]
    exact itoa_any n i.W hq.out.1 hq.out.2 (T.out.up i.up)
  have HCC := Lib.hid hc
  clear hc
  refine wp_region_up (by kernel_rfl) (by kernel_rfl) ?_
  repeat (go_big_quiet_step ((go_at_call 71; rename_i i; exact Calls.up_of i (HCC.out i))))
  refine wpQuiet_nil ?_
  intro _ hw'
  obtain ⟨⟨w2, hu2⟩, hw''⟩ := hw'
  subst hw''
  clear r1 r2
  go_wp2_with fail
  go_ret
  exact ⟨rfl, hu2⟩

set_option maxRecDepth 100000 in
set_option maxHeartbeats 1600000 in
theorem spelled_11 (n : Int) (nm : ByteArray) (ps : List Ty) (ns : List ByteArray) (ms : List Bool) (h0 : -9223372036854775808 ≤ n) (h1 : n ≤ 9223372036854775807) : SpellAny (.mk 11 n nm ps ns ms) := by
  intro N B b W ht hg
  have e : (Ty.mk 11 n nm ps ns ms).text = numS n := by rw [Ty.text_mk]; simp [textK]
  rw [e]
  have T := Lib.hid hg.now.1
  have hq : Hid (-9223372036854775808 ≤ n ∧ n ≤ 9223372036854775807) := ⟨h0, h1⟩
  cases ht with
  | @mk _ _ _ _ _ _ _ said pv nv mv qs hB hh hs hp hn hm hl hq' =>
    have a0 := cell_of hh 0
    have a1 := cell_of hh 1
    have al := lt_of_heap hh
    simp only [List.getElem?_toArray, List.getElem?_cons_zero, List.getElem?_cons_succ] at a0 a1
    obtain ⟨x, hx⟩ : ∃ x, Hid (numS n = x) := ⟨_, rfl⟩
    rw [hx.out]
    clear hh hs hp hn hm hl hq' hg e h0 h1
    go_enter Tryz.func53, Tryz.ntmps53
    go_wp2_with (first | (go_at_call 71; refine (itoa_any n _ hq.out.1 hq.out.2 (T.out.up uq)).mono ?_; rintro e w2 ⟨rfl, hu2⟩; rw [hx.out]))
    go_ret
    exact ⟨rfl, Memo.of_up _ _ uq⟩

set_option maxRecDepth 100000 in
set_option maxHeartbeats 1600000 in
theorem spelled_12 (hQ : QuoteAny) (n : Int) (nm : ByteArray) (ps : List Ty) (ns : List ByteArray) (ms : List Bool) (hs0 : nm.size ≤ 1000000000) : SpellAny (.mk 12 n nm ps ns ms) := by
  intro N B b W ht hg
  have e : (Ty.mk 12 n nm ps ns ms).text = quoteS nm := by rw [Ty.text_mk]; simp [textK]
  rw [e]
  have T := Lib.hid hg
  have Q := Lib.hid (And.intro hQ hs0)
  cases ht with
  | @mk _ _ _ _ _ _ _ said pv nv mv qs hB hh hs hp hn hm hl hq' =>
    have a0 := cell_of hh 0
    have a2 := cell_of hh 2
    have al := lt_of_heap hh
    simp only [List.getElem?_toArray, List.getElem?_cons_zero, List.getElem?_cons_succ] at a0 a2
    obtain ⟨x, hx⟩ : ∃ x, Hid (quoteS nm = x) := ⟨_, rfl⟩
    rw [hx.out]
    clear hh hs hp hn hm hl hq' hg e hQ hs0
    go_enter Tryz.func53, Tryz.ntmps53
    go_wp2_with (first | (go_at_call 72; refine (Q.out.1 nm _ Q.out.2 (T.out.up uq).now.2).mono ?_; rintro e w2 ⟨rfl, hu2⟩; rw [hx.out]))
    go_ret
    exact ⟨rfl, Memo.of_up _ _ uq⟩

set_option maxRecDepth 100000 in
set_option maxHeartbeats 1600000 in
theorem spelled_18 (n : Int) (nm : ByteArray) (ps : List Ty) (ns : List ByteArray) (ms : List Bool) (h0 : -9223372036854775808 ≤ n) (h1 : n ≤ 9223372036854775807) (hs0 : nm.size ≤ 1000000000) : SpellAny (.mk 18 n nm ps ns ms) := by
  intro N B b W ht hg
  have e : (Ty.mk 18 n nm ps ns ms).text = nm ++ ⟨#[39]⟩ ++ numS n := by rw [Ty.text_mk]; simp [textK]
  rw [e]
  have T := Lib.hid hg.now.1
  have hz := numS_size n h0 h1
  have hsi : (nm.size : Int) ≤ 1000000000 := by omega
  have hq : Hid (-9223372036854775808 ≤ n ∧ n ≤ 9223372036854775807) := ⟨h0, h1⟩
  cases ht with
  | @mk _ _ _ _ _ _ _ said pv nv mv qs hB hh hs hp hn hm hl hq' =>
    have a0 := cell_of hh 0
    have a1 := cell_of hh 1
    have a2 := cell_of hh 2
    have al := lt_of_heap hh
    simp only [List.getElem?_toArray, List.getElem?_cons_zero, List.getElem?_cons_succ] at a0 a1 a2
    obtain ⟨x, hx⟩ : ∃ x, Hid (numS n = x) := ⟨_, rfl⟩
    have hxs : (x.size : Int) ≤ 24 := by rw [← hx.out]; omega
    rw [hx.out]
    clear hh hs hp hn hm hl hq' hg e h0 h1 hs0 hz
    go_enter Tryz.func53, Tryz.ntmps53
    go_wp2_with fail
    have r1 : ∀ i : UpOf W, i.W.cell? ⟨b, 1, none⟩ = some (.int .i64 n) := fun i => (i.up.cells _ _ al).trans a1
    have r2 : ∀ i : UpOf W, i.W.cell? ⟨b, 2, none⟩ = some (.string nm) := fun i => (i.up.cells _ _ al).trans a2
    have hc : ∀ i : UpOf W, Calls Tryz.prog 71 #[.int .i64 n] i.W fun e w' => e = .returned (.string x) ∧ Up i.W w' := fun i => by
      rw [← hx.out]
      exact itoa_any n i.W hq.out.1 hq.out.2 (T.out.up i.up)
    have HCC := Lib.hid hc
    clear hc
    refine wp_region_up (by kernel_rfl) (by kernel_rfl) ?_
    repeat (go_big_quiet_step ((go_at_call 71; rename_i i; exact Calls.up_of i (HCC.out i))))
    refine wpQuiet_nil ?_
    intro _ hw'
    obtain ⟨⟨w2, hu2⟩, hw''⟩ := hw'
    subst hw''
    clear r1 r2
    go_wp2_with fail
    go_ret
    exact ⟨rfl, Memo.of_up _ _ hu2⟩

set_option maxRecDepth 100000 in
set_option maxHeartbeats 1600000 in
theorem spelled_19 (n : Int) (nm : ByteArray) (ps : List Ty) (ns : List ByteArray) (ms : List Bool) (h0 : -9223372036854775808 ≤ n) (h1 : n ≤ 9223372036854775807) (hs0 : nm.size ≤ 1000000000) : SpellAny (.mk 19 n nm ps ns ms) := by
  intro N B b W ht hg
  have e : (Ty.mk 19 n nm ps ns ms).text = nm ++ ⟨#[64]⟩ ++ numS n := by rw [Ty.text_mk]; simp [textK]
  rw [e]
  have T := Lib.hid hg.now.1
  have hz := numS_size n h0 h1
  have hsi : (nm.size : Int) ≤ 1000000000 := by omega
  have hq : Hid (-9223372036854775808 ≤ n ∧ n ≤ 9223372036854775807) := ⟨h0, h1⟩
  cases ht with
  | @mk _ _ _ _ _ _ _ said pv nv mv qs hB hh hs hp hn hm hl hq' =>
    have a0 := cell_of hh 0
    have a1 := cell_of hh 1
    have a2 := cell_of hh 2
    have al := lt_of_heap hh
    simp only [List.getElem?_toArray, List.getElem?_cons_zero, List.getElem?_cons_succ] at a0 a1 a2
    obtain ⟨x, hx⟩ : ∃ x, Hid (numS n = x) := ⟨_, rfl⟩
    have hxs : (x.size : Int) ≤ 24 := by rw [← hx.out]; omega
    rw [hx.out]
    clear hh hs hp hn hm hl hq' hg e h0 h1 hs0 hz
    go_enter Tryz.func53, Tryz.ntmps53
    go_wp2_with fail
    have r1 : ∀ i : UpOf W, i.W.cell? ⟨b, 1, none⟩ = some (.int .i64 n) := fun i => (i.up.cells _ _ al).trans a1
    have r2 : ∀ i : UpOf W, i.W.cell? ⟨b, 2, none⟩ = some (.string nm) := fun i => (i.up.cells _ _ al).trans a2
    have hc : ∀ i : UpOf W, Calls Tryz.prog 71 #[.int .i64 n] i.W fun e w' => e = .returned (.string x) ∧ Up i.W w' := fun i => by
      rw [← hx.out]
      exact itoa_any n i.W hq.out.1 hq.out.2 (T.out.up i.up)
    have HCC := Lib.hid hc
    clear hc
    refine wp_region_up (by kernel_rfl) (by kernel_rfl) ?_
    repeat (go_big_quiet_step ((go_at_call 71; rename_i i; exact Calls.up_of i (HCC.out i))))
    refine wpQuiet_nil ?_
    intro _ hw'
    obtain ⟨⟨w2, hu2⟩, hw''⟩ := hw'
    subst hw''
    clear r1 r2
    go_wp2_with fail
    go_ret
    exact ⟨rfl, Memo.of_up _ _ hu2⟩

set_option maxRecDepth 100000 in
set_option maxHeartbeats 3200000 in
theorem spelled_named (k n : Int) (nm : ByteArray) (ps : List Ty) (ns : List ByteArray) (ms : List Bool) (hk : k = 21 ∨ k = 22 ∨ k = 23) (h0 : -9223372036854775808 ≤ n) (h1 : n ≤ 9223372036854775807) (hs0 : nm.size ≤ 1000000000) : SpellAny (.mk k n nm ps ns ms) := by
  intro N B b W ht hg
  have T := Lib.hid hg.now.1
  have hz := numS_size n h0 h1
  have hz2 : (hashS nm n).size = nm.size + 1 + (numS n).size := by
    unfold hashS
    simp only [ByteArray.size_append]
    rfl
  have hq : Hid (-9223372036854775808 ≤ n ∧ n ≤ 9223372036854775807 ∧ nm.size ≤ 1000000000) := ⟨h0, h1, hs0⟩
  obtain ⟨x, hx⟩ : ∃ x, Hid (hashS nm n = x) := ⟨_, rfl⟩
  have hxs : (x.size : Int) ≤ 1000000100 := by rw [← hx.out]; omega
  cases ht with
  | @mk _ _ _ _ _ _ _ said pv nv mv qs hB hh hs hp hn hm hl hq' =>
    have a0 := cell_of hh 0
    have a1 := cell_of hh 1
    have a2 := cell_of hh 2
    have al := lt_of_heap hh
    simp only [List.getElem?_toArray, List.getElem?_cons_zero, List.getElem?_cons_succ] at a0 a1 a2
    rw [Ty.text_mk]
    clear hh hs hp hn hm hl hq' hg h0 h1 hs0 hz hz2
    rcases hk with rfl | rfl | rfl
    all_goals
      first
      | rw [show textK 21 n nm (ps.map fun p => (p.kind, p.text)) ns ms = ⟨#[99, 108, 97, 115, 115, 32]⟩ ++ hashS nm n by simp [textK]]
      | rw [show textK 22 n nm (ps.map fun p => (p.kind, p.text)) ns ms = ⟨#[101, 110, 117, 109, 32]⟩ ++ hashS nm n by simp [textK]]
      | rw [show textK 23 n nm (ps.map fun p => (p.kind, p.text)) ns ms = ⟨#[110, 97, 109, 101, 115, 112, 97, 99, 101, 32]⟩ ++ hashS nm n by simp [textK]]
      rw [hx.out]
      go_enter Tryz.func53, Tryz.ntmps53
      go_wp2_with (first | (go_at_call 75; refine (numbered_any b n nm _ ((Up.cells (w := W) uq _ _ al).trans a1) ((Up.cells (w := W) uq _ _ al).trans a2) hq.out.1 hq.out.2.1 hq.out.2.2 (T.out.up uq)).mono ?_; rintro e w2 ⟨rfl, hu2⟩; rw [hx.out]))
      go_ret
      exact ⟨rfl, Memo.of_up _ _ uq⟩

set_option maxRecDepth 100000 in
set_option maxHeartbeats 3200000 in
theorem spelled_word (k n : Int) (nm : ByteArray) (ps : List Ty) (ns : List ByteArray) (ms : List Bool) (h1 : 1 ≤ k) (h2 : k ≤ 10) : SpellAny (.mk k n nm ps ns ms) := by
  intro N B b W ht hg
  have e : (Ty.mk k n nm ps ns ms).text = wordS k := by
    rw [Ty.text_mk]
    unfold textK
    iterate 13 rw [if_neg (by omega)]
  rw [e]
  have HK := Lib.hid (And.intro h1 h2)
  have e11 : (k == 11) = false := by simp; omega
  have e12 : (k == 12) = false := by simp; omega
  have e13 : (k == 13) = false := by simp; omega
  have e14 : (k == 14) = false := by simp; omega
  have e15 : (k == 15) = false := by simp; omega
  have e16 : (k == 16) = false := by simp; omega
  have e17 : (k == 17) = false := by simp; omega
  have e18 : (k == 18) = false := by simp; omega
  have e19 : (k == 19) = false := by simp; omega
  have e20 : (k == 20) = false := by simp; omega
  have e21 : (k == 21) = false := by simp; omega
  have e22 : (k == 22) = false := by simp; omega
  have e23 : (k == 23) = false := by simp; omega
  cases ht with
  | @mk _ _ _ _ _ _ _ said pv nv mv qs hB hh hs hp hn hm hl hq' =>
    have a0 := cell_of hh 0
    have al := lt_of_heap hh
    simp only [List.getElem?_toArray, List.getElem?_cons_zero, List.getElem?_cons_succ] at a0
    clear hh hs hp hn hm hl hq' hg e h1 h2
    go_enter Tryz.func53, Tryz.ntmps53
    go_wp2_with (first | (go_at_call 77; refine (word_any k HK.out.1 HK.out.2 _).mono ?_; rintro e w2 ⟨rfl, hu2⟩))
    go_ret
    exact ⟨rfl, Memo.of_up _ _ uq⟩

end Go.Proofs.YtbghpkoimbmijaaGreatDoor

/- Walks: the text of a type: round; arrays, cases. -/
namespace Go.Proofs.YtbghpkoimbmijaaGreatDoor
open Go.RowKit
set_option linter.unusedSimpArgs false

theorem TyAt.up {N : Nat → Prop} {B : Nat} {w w' : World} {b : Nat} {t : Ty} (h : TyAt N B w b t) (k : Up w w') : TyAt N B w' b t := h.keep (fun _ _ _ _ _ _ q => k.get q) (fun _ _ _ _ _ _ _ _ _ said _ q => ⟨said, k.get q, .inl rfl⟩)
theorem TyAt.memo {N : Nat → Prop} {B : Nat} {w w' : World} {b : Nat} {t : Ty} (h : TyAt N B w b t) (k : Memo none1 B w w') : TyAt N B w' b t := k.ty N b t (fun _ _ e => e) h
theorem RowOf.memo {T : TypeId} {N : Nat → Prop} {B : Nat} {w w' : World} {v : Value} {us : List Value} (h : RowOf T N w v us) (hT : T ≠ TyT) (k : Memo none1 B w w') : RowOf T N w' v us := h.keep fun _ _ _ q1 q2 => ⟨q1, k.cells q2 hT (fun e => e)⟩

/-- what is seen of a type at its block -/
structure View (N : Nat → Prop) (B : Nat) (w : World) (b : Nat) (k n : Int) (nm : ByteArray) (ps : List Ty) (ns : List ByteArray) (ms : List Bool) (pv nv mv : Value) (qs : List Nat) : Prop where
  blk : ∃ (cs : Array Value) (f : Nat × Nat), w.heap[b]? = some (.cells cs TyT f)
  c0 : w.cell? ⟨b, 0, none⟩ = some (.int .i64 k)
  c1 : w.cell? ⟨b, 1, none⟩ = some (.int .i64 n)
  c2 : w.cell? ⟨b, 2, none⟩ = some (.string nm)
  c3 : w.cell? ⟨b, 3, none⟩ = some pv
  c4 : w.cell? ⟨b, 4, none⟩ = some nv
  c5 : w.cell? ⟨b, 5, none⟩ = some mv
  hp : RowOf TpT N w pv (qs.map ptrV)
  hn : RowOf StrT N w nv (ns.map .string)
  hm : RowOf BooT N w mv (ms.map .bool)
  hl : qs.length = ps.length
  hq : ∀ (j q : Nat) (p : Ty), qs[j]? = some q → ps[j]? = some p → TyAt N B w q p
theorem TyAt.view {N : Nat → Prop} {B : Nat} {w : World} {b : Nat} {k n : Int} {nm : ByteArray} {ps : List Ty} {ns : List ByteArray} {ms : List Bool} (h : TyAt N B w b (.mk k n nm ps ns ms)) : ∃ pv nv mv qs, View N B w b k n nm ps ns ms pv nv mv qs := by
  cases h with
  | mk said pv nv mv qs hB hh hs hp hn hm hl hq => exact ⟨pv, nv, mv, qs, ⟨_, _, hh⟩, cell_of hh 0, cell_of hh 1, cell_of hh 2, cell_of hh 3, cell_of hh 4, cell_of hh 5, hp, hn, hm, hl, hq⟩
theorem View.memo {N : Nat → Prop} {B : Nat} {w w' : World} {b : Nat} {k n : Int} {nm : ByteArray} {ps : List Ty} {ns : List ByteArray} {ms : List Bool} {pv nv mv : Value} {qs : List Nat} (h : View N B w b k n nm ps ns ms pv nv mv qs) (m : Memo none1 B w w') : View N B w' b k n nm ps ns ms pv nv mv qs := by
  obtain ⟨cs, f, hb⟩ := h.blk
  obtain ⟨cs', h1, _⟩ := m.fld b cs f hb
  exact ⟨⟨cs', f, h1⟩, (m.cell hb (by decide)).trans h.c0, (m.cell hb (by decide)).trans h.c1, (m.cell hb (by decide)).trans h.c2, (m.cell hb (by decide)).trans h.c3, (m.cell hb (by decide)).trans h.c4, (m.cell hb (by decide)).trans h.c5, h.hp.memo (by decide) m, h.hn.memo (by decide) m, h.hm.memo (by decide) m, h.hl, fun j q p h1 h2 => (h.hq j q p h1 h2).memo m⟩
theorem View.lt {N : Nat → Prop} {B : Nat} {w : World} {b : Nat} {k n : Int} {nm : ByteArray} {ps : List Ty} {ns : List ByteArray} {ms : List Bool} {pv nv mv : Value} {qs : List Nat} (h : View N B w b k n nm ps ns ms pv nv mv qs) : b < w.heap.size := let ⟨_, _, hb⟩ := h.blk; lt_of_heap hb
/-- the j-th part -/
theorem View.part {N : Nat → Prop} {B : Nat} {w : World} {b : Nat} {k n : Int} {nm : ByteArray} {ps : List Ty} {ns : List ByteArray} {ms : List Bool} {pv nv mv : Value} {qs : List Nat} (h : View N B w b k n nm ps ns ms pv nv mv qs) {j : Nat} {p : Ty} (hj : ps[j]? = some p) :
    ∃ q g off cap, pv = .slice (some ⟨g, off, none⟩) ps.length cap ∧ ps.length ≤ cap ∧ g < w.heap.size ∧ w.cell? ⟨g, off + j, none⟩ = some (.pointer (some ⟨q, 0, none⟩)) ∧ TyAt N B w q p ∧ ∀ w', Memo none1 B w w' → w'.cell? ⟨g, off + j, none⟩ = some (.pointer (some ⟨q, 0, none⟩)) := by
  have hl := (List.getElem?_eq_some_iff.1 hj).1
  obtain ⟨q, hq⟩ : ∃ q, qs[j]? = some q := ⟨_, List.getElem?_eq_getElem (by have := h.hl; omega)⟩
  obtain ⟨a, cap, e, h2, _, h3⟩ := h.hp
  obtain ⟨g, off, cs, fz, r1, _, r3, r4⟩ := h3 j (ptrV q) (by rw [List.getElem?_map, hq]; rfl)
  subst r1
  rw [List.length_map, h.hl] at e h2
  exact ⟨q, g, off, cap, e, h2, lt_of_heap r3, (cell_of r3 _).trans r4, h.hq j q p hq hj, fun w' m => (cell_of (m.cells r3 (by decide) (fun e => e)) _).trans r4⟩
theorem View.parts {N : Nat → Prop} {B : Nat} {w : World} {b : Nat} {k n : Int} {nm : ByteArray} {ps : List Ty} {ns : List ByteArray} {ms : List Bool} {pv nv mv : Value} {qs : List Nat} (h : View N B w b k n nm ps ns ms pv nv mv qs) : ∃ a cap, pv = .slice a ps.length cap ∧ ps.length ≤ cap ∧ ps.length ≤ 1000000000 := by
  obtain ⟨a, cap, e, h2, h3, _⟩ := h.hp
  rw [List.length_map, h.hl] at e h2 h3
  exact ⟨a, cap, e, h2, h3⟩

set_option maxRecDepth 100000 in
set_option maxHeartbeats 1600000 in
theorem round_any (zs : List Int) (g cap x : Nat) (p : Ty) (N : Nat → Prop) (B : Nat) (w : World) (hx : TyAt N B w x p) (hG : Glob w) (hT : TextAny p) (hs : p.text.size ≤ 100000000000000) (hc : ∀ j z, zs[j]? = some z → w.cell? ⟨g, 0 + j, none⟩ = some (.int .i64 z)) (hg : g < w.heap.size) (hlen : zs.length ≤ 1000000) :
    Calls Tryz.prog 51 #[.pointer (some ⟨x, 0, none⟩), .slice (some ⟨g, 0, none⟩) zs.length cap] w fun e w' => e = .returned (.string (roundS zs p.kind p.text)) ∧ Memo none1 B w w' := by
  have HC := Lib.hid hc
  have HX := Lib.hid (And.intro hx (And.intro hG hT))
  obtain ⟨s, hss⟩ : ∃ s, Hid (p.text = s) := ⟨_, rfl⟩
  rw [hss.out] at hs ⊢
  obtain ⟨k, hkk⟩ : ∃ k, Hid (p.kind = k) := ⟨_, rfl⟩
  rw [hkk.out]
  have y0 : w.cell? ⟨x, 0, none⟩ = some (.int .i64 k) := by
    rw [← hkk.out]
    cases p with
    | mk k' n nm ps ns ms =>
      obtain ⟨pv, nv, mv, qs, V⟩ := hx.view
      exact V.c0
  have yl := hx.lt
  have hsi : (s.size : Int) ≤ 100000000000000 := by omega
  clear hc hx hG hT
  by_cases hk : k ∈ zs
  · have e : roundS zs k s = ⟨#[40]⟩ ++ s ++ ⟨#[41]⟩ := by unfold roundS; rw [if_pos hk]
    rw [e]
    have HK : Hid (decide (k ∈ zs) = true) := by unfold Hid; simp [hk]
    clear hk e
    go_enter Tryz.func51, Tryz.ntmps51
    go_wp2_with (first | (go_at_call 70; refine (Contains_ints zs g 0 cap k _ HC.out hg hlen).mono ?_; rintro e w2 ⟨rfl, hu2⟩; simp only [HK.out]) | (go_at_call 34; refine (HX.out.2.2 N B x _ (HX.out.1.up uq) (HX.out.2.1.up uq)).mono ?_; rintro e w3 ⟨rfl, hm3⟩; rw [hss.out]; have hm3 := Lib.hid hm3))
    go_ret
    exact ⟨rfl, (Memo.of_up _ _ hu2).trans hm3.out⟩
  · have e : roundS zs k s = s := by unfold roundS; rw [if_neg hk]
    rw [e]
    have HK : Hid (decide (k ∈ zs) = false) := by unfold Hid; simp [hk]
    clear hk e
    go_enter Tryz.func51, Tryz.ntmps51
    go_wp2_with (first | (go_at_call 70; refine (Contains_ints zs g 0 cap k _ HC.out hg hlen).mono ?_; rintro e w2 ⟨rfl, hu2⟩; simp only [HK.out]) | (go_at_call 34; refine (HX.out.2.2 N B x _ (HX.out.1.up uq) (HX.out.2.1.up uq)).mono ?_; rintro e w3 ⟨rfl, hm3⟩; rw [hss.out]; have hm3 := Lib.hid hm3))
    go_ret
    exact ⟨rfl, (Memo.of_up _ _ hu2).trans hm3.out⟩

set_option maxRecDepth 100000 in
set_option maxHeartbeats 3200000 in
theorem spelled_13 (n : Int) (nm : ByteArray) (ps : List Ty) (ns : List ByteArray) (ms : List Bool) (h1 : 1 ≤ ps.length) (hT : ∀ p ∈ ps, TextAny p ∧ p.text.size ≤ 100000000000000) : SpellAny (.mk 13 n nm ps ns ms) := by
  intro N B b W ht hg
  obtain ⟨p, r, hpr⟩ : ∃ p r, ps = p :: r := by
    cases ps with
    | nil => simp at h1
    | cons p r => exact ⟨p, r, rfl⟩
  have e : (Ty.mk 13 n nm ps ns ms).text = roundS [15, 16] p.kind p.text ++ ⟨#[91, 93]⟩ := by rw [Ty.text_mk, hpr]; simp [textK]
  rw [e]
  obtain ⟨pv, nv, mv, qs, V⟩ := ht.view
  obtain ⟨q, g, off, cap, rfl, hcap, hgl, hcell, hpt, hkeep⟩ := V.part (j := 0) (p := p) (by rw [hpr]; rfl)
  have HX := Lib.hid (And.intro hpt (And.intro hg (hT p (by rw [hpr]; simp))))
  have hz := roundS_size [15, 16] p.kind p.text
  have a0 := V.c0
  have a3 := V.c3
  have al := V.lt
  have hl1 : (0 : Int) < ps.length := by omega
  have hsz := HX.out.2.2.2
  obtain ⟨x, hx⟩ : ∃ x, Hid (roundS [15, 16] p.kind p.text = x) := ⟨_, rfl⟩
  have hxs : (x.size : Int) ≤ 100000000000002 := by rw [← hx.out]; omega
  rw [hx.out]
  rw [Nat.add_zero] at hcell
  clear ht hg hT V e hz hsz hpt hpr h1 hkeep
  go_enter Tryz.func53, Tryz.ntmps53
  go_wp2_with (first | (go_at_call 51; refine (round_any [15, 16] W.heap.size 2 q p N B _ (HX.out.1.up uq) (HX.out.2.1.up uq) HX.out.2.2.1 HX.out.2.2.2 (by intro j z hz; match j, hz with | 0, hz => (simp at hz; subst hz; simp) | 1, hz => (simp at hz; subst hz; simp) | j + 2, hz => simp at hz) (by simp) (by simp)).mono ?_; rintro e w2 ⟨rfl, hm2⟩; rw [hx.out]; have hm2 := Lib.hid hm2))
  go_ret
  exact ⟨rfl, (Memo.of_up _ _ uq).trans hm2.out⟩

set_option maxRecDepth 100000 in
set_option maxHeartbeats 3200000 in
theorem spelled_20 (n : Int) (nm : ByteArray) (ps : List Ty) (ns : List ByteArray) (ms : List Bool) (h1 : 1 ≤ ps.length) (hs0 : nm.size ≤ 1000000000) (hT : ∀ p ∈ ps, TextAny p ∧ p.text.size ≤ 100000000000000) : SpellAny (.mk 20 n nm ps ns ms) := by
  intro N B b W ht hg
  obtain ⟨p, r, hpr⟩ : ∃ p r, ps = p :: r := by
    cases ps with
    | nil => simp at h1
    | cons p r => exact ⟨p, r, rfl⟩
  have e : (Ty.mk 20 n nm ps ns ms).text = p.text ++ ⟨#[46]⟩ ++ nm := by rw [Ty.text_mk, hpr]; simp [textK]
  rw [e]
  obtain ⟨pv, nv, mv, qs, V⟩ := ht.view
  obtain ⟨q, g, off, cap, rfl, hcap, hgl, hcell, hpt, hkeep⟩ := V.part (j := 0) (p := p) (by rw [hpr]; rfl)
  have HX := Lib.hid (And.intro hpt (And.intro hg (hT p (by rw [hpr]; simp))))
  have HV := Lib.hid V
  have a0 := V.c0
  have al := V.lt
  have hl1 : (0 : Int) < ps.length := by omega
  have hsz := HX.out.2.2.2
  obtain ⟨x, hx⟩ : ∃ x, Hid (p.text = x) := ⟨_, rfl⟩
  have hxs : (x.size : Int) ≤ 100000000000000 := by rw [← hx.out]; omega
  have hsi : (nm.size : Int) ≤ 1000000000 := by omega
  have r2 : ∀ i : MemoOf B W, i.W.cell? ⟨b, 2, none⟩ = some (.string nm) := fun i => (HV.out.memo i.memo).c2
  have r3 : ∀ i : MemoOf B W, i.W.cell? ⟨b, 3, none⟩ = some (.slice (some ⟨g, off, none⟩) ps.length cap) := fun i => (HV.out.memo i.memo).c3
  have r4 : ∀ i : MemoOf B W, i.W.cell? ⟨g, off, none⟩ = some (.pointer (some ⟨q, 0, none⟩)) := fun i => by simpa using hkeep i.W i.memo
  have hc : ∀ i : MemoOf B W, Calls Tryz.prog 34 #[.pointer (some ⟨q, 0, none⟩)] i.W fun e w' => e = .returned (.string x) ∧ Memo none1 B i.W w' := fun i => by
    rw [← hx.out]
    exact HX.out.2.2.1 N B q i.W (HX.out.1.memo i.memo) (HX.out.2.1.memo i.memo)
  have HCC := Lib.hid hc
  rw [hx.out]
  clear ht hg hT V e hsz hpt hpr h1 hs0 hc hcell hkeep
  go_enter Tryz.func53, Tryz.ntmps53
  go_wp2_with fail
  refine wp_region_memo B (by kernel_rfl) (by kernel_rfl) ?_
  repeat (go_big_quiet_step ((go_at_call 34; rename_i i; exact Calls.memo_of i (HCC.out i))))
  refine wpQuiet_nil ?_
  intro _ hw'
  obtain ⟨⟨w2, hm2⟩, hw''⟩ := hw'
  subst hw''
  clear r2 r3 r4
  have M2 := Lib.hid hm2
  clear hm2
  go_wp2_with fail
  go_ret
  exact ⟨rfl, M2.out⟩

end Go.Proofs.YtbghpkoimbmijaaGreatDoor
