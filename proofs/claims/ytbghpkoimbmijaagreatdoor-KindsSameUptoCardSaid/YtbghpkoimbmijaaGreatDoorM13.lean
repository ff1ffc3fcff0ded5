import Derived.Test.YtbghpkoimbmijaaGreatDoorM12
/- YtbghpkoimbmijaaGreatDoorM13: lemmas of the proof, in order: VP, VW, VX. -/
/- Plain law: a type's text tells the type: what is read is the type. -/
namespace Go.Proofs.YtbghpkoimbmijaaGreatDoor
open Go.RowKit
set_option linter.unusedSimpArgs false

/-- the text of a part where brackets or a mark stand behind it -/
def Ty.roundT (t : Ty) : ByteArray := roundS [15, 16] t.kind t.text
theorem tb_round (zs : List Int) (k : Int) (s : ByteArray) : tb (roundS zs k s) = if k ∈ zs then 40 :: (tb s ++ [41]) else tb s := by
  unfold roundS
  split
  · rw [tb_append, tb_append]; rfl
  · rfl
theorem tb_joinB (sep : ByteArray) (l : List ByteArray) : tb (joinB sep l) = Lib.join (l.map tb) (tb sep) := tb_mk _
theorem tb_hash (nm : ByteArray) (n : Int) (h : 0 ≤ n) : tb (hashS nm n) = tb nm ++ 35 :: Lib.decDigits n.toNat := by
  unfold hashS
  rw [tb_append, tb_append, tb_nat n h]
  simp [tb]
theorem members_eq : ∀ xs : List (ByteArray × Bool × Ty), membersL ((xs.map (·.2.2)).map fun p => (p.kind, p.text)) (xs.map (·.1)) (xs.map (·.2.1)) = xs.map fun x => x.1 ++ markS x.2.1 ++ ⟨#[58, 32]⟩ ++ x.2.2.text
  | [] => rfl
  | x :: r => by simp only [List.map_cons, membersL]; rw [members_eq r]
theorem params_eq : ∀ xs : List (Ty × Bool), paramsL ((xs.map (·.1)).map fun p => (p.kind, p.text)) (xs.map (·.2)) = xs.map fun x => if x.2 = true then x.1.roundT ++ ⟨#[63]⟩ else x.1.text
  | [] => rfl
  | x :: r => by simp only [List.map_cons, paramsL]; rw [params_eq r]; rfl

theorem tx_basic {k : Int} (h1 : 1 ≤ k) (h2 : k ≤ 10) : (Ty.mk k 0 ⟨#[]⟩ [] [] []).text = wordS k := by
  rw [Ty.text_mk]
  unfold textK
  iterate 13 rw [if_neg (by omega)]
theorem tx_num (n : Int) : tb (Ty.mk 11 n ⟨#[]⟩ [] [] []).text = Lib.itoa n := by
  rw [Ty.text_mk, show textK 11 n ⟨#[]⟩ (([] : List Ty).map fun p => (p.kind, p.text)) [] [] = numS n by simp [textK]]
  exact tb_numS n
theorem tx_str {s : ByteArray} (h : GoodS s) : tb (Ty.mk 12 0 s [] [] []).text = 34 :: ((tb s).flatMap qb ++ [34]) := by
  rw [Ty.text_mk, show textK 12 0 s (([] : List Ty).map fun p => (p.kind, p.text)) [] [] = quoteS s by simp [textK]]
  exact quote_form h
theorem tx_arr (p : Ty) : tb (Ty.mk 13 0 ⟨#[]⟩ [p] [] []).text = tb p.roundT ++ [91, 93] := by
  rw [Ty.text_mk, show textK 13 0 ⟨#[]⟩ ([p].map fun p => (p.kind, p.text)) [] [] = p.roundT ++ ⟨#[91, 93]⟩ by simp [textK, Ty.roundT]]
  rw [tb_append]
  rfl
def memT (x : ByteArray × Bool × Ty) : Bs := tb x.1 ++ ((if x.2.1 = true then [63] else []) ++ 58 :: 32 :: tb x.2.2.text)
theorem tx_obj (xs : List (ByteArray × Bool × Ty)) : tb (Ty.mk 14 0 ⟨#[]⟩ (xs.map (·.2.2)) (xs.map (·.1)) (xs.map (·.2.1))).text = 123 :: (Lib.join (xs.map memT) [59, 32] ++ [125]) := by
  rw [Ty.text_mk]
  have e : textK 14 0 ⟨#[]⟩ ((xs.map (·.2.2)).map fun p => (p.kind, p.text)) (xs.map (·.1)) (xs.map (·.2.1)) = ⟨#[123]⟩ ++ joinB ⟨#[59, 32]⟩ (membersL ((xs.map (·.2.2)).map fun p => (p.kind, p.text)) (xs.map (·.1)) (xs.map (·.2.1))) ++ ⟨#[125]⟩ := by
    unfold textK
    rw [if_neg (by decide), if_neg (by decide), if_neg (by decide), if_pos rfl]
  rw [e, members_eq, tb_append, tb_append, tb_joinB, List.map_map]
  have e2 : xs.map (tb ∘ fun x => x.1 ++ markS x.2.1 ++ ⟨#[58, 32]⟩ ++ x.2.2.text) = xs.map memT := by
    apply List.map_congr_left
    intro x _
    simp only [Function.comp, tb_append, memT]
    cases x.2.1 <;> simp [markS, tb]
  rw [e2]
  simp [tb]
def parT (x : Ty × Bool) : Bs := if x.2 = true then tb x.1.roundT ++ [63] else tb x.1.text
theorem tx_fn (xs : List (Ty × Bool)) (r : Ty) : tb (Ty.mk 15 0 ⟨#[]⟩ (xs.map (·.1) ++ [r]) [] (xs.map (·.2))).text = 40 :: (Lib.join (xs.map parT) [44, 32] ++ 41 :: 32 :: 61 :: 62 :: 32 :: tb r.text) := by
  rw [Ty.text_mk]
  have e : textK 15 0 ⟨#[]⟩ ((xs.map (·.1) ++ [r]).map fun p => (p.kind, p.text)) [] (xs.map (·.2)) = ⟨#[40]⟩ ++ joinB ⟨#[44, 32]⟩ (paramsL ((xs.map (·.1)).map fun p => (p.kind, p.text)) (xs.map (·.2))) ++ ⟨#[41, 32, 61, 62, 32]⟩ ++ r.text := by
    unfold textK
    rw [if_neg (by decide), if_neg (by decide), if_neg (by decide), if_neg (by decide), if_pos rfl]
    rw [List.map_append, List.map_cons, List.map_nil, List.dropLast_concat]
    simp [List.getLastD_eq_getLast?]
  rw [e, params_eq, tb_append, tb_append, tb_append, tb_joinB, List.map_map]
  have e2 : xs.map (tb ∘ fun x => if x.2 = true then x.1.roundT ++ ⟨#[63]⟩ else x.1.text) = xs.map parT := by
    apply List.map_congr_left
    intro x _
    simp only [Function.comp, parT]
    split
    · rw [tb_append]; rfl
    · rfl
  rw [e2]
  simp [tb]
theorem tx_un (ps : List Ty) : tb (Ty.mk 16 0 ⟨#[]⟩ ps [] []).text = Lib.join (ps.map fun p => tb p.partT) [32, 124, 32] := by
  rw [Ty.text_mk]
  have e : textK 16 0 ⟨#[]⟩ (ps.map fun p => (p.kind, p.text)) [] [] = joinB ⟨#[32, 124, 32]⟩ ((ps.map fun p => (p.kind, p.text)).map fun x => partS x.1 x.2) := by
    unfold textK
    iterate 5 rw [if_neg (by decide)]
    rw [if_pos rfl]
  rw [e, tb_joinB, List.map_map, List.map_map]
  rfl
theorem tx_ref {n : Int} (nm : ByteArray) (ps : List Ty) (h : 0 ≤ n) : tb (Ty.mk 17 n nm ps [] []).text = tb nm ++ 35 :: (Lib.decDigits n.toNat ++ if ps = [] then [] else 60 :: (Lib.join (ps.map fun p => tb p.text) [44, 32] ++ [62])) := by
  rw [Ty.text_mk]
  have e : textK 17 n nm (ps.map fun p => (p.kind, p.text)) [] [] = if (ps.map fun p => (p.kind, p.text)) = [] then hashS nm n else hashS nm n ++ ⟨#[60]⟩ ++ joinB ⟨#[44, 32]⟩ ((ps.map fun p => (p.kind, p.text)).map (·.2)) ++ ⟨#[62]⟩ := by
    unfold textK
    iterate 6 rw [if_neg (by decide)]
    rw [if_pos rfl]
  rw [e]
  by_cases hp : ps = []
  · subst hp
    simp [tb_hash _ _ h]
  · rw [if_neg (by simpa using hp), if_neg hp]
    rw [tb_append, tb_append, tb_append, tb_joinB, tb_hash _ _ h, List.map_map, List.map_map]
    simp [tb, Function.comp_def]
theorem tx_18 {n : Int} (nm : ByteArray) (h : 0 ≤ n) : tb (Ty.mk 18 n nm [] [] []).text = tb nm ++ 39 :: Lib.decDigits n.toNat := by
  rw [Ty.text_mk, show textK 18 n nm (([] : List Ty).map fun p => (p.kind, p.text)) [] [] = nm ++ ⟨#[39]⟩ ++ numS n by simp [textK]]
  rw [tb_append, tb_append, tb_nat n h]
  simp [tb]
theorem tx_19 {n : Int} (nm : ByteArray) (h : 0 ≤ n) : tb (Ty.mk 19 n nm [] [] []).text = tb nm ++ 64 :: Lib.decDigits n.toNat := by
  rw [Ty.text_mk, show textK 19 n nm (([] : List Ty).map fun p => (p.kind, p.text)) [] [] = nm ++ ⟨#[64]⟩ ++ numS n by simp [textK]]
  rw [tb_append, tb_append, tb_nat n h]
  simp [tb]
theorem tx_20 {n m : Int} (nm nm' : ByteArray) (h : 0 ≤ m) : tb (Ty.mk 20 n nm [.mk 19 m nm' [] [] []] [] []).text = tb nm' ++ 64 :: (Lib.decDigits m.toNat ++ 46 :: tb nm) := by
  rw [Ty.text_mk, show textK 20 n nm ([Ty.mk 19 m nm' [] [] []].map fun p => (p.kind, p.text)) [] [] = (Ty.mk 19 m nm' [] [] []).text ++ ⟨#[46]⟩ ++ nm by simp [textK]]
  rw [tb_append, tb_append, tx_19 _ h]
  simp [tb]
theorem tx_21 {n : Int} (nm : ByteArray) (h : 0 ≤ n) : tb (Ty.mk 21 n nm [] [] []).text = [99, 108, 97, 115, 115] ++ 32 :: (tb nm ++ 35 :: Lib.decDigits n.toNat) := by
  rw [Ty.text_mk, show textK 21 n nm (([] : List Ty).map fun p => (p.kind, p.text)) [] [] = ⟨#[99, 108, 97, 115, 115, 32]⟩ ++ hashS nm n by simp [textK]]
  rw [tb_append, tb_hash _ _ h]
  simp [tb]
theorem tx_22 {n : Int} (nm : ByteArray) (h : 0 ≤ n) : tb (Ty.mk 22 n nm [] [] []).text = [101, 110, 117, 109] ++ 32 :: (tb nm ++ 35 :: Lib.decDigits n.toNat) := by
  rw [Ty.text_mk, show textK 22 n nm (([] : List Ty).map fun p => (p.kind, p.text)) [] [] = ⟨#[101, 110, 117, 109, 32]⟩ ++ hashS nm n by simp [textK]]
  rw [tb_append, tb_hash _ _ h]
  simp [tb]
theorem tx_23 {n : Int} (nm : ByteArray) (h : 0 ≤ n) : tb (Ty.mk 23 n nm [] [] []).text = [110, 97, 109, 101, 115, 112, 97, 99, 101] ++ 32 :: (tb nm ++ 35 :: Lib.decDigits n.toNat) := by
  rw [Ty.text_mk, show textK 23 n nm (([] : List Ty).map fun p => (p.kind, p.text)) [] [] = ⟨#[110, 97, 109, 101, 115, 112, 97, 99, 101, 32]⟩ ++ hashS nm n by simp [textK]]
  rw [tb_append, tb_hash _ _ h]
  simp [tb]

theorem isN_no {c : UInt8} (h : isL c = true) : c ≠ 34 ∧ c ≠ 45 ∧ isD c = false ∧ c ≠ 123 ∧ c ≠ 40 := by
  refine ⟨fun e => ?_, fun e => ?_, ?_, fun e => ?_, fun e => ?_⟩
  · subst e; exact absurd h (by decide)
  · subst e; exact absurd h (by decide)
  · simp only [isL, decide_eq_true_eq] at h
    simp only [isD, decide_eq_false_iff_not]
    omega
  · subst e; exact absurd h (by decide)
  · subst e; exact absurd h (by decide)
theorem wordK_eq {k : Int} (h1 : 1 ≤ k) (h2 : k ≤ 10) : wordK (tb (wordS k)) = k ∧ kwK (tb (wordS k)) = 0 ∧ (∀ c ∈ tb (wordS k), isN c = true) ∧ ∃ c r, tb (wordS k) = c :: r ∧ isL c = true := by
  have hk : k = 1 ∨ k = 2 ∨ k = 3 ∨ k = 4 ∨ k = 5 ∨ k = 6 ∨ k = 7 ∨ k = 8 ∨ k = 9 ∨ k = 10 := by omega
  rcases hk with rfl | rfl | rfl | rfl | rfl | rfl | rfl | rfl | rfl | rfl <;> exact ⟨by decide, by decide, by decide, _, _, rfl, by decide⟩

section
variable (rd : Bs → Option (Ty × Bs)) (n : Nat)

/-- a text that begins with a letter -/
theorem prim_word {w s : Bs} (h : ∃ c r, w = c :: r ∧ isL c = true) (ha : ∀ c ∈ w, isN c = true) (hs : ∀ c r, s = c :: r → isN c = false) : prim rd n (w ++ s) = wordR rd n w s := by
  obtain ⟨c, r, rfl, hc⟩ := h
  obtain ⟨h1, h2, h3, h4, h5⟩ := isN_no hc
  have hsp := span_run (p := isN) (c :: r) s ha hs
  simp only [List.cons_append] at hsp ⊢
  rw [prim, if_neg h1, if_neg h2, if_neg (by simp [h3]), if_neg h4, if_neg h5, hsp.1, hsp.2]
theorem prim_name {nm : ByteArray} (h : NameOk nm) {s : Bs} (hs : ∀ c r, s = c :: r → isN c = false) : prim rd n (tb nm ++ s) = wordR rd n (tb nm) s := prim_word rd n h.first h.all hs
theorem digits_run (m : Int) (s : Bs) (hs : ∀ c r, s = c :: r → isD c = false) : (Lib.decDigits m.toNat ++ s).takeWhile isD = Lib.decDigits m.toNat ∧ (Lib.decDigits m.toNat ++ s).dropWhile isD = s := span_run _ _ (dec_digits _) hs
theorem mk_tb (nm : ByteArray) : (⟨(tb nm).toArray⟩ : ByteArray) = nm := tb_inj (tb_mk _)
theorem soft_D {s : Bs} (hs : Soft s) : ∀ c r, s = c :: r → isD c = false := fun c r e => by subst e; exact hs.head.2.1
theorem soft_N {s : Bs} (hs : Soft s) : ∀ c r, s = c :: r → isN c = false := fun c r e => by subst e; exact hs.head.1

theorem prim_basic {k : Int} (h1 : 1 ≤ k) (h2 : k ≤ 10) {s : Bs} (hs : Soft s) : prim rd n (tb (Ty.mk k 0 ⟨#[]⟩ [] [] []).text ++ s) = some (.mk k 0 ⟨#[]⟩ [] [] [], false, s) := by
  obtain ⟨q1, q2, q3, q4⟩ := wordK_eq h1 h2
  rw [tx_basic h1 h2, prim_word rd n q4 q3 (soft_N hs), wordR, eat_head (fun d r e => (by subst e; exact fun e2 => hs.head.2.2.1 e2.symm)), eat_head (fun d r e => (by subst e; exact fun e2 => hs.head.2.2.2.1 e2.symm)), eat_head (fun d r e => (by subst e; exact fun e2 => hs.head.2.2.2.2.2.2 e2.symm))]
  simp only [q1, q2, if_pos]
theorem prim_num (m : Int) {s : Bs} (hs : Soft s) : prim rd n (tb (Ty.mk 11 m ⟨#[]⟩ [] [] []).text ++ s) = some (.mk 11 m ⟨#[]⟩ [] [] [], false, s) := by
  rw [tx_num]
  by_cases h : m < 0
  · have e : Lib.itoa m = 45 :: Lib.decDigits m.natAbs := by unfold Lib.itoa; rw [if_pos h]
    have hsp := span_run (p := isD) (Lib.decDigits m.natAbs) s (dec_digits _) (soft_D hs)
    rw [e, List.cons_append, prim, if_neg (by decide), if_pos rfl, hsp.1, hsp.2, ← e, numOf_itoa]
  · have e : Lib.itoa m = Lib.decDigits m.toNat := by unfold Lib.itoa; rw [if_neg h]
    obtain ⟨c, r, hc, hd⟩ := dec_first m.toNat
    have hsp := span_run (p := isD) (Lib.decDigits m.toNat) s (dec_digits _) (soft_D hs)
    have hn := numOf_dec m (by omega)
    rw [e]
    rw [hc] at hsp hn ⊢
    rw [List.cons_append] at hsp ⊢
    rw [prim, if_neg (fun q => by subst q; exact absurd hd (by decide)), if_neg (fun q => by subst q; exact absurd hd (by decide)), if_pos hd, hsp.1, hsp.2, hn]
theorem prim_str {a : ByteArray} (h : GoodS a) (s : Bs) : prim rd n (tb (Ty.mk 12 0 a [] [] []).text ++ s) = some (.mk 12 0 a [] [] [], false, s) := by
  rw [tx_str h, List.cons_append, List.append_assoc, prim, if_pos rfl]
  have := (qbs_pas (tb a)).close s
  rw [show [34] ++ s = 34 :: s from rfl, this, strOf_eq h]
theorem prim_18 {m : Int} {nm : ByteArray} (hn : NameOk nm) (h : 0 ≤ m) {s : Bs} (hs : Soft s) : prim rd n (tb (Ty.mk 18 m nm [] [] []).text ++ s) = some (.mk 18 m nm [] [] [], false, s) := by
  have hd := digits_run m s (soft_D hs)
  rw [tx_18 nm h, List.append_assoc, prim_name rd n hn (fun c r e => by rw [List.cons_append] at e; injection e with e _; subst e; decide), wordR, List.cons_append, eat_no _ _ (by decide), show (39 : UInt8) :: (Lib.decDigits m.toNat ++ s) = [39] ++ (Lib.decDigits m.toNat ++ s) from rfl, eat_ok]
  simp only [hd.1, hd.2, numOf_dec m h, mk_tb]
theorem prim_19 {m : Int} {nm : ByteArray} (hn : NameOk nm) (h : 0 ≤ m) {s : Bs} (hs : Soft s) : prim rd n (tb (Ty.mk 19 m nm [] [] []).text ++ s) = some (.mk 19 m nm [] [] [], false, s) := by
  have hd := digits_run m s (soft_D hs)
  rw [tx_19 nm h, List.append_assoc, prim_name rd n hn (fun c r e => by rw [List.cons_append] at e; injection e with e _; subst e; decide), wordR, List.cons_append, eat_no _ _ (by decide), eat_no _ _ (by decide), show (64 : UInt8) :: (Lib.decDigits m.toNat ++ s) = [64] ++ (Lib.decDigits m.toNat ++ s) from rfl, eat_ok]
  simp only [hd.1, hd.2, numOf_dec m h, mk_tb]
  rw [eat_head (fun d r e => (by subst e; exact fun e2 => hs.head.2.2.2.2.1 e2.symm))]
theorem prim_20 {m k : Int} {nm nm' : ByteArray} (hn : NameOk nm) (hn' : NameOk nm') (h : 0 ≤ m) {s : Bs} (hs : Soft s) : prim rd n (tb (Ty.mk 20 k nm [.mk 19 m nm' [] [] []] [] []).text ++ s) = some (.mk 20 0 nm [.mk 19 m nm' [] [] []] [] [], false, s) := by
  have hd := digits_run m (46 :: (tb nm ++ s)) (fun c r e => by injection e with e _; subst e; decide)
  have hnr := span_run (p := isN) (tb nm) s hn.all (soft_N hs)
  rw [tx_20 nm nm' h]
  have e1 : (tb nm' ++ 64 :: (Lib.decDigits m.toNat ++ 46 :: tb nm)) ++ s = tb nm' ++ 64 :: (Lib.decDigits m.toNat ++ 46 :: (tb nm ++ s)) := by simp
  rw [e1, prim_name rd n hn' (fun c r e => by injection e with e _; subst e; decide), wordR, eat_no _ _ (by decide), eat_no _ _ (by decide), show (64 : UInt8) :: (Lib.decDigits m.toNat ++ 46 :: (tb nm ++ s)) = [64] ++ (Lib.decDigits m.toNat ++ 46 :: (tb nm ++ s)) from rfl, eat_ok]
  simp only [hd.1, hd.2, numOf_dec m h, mk_tb]
  rw [show (46 : UInt8) :: (tb nm ++ s) = [46] ++ (tb nm ++ s) from rfl, eat_ok]
  simp only [hnr.1, hnr.2, mk_tb]
theorem prim_kw {w : Bs} {k m : Int} {nm : ByteArray} (hw : kwK w = k) (hk : k ≠ 0) (hwf : ∃ c r, w = c :: r ∧ isL c = true) (hwa : ∀ c ∈ w, isN c = true) (hn : NameOk nm) (h : 0 ≤ m) {s : Bs} (hs : Soft s) :
    prim rd n (w ++ 32 :: (tb nm ++ 35 :: Lib.decDigits m.toNat) ++ s) = some (.mk k m nm [] [] [], false, s) := by
  have hd := digits_run m s (soft_D hs)
  have hnr := span_run (p := isN) (tb nm) (35 :: (Lib.decDigits m.toNat ++ s)) hn.all (fun c r e => by injection e with e _; subst e; decide)
  have e1 : w ++ 32 :: (tb nm ++ 35 :: Lib.decDigits m.toNat) ++ s = w ++ 32 :: (tb nm ++ 35 :: (Lib.decDigits m.toNat ++ s)) := by simp
  rw [e1, prim_word rd n hwf hwa (fun c r e => by injection e with e _; subst e; decide), wordR, eat_no _ _ (by decide), eat_no _ _ (by decide), eat_no _ _ (by decide)]
  simp only
  rw [if_neg (by rw [hw]; exact hk), show (32 : UInt8) :: (tb nm ++ 35 :: (Lib.decDigits m.toNat ++ s)) = [32] ++ (tb nm ++ 35 :: (Lib.decDigits m.toNat ++ s)) from rfl, eat_ok]
  simp only [hnr.1, hnr.2, mk_tb]
  rw [show (35 : UInt8) :: (Lib.decDigits m.toNat ++ s) = [35] ++ (Lib.decDigits m.toNat ++ s) from rfl, eat_ok]
  simp only [hd.1, hd.2, numOf_dec m h, hw]
theorem prim_ref {m : Int} {nm : ByteArray} {ps : List Ty} (hn : NameOk nm) (h : 0 ≤ m) (hp : ∀ p ∈ ps, ∀ s, Stop s → rd (tb p.text ++ s) = some (p.canon, s)) (hl : ps.length ≤ n) {s : Bs} (hs : Soft s) : prim rd n (tb (Ty.mk 17 m nm ps [] []).text ++ s) = some (.mk 17 m nm (ps.map Ty.canon) [] [], false, s) := by
  rw [tx_ref nm ps h]
  by_cases hps : ps = []
  · subst hps
    have hd := digits_run m s (soft_D hs)
    rw [if_pos rfl, List.append_nil]
    have e1 : (tb nm ++ 35 :: Lib.decDigits m.toNat) ++ s = tb nm ++ 35 :: (Lib.decDigits m.toNat ++ s) := by simp
    rw [e1, prim_name rd n hn (fun c r e => by injection e with e _; subst e; decide), wordR, show (35 : UInt8) :: (Lib.decDigits m.toNat ++ s) = [35] ++ (Lib.decDigits m.toNat ++ s) from rfl, eat_ok]
    simp only [hd.1, hd.2, numOf_dec m h, mk_tb]
    rw [eat_head (fun d r e => (by subst e; exact fun e2 => hs.head.2.2.2.2.2.1 e2.symm))]
    rfl
  · have hd := digits_run m (60 :: (Lib.join (ps.map fun p => tb p.text) [44, 32] ++ ([62] ++ s))) (fun c r e => by injection e with e _; subst e; decide)
    rw [if_neg hps]
    have e1 : (tb nm ++ 35 :: (Lib.decDigits m.toNat ++ 60 :: (Lib.join (ps.map fun p => tb p.text) [44, 32] ++ [62]))) ++ s = tb nm ++ 35 :: (Lib.decDigits m.toNat ++ 60 :: (Lib.join (ps.map fun p => tb p.text) [44, 32] ++ ([62] ++ s))) := by simp
    rw [e1, prim_name rd n hn (fun c r e => by injection e with e _; subst e; decide), wordR, show (35 : UInt8) :: (Lib.decDigits m.toNat ++ 60 :: (Lib.join (ps.map fun p => tb p.text) [44, 32] ++ ([62] ++ s))) = [35] ++ (Lib.decDigits m.toNat ++ 60 :: (Lib.join (ps.map fun p => tb p.text) [44, 32] ++ ([62] ++ s))) from rfl, eat_ok]
    simp only [hd.1, hd.2, numOf_dec m h, mk_tb]
    rw [show (60 : UInt8) :: (Lib.join (ps.map fun p => tb p.text) [44, 32] ++ ([62] ++ s)) = [60] ++ (Lib.join (ps.map fun p => tb p.text) [44, 32] ++ ([62] ++ s)) from rfl, eat_ok]
    have hli := list_read rd [62] [44, 32] (fun p : Ty => tb p.text) Ty.canon (fun r => rfl) ps hps (fun b hb s' hs' => hp b hb s' (by
      rcases hs' with ⟨r, rfl⟩ | ⟨r, rfl⟩
      · exact .inr (.inr (.inr (.inr (.inl rfl))))
      · exact .inr (.inl rfl))) n s hl
    simp only [hli]
end

end Go.Proofs.YtbghpkoimbmijaaGreatDoor

/- Plain law: a type's text tells the type. -/
namespace Go.Proofs.YtbghpkoimbmijaaGreatDoor
open Go.RowKit
set_option linter.unusedSimpArgs false

section
variable (rd : Bs → Option (Ty × Bs)) (n : Nat)

theorem member_read {x : ByteArray × Bool × Ty} (hn : NameOk x.1) {s : Bs} (hx : rd (tb x.2.2.text ++ s) = some (x.2.2.canon, s)) : memberR rd (memT x ++ s) = some ((x.1, x.2.1, x.2.2.canon), s) := by
  obtain ⟨nm, m, t⟩ := x
  simp only at hn hx
  unfold memT memberR
  cases m with
  | true =>
    simp only [if_true]
    have e : tb nm ++ ([63] ++ 58 :: 32 :: tb t.text) ++ s = tb nm ++ ([63] ++ ([58, 32] ++ (tb t.text ++ s))) := by simp
    have hsp := span_run (p := isN) (tb nm) ([63] ++ ([58, 32] ++ (tb t.text ++ s))) hn.all (fun c r e => by simp only [List.cons_append] at e; injection e with e _; subst e; decide)
    rw [e, hsp.1, hsp.2, eat_ok]
    simp only
    rw [eat_ok]
    simp only [hx, mk_tb]
  | false =>
    simp only [Bool.false_eq_true, if_false, List.nil_append]
    have e : tb nm ++ (58 :: 32 :: tb t.text) ++ s = tb nm ++ ([58, 32] ++ (tb t.text ++ s)) := by simp
    have hsp := span_run (p := isN) (tb nm) ([58, 32] ++ (tb t.text ++ s)) hn.all (fun c r e => by simp only [List.cons_append] at e; injection e with e _; subst e; decide)
    rw [e, hsp.1, hsp.2]
    have e2 : eat [63] ([58, 32] ++ (tb t.text ++ s)) = none := eat_no _ _ (by decide)
    rw [e2]
    simp only
    rw [eat_ok]
    simp only [hx, mk_tb]
theorem name_first {nm : ByteArray} (h : NameOk nm) (s : Bs) : ∃ c r, tb nm ++ s = c :: r ∧ isL c = true := by
  obtain ⟨c, r, e, hc⟩ := h.first
  exact ⟨c, r ++ s, by rw [e]; rfl, hc⟩
theorem join_first {α : Type} (f : α → Bs) (sep : Bs) {xs : List α} (hne : xs ≠ []) : ∃ x r, x ∈ xs ∧ Lib.join (xs.map f) sep = f x ++ r := by
  cases xs with
  | nil => exact absurd rfl hne
  | cons x r => exact ⟨x, Lib.joinTail sep (r.map f), by simp, by rw [List.map_cons, Lib.join_cons]⟩
theorem prim_obj (xs : List (ByteArray × Bool × Ty)) (hn : ∀ x ∈ xs, NameOk x.1) (hp : ∀ x ∈ xs, ∀ s, Stop s → rd (tb x.2.2.text ++ s) = some (x.2.2.canon, s)) (hl : xs.length ≤ n) (s : Bs) :
    prim rd n (tb (Ty.mk 14 0 ⟨#[]⟩ (xs.map (·.2.2)) (xs.map (·.1)) (xs.map (·.2.1))).text ++ s) = some (.mk 14 0 ⟨#[]⟩ ((xs.map (·.2.2)).map Ty.canon) (xs.map (·.1)) (xs.map (·.2.1)), false, s) := by
  rw [tx_obj, List.cons_append, prim, if_neg (by decide), if_neg (by decide), if_neg (by decide), if_pos rfl, List.append_assoc]
  by_cases hx : xs = []
  · subst hx
    have e : Lib.join (([] : List (ByteArray × Bool × Ty)).map memT) [59, 32] = [] := rfl
    rw [e, List.nil_append, eat_ok]
    rfl
  · obtain ⟨x, r, hxm, ej⟩ := join_first memT [59, 32] hx
    have h1 : eat [125] (Lib.join (xs.map memT) [59, 32] ++ ([125] ++ s)) = none := by
      rw [ej]
      unfold memT
      rw [List.append_assoc, List.append_assoc]
      obtain ⟨c, r', e, hc⟩ := name_first (hn x hxm) (((if x.2.1 = true then [63] else []) ++ 58 :: 32 :: tb x.2.2.text) ++ (r ++ ([125] ++ s)))
      rw [e]
      exact eat_no _ _ (fun q => by subst q; exact absurd hc (by decide))
    have hli := list_read (memberR rd) [125] [59, 32] memT (fun x => (x.1, x.2.1, x.2.2.canon)) (fun r => rfl) xs hx (fun b hb s' hs' => member_read rd (hn b hb) (hp b hb s' (by
      rcases hs' with ⟨r, rfl⟩ | ⟨r, rfl⟩
      · exact .inr (.inr (.inr (.inl rfl)))
      · exact .inr (.inr (.inl rfl))))) n s hl
    rw [h1]
    simp only [hli, List.map_map, Function.comp_def]

/-- the parameters of a function, or what is in parentheses -/
theorem param_read {x : Ty × Bool} {s : Bs} (hs : (∃ r, s = [41] ++ r) ∨ ∃ r, s = [44, 32] ++ r) (h1 : x.2 = false → ∀ s, Stop s → rd (tb x.1.text ++ s) = some (x.1.canon, s)) (h2 : x.2 = true → ∀ s, Stop s → rd (tb x.1.roundT ++ s) = some (x.1.canon, s)) : paramR rd (parT x ++ s) = some ((x.1.canon, x.2), s) := by
  obtain ⟨t, m⟩ := x
  unfold parT paramR
  cases m with
  | true =>
    simp only [if_true] at h2 ⊢
    have hst : Stop ((63 : UInt8) :: s) := .inr (.inr (.inr (.inr (.inr rfl))))
    have q := h2 trivial _ hst
    rw [List.append_assoc, show ([63] : Bs) ++ s = (63 : UInt8) :: s from rfl, q]
    simp only [show (63 : UInt8) :: s = [63] ++ s from rfl]
    simp only [eat_ok]
  | false =>
    simp only [Bool.false_eq_true, if_false] at h1 ⊢
    have hst : Stop s := by
      rcases hs with ⟨r, rfl⟩ | ⟨r, rfl⟩
      · exact .inl rfl
      · exact .inr (.inl rfl)
    have e2 : eat [63] s = none := by
      rcases hs with ⟨r, rfl⟩ | ⟨r, rfl⟩
      · exact eat_no _ _ (by decide)
      · exact eat_no _ _ (by decide)
    rw [h1 trivial s hst]
    simp only [e2]
theorem prim_fn (xs : List (Ty × Bool)) (r : Ty) (h1 : ∀ x ∈ xs, ∀ s, Stop s → rd (tb x.1.text ++ s) = some (x.1.canon, s)) (h2 : ∀ x ∈ xs, ∀ s, Stop s → rd (tb x.1.roundT ++ s) = some (x.1.canon, s)) (hr : ∀ s, Stop s → rd (tb r.text ++ s) = some (r.canon, s))
    (hf : ∀ x ∈ xs, ∀ c q, parT x = c :: q → c ≠ 41) (hpn : ∀ x ∈ xs, parT x ≠ []) (hl : xs.length ≤ n) {s : Bs} (hs : Stop s) :
    prim rd n (tb (Ty.mk 15 0 ⟨#[]⟩ (xs.map (·.1) ++ [r]) [] (xs.map (·.2))).text ++ s) = some (.mk 15 0 ⟨#[]⟩ ((xs.map (·.1) ++ [r]).map Ty.canon) [] (xs.map (·.2)), true, s) := by
  rw [tx_fn, List.cons_append, prim, if_neg (by decide), if_neg (by decide), if_neg (by decide), if_neg (by decide), if_pos rfl]
  have e0 : Lib.join (xs.map parT) [44, 32] ++ 41 :: 32 :: 61 :: 62 :: 32 :: tb r.text ++ s = Lib.join (xs.map parT) [44, 32] ++ ([41] ++ ([32, 61, 62, 32] ++ (tb r.text ++ s))) := by simp
  rw [e0]
  by_cases hx : xs = []
  · subst hx
    have e : Lib.join (([] : List (Ty × Bool)).map parT) [44, 32] = [] := rfl
    rw [e, List.nil_append, eat_ok]
    simp only
    rw [eat_ok]
    simp only [hr s hs]
    rfl
  · obtain ⟨x, q, hxm, ej⟩ := join_first parT [44, 32] hx
    have h0 : eat [41] (Lib.join (xs.map parT) [44, 32] ++ ([41] ++ ([32, 61, 62, 32] ++ (tb r.text ++ s)))) = none := by
      rw [ej]
      cases hpt : parT x with
      | nil => exact absurd hpt (hpn x hxm)
      | cons c q' => exact eat_no _ _ (fun e => hf x hxm c q' hpt e.symm)
    have hli := list_read (paramR rd) [41] [44, 32] parT (fun x => (x.1.canon, x.2)) (fun r => rfl) xs hx (fun b hb s' hs' => param_read rd hs' (fun _ => h1 b hb) (fun _ => h2 b hb)) n ([32, 61, 62, 32] ++ (tb r.text ++ s)) hl
    rw [h0]
    simp only [hli]
    rw [eat_ok]
    simp only [hr s hs, List.map_map, List.map_append, Function.comp_def, List.map_cons, List.map_nil]
/-- in parentheses -/
theorem prim_paren (t : Ty) (h1 : ∀ s, Stop s → rd (tb t.text ++ s) = some (t.canon, s)) (hf : ∀ c q, tb t.text = c :: q → c ≠ 41) (hne : tb t.text ≠ []) (hn : 1 ≤ n) {s : Bs} (hs : Soft s) :
    prim rd n (40 :: (tb t.text ++ [41]) ++ s) = some (t.canon, false, s) := by
  have e0 : 40 :: (tb t.text ++ [41]) ++ s = 40 :: (tb t.text ++ ([41] ++ s)) := by simp
  rw [e0, prim, if_neg (by decide), if_neg (by decide), if_neg (by decide), if_neg (by decide), if_pos rfl]
  have h0 : eat [41] (tb t.text ++ ([41] ++ s)) = none := by
    cases hpt : tb t.text with
    | nil => exact absurd hpt hne
    | cons c q' => exact eat_no _ _ (fun e => hf c q' hpt e.symm)
  have hli := list_read (paramR rd) [41] [44, 32] parT (fun x => (x.1.canon, x.2)) (fun r => rfl) [(t, false)] (by simp) (fun b hb s' hs' => param_read rd hs' (fun _ => by simp at hb; subst hb; exact h1) (fun q => by simp at hb; subst hb; cases q)) n s hn
  have e1 : Lib.join ([(t, false)].map parT) [44, 32] = tb t.text := by simp [Lib.join_one, parT]
  rw [e1] at hli
  rw [h0]
  simp only [hli]
  have h9 : eat [32, 61, 62, 32] s = none := by
    cases s with
    | nil => rfl
    | cons c r =>
      rcases hs with h | h | h | h | h | h | h | ⟨rfl, r', rfl⟩
      all_goals first | exact eat_no2 _ _ (by decide) | (subst h; exact eat_no _ _ (by decide))
  rw [h9]
  rfl
end

/-- what a type's text begins with -/
theorem tx_first {t : Ty} (h : t.Valid) : ∃ c r, tb t.text = c :: r ∧ c ≠ 41 := by
  induction h with
  | @basic k h1 h2 =>
    obtain ⟨_, _, _, c, r, e, hc⟩ := wordK_eq h1 h2
    rw [tx_basic h1 h2]
    exact ⟨c, r, e, fun q => by subst q; exact absurd hc (by decide)⟩
  | @num n h1 h2 =>
    rw [tx_num]
    unfold Lib.itoa
    split
    · exact ⟨_, _, rfl, by decide⟩
    · obtain ⟨c, r, e, hc⟩ := dec_first n.toNat
      exact ⟨c, r, e, fun q => by subst q; exact absurd hc (by decide)⟩
  | str h => rw [tx_str h]; exact ⟨_, _, rfl, by decide⟩
  | @arr p hp ih =>
    rw [tx_arr]
    obtain ⟨c, r, e, hc⟩ := ih
    unfold Ty.roundT
    rw [tb_round]
    split
    · exact ⟨40, _, rfl, by decide⟩
    · rw [e]; exact ⟨c, _, rfl, hc⟩
  | obj xs hn hr hp ih => rw [tx_obj]; exact ⟨_, _, rfl, by decide⟩
  | fn xs r ho hp hr ih1 ih2 => rw [tx_fn]; exact ⟨_, _, rfl, by decide⟩
  | un ps hl hk hs hg hp ih =>
    rw [tx_un]
    obtain ⟨x, r, hx, e⟩ := join_first (fun p : Ty => tb p.partT) [32, 124, 32] (xs := ps) (fun q => by subst q; simp at hl)
    rw [e]
    obtain ⟨c, r', e2, hc⟩ := ih x hx
    have e3 : tb x.partT = if x.kind ∈ [15] then 40 :: (tb x.text ++ [41]) else tb x.text := tb_round _ _ _
    rw [e3]
    split
    · exact ⟨40, _, rfl, by decide⟩
    · rw [e2]; exact ⟨c, _, rfl, hc⟩
  | ref ps h1 h2 hn hp ih =>
    rw [tx_ref _ ps h1]
    obtain ⟨c, r, e, hc⟩ := name_first hn _
    exact ⟨c, r, e, fun q => by subst q; exact absurd hc (by decide)⟩
  | @named k m nm hk h1 h2 hn =>
    rcases hk with rfl | rfl | rfl | rfl | rfl
    · rw [tx_18 _ h1]
      obtain ⟨c, r, e, hc⟩ := name_first hn _
      exact ⟨c, r, e, fun q => by subst q; exact absurd hc (by decide)⟩
    · rw [tx_19 _ h1]
      obtain ⟨c, r, e, hc⟩ := name_first hn _
      exact ⟨c, r, e, fun q => by subst q; exact absurd hc (by decide)⟩
    · rw [tx_21 _ h1]; exact ⟨_, _, rfl, by decide⟩
    · rw [tx_22 _ h1]; exact ⟨_, _, rfl, by decide⟩
    · rw [tx_23 _ h1]; exact ⟨_, _, rfl, by decide⟩
  | case h1 h2 hn h1' h2' hn' =>
    rw [tx_20 _ _ h1']
    obtain ⟨c, r, e, hc⟩ := name_first hn' _
    exact ⟨c, r, e, fun q => by subst q; exact absurd hc (by decide)⟩

end Go.Proofs.YtbghpkoimbmijaaGreatDoor

/- Plain law: a type's text tells the type: the whole. -/
namespace Go.Proofs.YtbghpkoimbmijaaGreatDoor
open Go.RowKit
set_option linter.unusedSimpArgs false

theorem round_first {t : Ty} (h : t.Valid) : ∃ c r, tb t.roundT = c :: r ∧ c ≠ 41 := by
  obtain ⟨c, r, e, hc⟩ := tx_first h
  unfold Ty.roundT
  rw [tb_round]
  split
  · exact ⟨40, _, rfl, by decide⟩
  · exact ⟨c, r, e, hc⟩
theorem strip_none {t : Ty} {s : Bs} (h : eat [91, 93] s = none) : ∀ m, strip m t s = (t, s)
  | 0 => rfl
  | m + 1 => by rw [strip, h]
theorem soft_91 (s : Bs) : Soft ([91, 93] ++ s) := show Soft ((91 : UInt8) :: 93 :: s) from .inr (.inr (.inr (.inr (.inr (.inr (.inl rfl))))))
theorem soft_bar (s : Bs) : Soft ([32, 124, 32] ++ s) := show Soft ((32 : UInt8) :: 124 :: 32 :: s) from .inr (.inr (.inr (.inr (.inr (.inr (.inr ⟨rfl, _, rfl⟩))))))
theorem stop_91 {s : Bs} (h : Stop s) : eat [91, 93] s = none := by
  cases s with
  | nil => rfl
  | cons c r => rcases h with h | h | h | h | h | h <;> (subst h; exact eat_no _ _ (by decide))
theorem stop_32 {s : Bs} (h : Stop s) : eat [32, 124, 32] s = none := by
  cases s with
  | nil => rfl
  | cons c r => rcases h with h | h | h | h | h | h <;> (subst h; exact eat_no _ _ (by decide))

/-- what is read by f is right for types of so many nodes -/
def Reads (f : Nat) : Prop := ∀ t : Ty, t.Valid → t.nodes ≤ f → ∀ s, Stop s → readR f (tb t.text ++ s) = some (t.canon, s)

/-- a part, as it stands ahead of brackets -/
theorem part_read {f : Nat} (H : Reads f) {p : Ty} (hv : p.Valid) : (p.kind ≠ 15 → p.kind ≠ 16 → p.nodes ≤ f + 1) → (p.kind = 15 ∨ p.kind = 16 → p.nodes ≤ f) → ∀ s, Soft s →
    ∃ b R d, d + 1 ≤ p.nodes ∧ prim (readR f) f (tb p.roundT ++ s) = some (b, false, R) ∧ ∀ m, strip (m + d) b R = strip m p.canon s := by
  have base : ∀ {p : Ty}, p.kind ≠ 15 → p.kind ≠ 16 → ∀ {s : Bs}, prim (readR f) f (tb p.text ++ s) = some (p.canon, false, s) → ∃ b R d, d + 1 ≤ p.nodes ∧ prim (readR f) f (tb p.roundT ++ s) = some (b, false, R) ∧ ∀ m, strip (m + d) b R = strip m p.canon s := by
    intro p h1 h2 s h
    refine ⟨p.canon, s, 0, p.nodes_pos, ?_, fun m => rfl⟩
    unfold Ty.roundT
    rw [tb_round, if_neg (by simp [h1, h2])]
    exact h
  have par : ∀ {p : Ty}, p.Valid → p.kind = 15 ∨ p.kind = 16 → p.nodes ≤ f → ∀ {s : Bs}, Soft s → ∃ b R d, d + 1 ≤ p.nodes ∧ prim (readR f) f (tb p.roundT ++ s) = some (b, false, R) ∧ ∀ m, strip (m + d) b R = strip m p.canon s := by
    intro p hp h1 hn s hs
    refine ⟨p.canon, s, 0, p.nodes_pos, ?_, fun m => rfl⟩
    unfold Ty.roundT
    rw [tb_round, if_pos (by simpa using h1)]
    obtain ⟨c, r, e, hc⟩ := tx_first hp
    exact prim_paren _ _ p (H p hp hn) (fun c' q e' => by rw [e] at e'; injection e' with e' _; subst e'; exact hc) (by rw [e]; simp) (Nat.le_trans p.nodes_pos hn) hs
  induction hv with
  | @basic k h1 h2 =>
    intro hn _ s hs
    refine base (by show k ≠ 15; omega) (by show k ≠ 16; omega) ?_
    rw [prim_basic _ _ h1 h2 hs, Ty.canon_mk, if_neg (by omega)]
    rfl
  | @num n h1 h2 =>
    intro hn _ s hs
    refine base (by show (11 : Int) ≠ 15; decide) (by show (11 : Int) ≠ 16; decide) ?_
    rw [prim_num _ _ n hs, Ty.canon_mk, if_neg (by decide)]
    rfl
  | @str a h =>
    intro hn _ s hs
    refine base (by show (12 : Int) ≠ 15; decide) (by show (12 : Int) ≠ 16; decide) ?_
    rw [prim_str _ _ h s, Ty.canon_mk, if_neg (by decide)]
    rfl
  | @arr q hq ih =>
    intro hn _ s hs
    have hnn : (Ty.mk 13 0 ⟨#[]⟩ [q] [] []).nodes = 1 + q.nodes := by rw [Ty.nodes_mk]; simp
    have hn := hn (by show (13 : Int) ≠ 15; decide) (by show (13 : Int) ≠ 16; decide)
    rw [hnn] at hn ⊢
    obtain ⟨b, R, d, h1, h2, h3⟩ := ih (fun _ _ => by omega) (fun _ => by omega) ([91, 93] ++ s) (soft_91 s)
    refine ⟨b, R, d + 1, by omega, ?_, fun m => ?_⟩
    · unfold Ty.roundT
      rw [tb_round, if_neg (by show (13 : Int) ∉ [15, 16]; decide), tx_arr, List.append_assoc]
      exact h2
    · rw [show m + (d + 1) = (m + 1) + d by omega, h3 (m + 1), strip, eat_ok, Ty.canon_mk, if_neg (by decide)]
      rfl
  | obj xs hnm hr hp ih =>
    intro hn _ s hs
    have hn := hn (by show (14 : Int) ≠ 15; decide) (by show (14 : Int) ≠ 16; decide)
    refine base (by show (14 : Int) ≠ 15; decide) (by show (14 : Int) ≠ 16; decide) ?_
    have hl : xs.length ≤ f := by
      rw [Ty.nodes_mk] at hn
      have := Ty.parts_nodes (xs.map (·.2.2))
      rw [List.length_map] at this
      omega
    rw [prim_obj _ _ xs hnm (fun x hx => H x.2.2 (hp x hx) (by
      have := Ty.part_nodes (k := 14) (n := 0) (nm := ⟨#[]⟩) (ns := xs.map (·.1)) (ms := xs.map (·.2.1)) (List.mem_map_of_mem (f := fun y : ByteArray × Bool × Ty => y.2.2) hx)
      omega)) hl s, Ty.canon_mk, if_neg (by decide)]
  | fn xs r ho hp hr ih1 ih2 =>
    intro _ hn s hs
    exact par (Ty.Valid.fn xs r ho hp hr) (.inl rfl) (hn (.inl rfl)) hs
  | un ps hl hk hst hg hp ih =>
    intro _ hn s hs
    exact par (Ty.Valid.un ps hl hk hst hg hp) (.inr rfl) (hn (.inr rfl)) hs
  | @ref n nm ps h1 h2 hnm hp ih =>
    intro hn _ s hs
    have hn := hn (by show (17 : Int) ≠ 15; decide) (by show (17 : Int) ≠ 16; decide)
    refine base (by show (17 : Int) ≠ 15; decide) (by show (17 : Int) ≠ 16; decide) ?_
    have hl : ps.length ≤ f := by
      rw [Ty.nodes_mk] at hn
      have := Ty.parts_nodes ps
      omega
    rw [prim_ref _ _ hnm h1 (fun p hpp => H p (hp p hpp) (by
      have := Ty.part_nodes (k := 17) (n := n) (nm := nm) (ns := []) (ms := []) hpp
      omega)) hl hs, Ty.canon_mk, if_neg (by decide)]
  | @named k m nm hk h1 h2 hnm =>
    intro hn _ s hs
    refine base (by show k ≠ 15; omega) (by show k ≠ 16; omega) ?_
    rcases hk with rfl | rfl | rfl | rfl | rfl
    · rw [prim_18 _ _ hnm h1 hs, Ty.canon_mk, if_neg (by decide)]
      rfl
    · rw [prim_19 _ _ hnm h1 hs, Ty.canon_mk, if_neg (by decide)]
      rfl
    · rw [tx_21 _ h1, prim_kw _ _ (k := 21) (by decide) (by decide) ⟨_, _, rfl, by decide⟩ (by decide) hnm h1 hs, Ty.canon_mk, if_neg (by decide)]
      rfl
    · rw [tx_22 _ h1, prim_kw _ _ (k := 22) (by decide) (by decide) ⟨_, _, rfl, by decide⟩ (by decide) hnm h1 hs, Ty.canon_mk, if_neg (by decide)]
      rfl
    · rw [tx_23 _ h1, prim_kw _ _ (k := 23) (by decide) (by decide) ⟨_, _, rfl, by decide⟩ (by decide) hnm h1 hs, Ty.canon_mk, if_neg (by decide)]
      rfl
  | @case n m nm nm' h1 h2 hnm h1' h2' hnm' =>
    intro hn _ s hs
    refine base (by show (20 : Int) ≠ 15; decide) (by show (20 : Int) ≠ 16; decide) ?_
    rw [prim_20 _ _ hnm hnm' h1' hs, Ty.canon_mk, if_pos rfl]
    simp only [List.map_cons, List.map_nil, Ty.canon_mk]
    rfl

/-- in parentheses, up to a stop -/
theorem paren_read {g : Nat} (H : Reads g) {p : Ty} (hv : p.Valid) (hn : p.nodes ≤ g) : ∀ s, Stop s → readR (g + 1) (40 :: (tb p.text ++ [41]) ++ s) = some (p.canon, s) := by
  intro s hs
  obtain ⟨c, r, e, hc⟩ := tx_first hv
  have h := prim_paren (readR g) g p (H p hv hn) (fun c' q e' => by rw [e] at e'; injection e' with e' _; subst e'; exact hc) (by rw [e]; simp) (Nat.le_trans p.nodes_pos hn) hs.soft
  rw [readR, fullR, h]
  simp only [strip_none (stop_91 hs), stop_32 hs]
theorem round_read {f : Nat} (H : ∀ g, g ≤ f → Reads g) {p : Ty} (hv : p.Valid) (hn : p.nodes + 1 ≤ f) : ∀ s, Stop s → readR f (tb p.roundT ++ s) = some (p.canon, s) := by
  intro s hs
  unfold Ty.roundT
  rw [tb_round]
  split
  · obtain ⟨g, rfl⟩ : ∃ g, f = g + 1 := ⟨f - 1, by omega⟩
    exact paren_read (H g (by omega)) hv (by omega) s hs
  · exact H f (Nat.le_refl _) p hv (by omega) s hs
theorem partT_eq {p : Ty} (h : p.kind ≠ 16) : p.partT = p.roundT := by
  unfold Ty.partT Ty.roundT partS roundS
  by_cases h1 : p.kind = 15
  · rw [if_pos (by simp [h1]), if_pos (by simp [h1])]
  · rw [if_neg (by simp [h1]), if_neg (by simp [h1, h])]
theorem bar_91 (s : Bs) : eat [91, 93] ([32, 124, 32] ++ s) = none := eat_no _ _ (by decide)
/-- a part, up to a bar or a stop -/
theorem part_end {f : Nat} (H : Reads f) {p : Ty} (hv : p.Valid) (hk : p.kind ≠ 16) (hn : p.nodes ≤ f) {s : Bs} (hs : Soft s) (h91 : eat [91, 93] s = none) : ∃ b R, prim (readR f) f (tb p.partT ++ s) = some (b, false, R) ∧ strip f b R = (p.canon, s) := by
  obtain ⟨b, R, d, h1, h2, h3⟩ := part_read H hv (fun _ _ => by omega) (fun _ => hn) s hs
  refine ⟨b, R, by rw [partT_eq hk]; exact h2, ?_⟩
  rw [show f = (f - d) + d by omega, h3, strip_none h91]
theorem union_read {f : Nat} (H : Reads f) {s : Bs} (hs : Stop s) : ∀ (ps : List Ty), ps ≠ [] → (∀ p ∈ ps, p.Valid ∧ p.kind ≠ 16 ∧ p.nodes ≤ f) → ∀ k, ps.length ≤ k → unionR (readR f) f k (Lib.join (ps.map fun p => tb p.partT) [32, 124, 32] ++ s) = some (ps.map Ty.canon, s)
  | [], h, _, _, _ => absurd rfl h
  | [p], _, hp, k, hk => by
    obtain ⟨m, rfl⟩ : ∃ m, k = m + 1 := ⟨k - 1, by simp at hk; omega⟩
    obtain ⟨h1, h2, h3⟩ := hp p (by simp)
    obtain ⟨b, R, q1, q2⟩ := part_end H h1 h2 h3 hs.soft (stop_91 hs)
    have e : Lib.join ([p].map fun p => tb p.partT) [32, 124, 32] = tb p.partT := by simp [Lib.join_one]
    rw [e, unionR, q1]
    simp only [q2, stop_32 hs, List.map_cons, List.map_nil]
  | p :: p' :: ps, _, hp, k, hk => by
    obtain ⟨m, rfl⟩ : ∃ m, k = m + 1 := ⟨k - 1, by simp at hk; omega⟩
    obtain ⟨h1, h2, h3⟩ := hp p (by simp)
    have ih := union_read H hs (p' :: ps) (by simp) (fun q hq => hp q (by simp at hq ⊢; exact .inr hq)) m (by simp at hk ⊢; omega)
    have e : Lib.join ((p :: p' :: ps).map fun p => tb p.partT) [32, 124, 32] ++ s = tb p.partT ++ ([32, 124, 32] ++ (Lib.join ((p' :: ps).map fun p => tb p.partT) [32, 124, 32] ++ s)) := by
      simp [Lib.join, List.intercalate]
    obtain ⟨b, R, q1, q2⟩ := part_end H h1 h2 h3 (s := [32, 124, 32] ++ (Lib.join ((p' :: ps).map fun p => tb p.partT) [32, 124, 32] ++ s)) (soft_bar _) (bar_91 _)
    rw [e, unionR, q1]
    simp only [q2, eat_ok]
    rw [ih]
    rfl

theorem reads_step {f : Nat} (H : ∀ g, g ≤ f → Reads g) : Reads (f + 1) := by
  intro t hv hn s hs
  by_cases h15 : t.kind = 15
  · cases hv with
    | fn xs r ho hp hr =>
      have hN : (Ty.mk 15 0 ⟨#[]⟩ (xs.map (·.1) ++ [r]) [] (xs.map (·.2))).nodes = 1 + (((xs.map (·.1)).map Ty.nodes).sum + r.nodes) := by
        rw [Ty.nodes_mk, List.map_append, List.sum_append]
        simp
      have hr1 := r.nodes_pos
      have hx1 : ∀ x ∈ xs, x.1.nodes + 1 ≤ f := fun x hx => by
        have := sum_mem (List.mem_map_of_mem (f := Ty.nodes) (List.mem_map_of_mem (f := fun y : Ty × Bool => y.1) hx))
        omega
      have hl : xs.length ≤ f := by
        have := Ty.parts_nodes (xs.map (·.1))
        rw [List.length_map] at this
        omega
      have hne : ∀ x ∈ xs, ∃ c q, parT x = c :: q ∧ c ≠ 41 := fun x hx => by
        unfold parT
        split
        · obtain ⟨c, q, e, hc⟩ := round_first (hp x hx)
          exact ⟨c, q ++ [63], by rw [e]; rfl, hc⟩
        · exact tx_first (hp x hx)
      have h := prim_fn (readR f) f xs r (fun x hx => H f (Nat.le_refl _) x.1 (hp x hx) (by have := hx1 x hx; omega)) (fun x hx => round_read H (hp x hx) (hx1 x hx)) (H f (Nat.le_refl _) r hr (by omega))
        (fun x hx c q e => by
          obtain ⟨c', q', e', hc⟩ := hne x hx
          rw [e'] at e
          injection e with e _
          subst e
          exact hc)
        (fun x hx e => by
          obtain ⟨c', q', e', hc⟩ := hne x hx
          rw [e'] at e
          cases e) hl hs
      rw [readR, fullR, h, Ty.canon_mk, if_neg (by decide)]
    | basic h1 h2 => exact absurd h15 (by simp only [Ty.kind]; omega)
    | num => exact absurd h15 (by simp only [Ty.kind]; omega)
    | str => exact absurd h15 (by simp only [Ty.kind]; omega)
    | arr => exact absurd h15 (by simp only [Ty.kind]; omega)
    | obj => exact absurd h15 (by simp only [Ty.kind]; omega)
    | un => exact absurd h15 (by simp only [Ty.kind]; omega)
    | ref => exact absurd h15 (by simp only [Ty.kind]; omega)
    | named hk => exact absurd h15 (by simp only [Ty.kind]; omega)
    | case => exact absurd h15 (by simp only [Ty.kind]; omega)
  · by_cases h16 : t.kind = 16
    · cases hv with
      | un ps hl hk hst hg hp =>
        have hx1 : ∀ p ∈ ps, p.nodes ≤ f := fun p hpp => by
          have := Ty.part_nodes (k := 16) (n := 0) (nm := ⟨#[]⟩) (ns := []) (ms := []) hpp
          omega
        have hlf : ps.length ≤ f := by
          rw [Ty.nodes_mk] at hn
          have := Ty.parts_nodes ps
          omega
        obtain ⟨p, r, rfl⟩ : ∃ p r, ps = p :: r := by
          cases ps with
          | nil => simp at hl
          | cons p r => exact ⟨p, r, rfl⟩
        have hrne : r ≠ [] := fun e => by subst e; simp at hl
        obtain ⟨b, R, q1, q2⟩ := part_end (H f (Nat.le_refl _)) (hp p (by simp)) (hk p (by simp)).1 (hx1 p (by simp)) (s := [32, 124, 32] ++ (Lib.join (r.map fun p => tb p.partT) [32, 124, 32] ++ s)) (soft_bar _) (bar_91 _)
        have hu := union_read (H f (Nat.le_refl _)) hs r hrne (fun q hq => ⟨hp q (by simp [hq]), (hk q (by simp [hq])).1, hx1 q (by simp [hq])⟩) f (by simp at hlf; omega)
        have e : Lib.join ((p :: r).map fun p => tb p.partT) [32, 124, 32] ++ s = tb p.partT ++ ([32, 124, 32] ++ (Lib.join (r.map fun p => tb p.partT) [32, 124, 32] ++ s)) := by
          cases r with
          | nil => exact absurd rfl hrne
          | cons y r => simp [Lib.join, List.intercalate]
        rw [tx_un, e, readR, fullR, q1]
        simp only [q2, eat_ok, hu]
        rw [Ty.canon_mk, if_neg (by decide)]
        rfl
      | basic h1 h2 => exact absurd h16 (by simp only [Ty.kind]; omega)
      | num => exact absurd h16 (by simp only [Ty.kind]; omega)
      | str => exact absurd h16 (by simp only [Ty.kind]; omega)
      | arr => exact absurd h16 (by simp only [Ty.kind]; omega)
      | obj => exact absurd h16 (by simp only [Ty.kind]; omega)
      | fn => exact absurd h16 (by simp only [Ty.kind]; omega)
      | ref => exact absurd h16 (by simp only [Ty.kind]; omega)
      | named hk => exact absurd h16 (by simp only [Ty.kind]; omega)
      | case => exact absurd h16 (by simp only [Ty.kind]; omega)
    · obtain ⟨b, R, d, h1, h2, h3⟩ := part_read (H f (Nat.le_refl _)) hv (fun _ _ => hn) (fun h => by rcases h with h | h <;> contradiction) s hs.soft
      have e : tb t.roundT = tb t.text := by
        unfold Ty.roundT
        rw [tb_round, if_neg (by simp [h15, h16])]
      rw [e] at h2
      have hst : strip f b R = (t.canon, s) := by rw [show f = (f - d) + d by omega, h3, strip_none (stop_91 hs)]
      rw [readR, fullR, h2]
      simp only [hst, stop_32 hs]
theorem reads (f : Nat) : Reads f := by
  induction f using Nat.strongRecOn with
  | ind f ih =>
    cases f with
    | zero => exact fun t _ h => absurd h (by have := t.nodes_pos; omega)
    | succ f => exact reads_step fun g hg => ih g (by omega)

/-- A TYPE'S TEXT TELLS THE TYPE -/
theorem text_inj {t u : Ty} (ht : t.Valid) (hu : u.Valid) (h : t.text = u.text) : t.canon = u.canon := by
  have h1 := reads (t.nodes + u.nodes) t ht (by omega) [] trivial
  have h2 := reads (t.nodes + u.nodes) u hu (by omega) [] trivial
  rw [h, h2] at h1
  injection h1 with h1
  injection h1 with h1 _
  exact h1.symm

end Go.Proofs.YtbghpkoimbmijaaGreatDoor
