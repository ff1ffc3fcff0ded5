import Derived.Test.YtmbipadiaggolaaGreatDoorBase
/- Text: a rune at the head of bytes, all runes of bytes: the plain law, and the two ways to read one. -/
namespace Go.Proofs.YtmbipadiaggolaaGreatDoor

/-- bytes in memory -/
def BytesAt (w : World) (sa : Option Addr) (l : List UInt8) : Prop := l.length ≤ 1000000000 ∧ ∀ k, k < l.length → ∃ b off, sa = some ⟨b, off, none⟩ ∧ w.cell? ⟨b, off + k, none⟩ = some (.int .u8 ((l.getD k 0).toNat : Int))
theorem cell_lt5 {w : World} {b o : Nat} {v : Value} (h : w.cell? ⟨b, o, none⟩ = some v) : b < w.heap.size := by
  rcases Nat.lt_or_ge b w.heap.size with h' | h'
  · exact h'
  · simp [World.cell?, Array.getElem?_eq_none h'] at h
theorem BytesAt.up {w w' : World} {sa : Option Addr} {l : List UInt8} (h : BytesAt w sa l) (k : Up w w') : BytesAt w' sa l :=
  ⟨h.1, fun i hi => by
    obtain ⟨b, off, h1, h2⟩ := h.2 i hi
    exact ⟨b, off, h1, (k.cells b _ (cell_lt5 h2)).trans h2⟩⟩

/-- a byte, as the program sees it -/
theorem BytesAt.byte {w : World} {sa : Option Addr} {l : List UInt8} (h : BytesAt w sa l) (k : Nat) (hk : k < l.length) : ∃ (b off : Nat) (X : Int), sa = some ⟨b, off, none⟩ ∧ w.cell? ⟨b, off + k, none⟩ = some (.int .u8 X) ∧ X = ((l.getD k 0).toNat : Int) ∧ 0 ≤ X ∧ X ≤ 255 := by
  obtain ⟨b, off, h1, h2⟩ := h.2 k hk
  exact ⟨b, off, _, h1, h2, rfl, by omega, by have := (l.getD k 0).toNat_lt; omega⟩


/-- the bytes behind a first one, so many of them -/
def runS : Nat → Nat → List UInt8 → Option Nat
  | v, 0, _ => some v
  | _, _ + 1, [] => none
  | v, k + 1, a :: r => if 128 ≤ a.toNat ∧ a.toNat ≤ 191 then runS (v * 64 + (a.toNat - 128)) k r else none

def badS : Nat × Nat := (65533, 1)

/-- what a first byte asks for: how many, its digits, the least -/
def wideS (x : Nat) : Nat × Nat × Nat :=
  if x < 128 then (1, x, 0)
  else if 192 ≤ x ∧ x ≤ 223 then (2, x - 192, 128)
  else if 224 ≤ x ∧ x ≤ 239 then (3, x - 224, 2048)
  else if 240 ≤ x ∧ x ≤ 247 then (4, x - 240, 65536)
  else (0, 0, 0)

/-- a rune and how many bytes it has -/
def decS : List UInt8 → Nat × Nat
  | [] => (0, 0)
  | x :: r =>
    let q := wideS x.toNat
    if q.1 = 0 then badS
    else match runS q.2.1 (q.1 - 1) r with
      | none => badS
      | some v => if v < q.2.2 ∨ 1114111 < v ∨ (55296 ≤ v ∧ v ≤ 57343) then badS else (v, q.1)

theorem wideS_le (x : Nat) : (wideS x).1 ≤ 4 := by unfold wideS; repeat' split
                                                   all_goals simp
theorem runS_take (k : Nat) : ∀ (v m : Nat) (l : List UInt8), k ≤ m → runS v k (l.take m) = runS v k l := by
  induction k with
  | zero => intro v m l _; cases l <;> simp [runS]
  | succ k ih =>
    intro v m l h
    cases l with
    | nil => simp
    | cons a r =>
      obtain ⟨m', rfl⟩ : ∃ m', m = m' + 1 := ⟨m - 1, by omega⟩
      simp only [List.take_succ_cons, runS]
      rw [ih _ m' r (by omega)]
theorem decS_take (l : List UInt8) : decS (l.take 4) = decS l := by
  cases l with
  | nil => rfl
  | cons x r =>
    rw [List.take_succ_cons]
    unfold decS
    dsimp only
    rw [runS_take _ _ 3 r (by have := wideS_le x.toNat; omega)]

theorem decS_size (x : UInt8) (r : List UInt8) : 1 ≤ (decS (x :: r)).2 ∧ (decS (x :: r)).2 ≤ (x :: r).length := by
  have hr : ∀ (k v u : Nat) (l : List UInt8), runS v k l = some u → k ≤ l.length := by
    intro k
    induction k with
    | zero => intros; omega
    | succ k ih =>
      intro v u l h
      cases l with
      | nil => simp [runS] at h
      | cons a t =>
        simp only [runS] at h
        split at h
        · have := ih _ _ _ h; simp; omega
        · cases h
  unfold decS
  dsimp only
  split
  · simp [badS]
  · next hq =>
    split
    · simp [badS]
    · next v hv =>
      have h1 := hr _ _ _ _ hv
      split
      · simp [badS]
      · simp only [List.length_cons]; omega

def decOf (n ls : Nat) : Option Nat → Nat × Nat
  | none => badS
  | some v => if v < ls ∨ 1114111 < v ∨ (55296 ≤ v ∧ v ≤ 57343) then badS else (v, n)
theorem decS_wide (l : List UInt8) (a n v ls : Nat) (h : a < l.length) (hw : wideS (l.getD a 0).toNat = (n, v, ls)) (hn : n ≠ 0) : decS (l.drop a) = decOf n ls (runS v (n - 1) (l.drop (a + 1))) := by
  have e : l.drop a = l.getD a 0 :: l.drop (a + 1) := by rw [List.drop_eq_getElem_cons h]; simp [List.getD, List.getElem?_eq_getElem h]
  rw [e]
  unfold decS
  dsimp only
  rw [hw]
  dsimp only
  rw [if_neg hn]
  rfl
theorem decS_none (l : List UInt8) (a v ls : Nat) (h : a < l.length) (hw : wideS (l.getD a 0).toNat = (0, v, ls)) : decS (l.drop a) = badS := by
  have e : l.drop a = l.getD a 0 :: l.drop (a + 1) := by rw [List.drop_eq_getElem_cons h]; simp [List.getD, List.getElem?_eq_getElem h]
  rw [e]
  unfold decS
  dsimp only
  rw [hw]
  rfl
theorem runS_step (v m k : Nat) (l : List UInt8) (h : k < l.length) (h1 : 128 ≤ (l.getD k 0).toNat) (h2 : (l.getD k 0).toNat ≤ 191) : runS v (m + 1) (l.drop k) = runS (v * 64 + ((l.getD k 0).toNat - 128)) m (l.drop (k + 1)) := by
  have e : l.drop k = l.getD k 0 :: l.drop (k + 1) := by rw [List.drop_eq_getElem_cons h]; simp [List.getD, List.getElem?_eq_getElem h]
  rw [e]
  simp only [runS]
  rw [if_pos ⟨h1, h2⟩]
theorem runS_stop (v m k : Nat) (l : List UInt8) (h : ¬ (k < l.length ∧ 128 ≤ (l.getD k 0).toNat ∧ (l.getD k 0).toNat ≤ 191)) : runS v (m + 1) (l.drop k) = none := by
  by_cases hk : k < l.length
  · have e : l.drop k = l.getD k 0 :: l.drop (k + 1) := by rw [List.drop_eq_getElem_cons hk]; simp [List.getD, List.getElem?_eq_getElem hk]
    rw [e]
    simp only [runS]
    rw [if_neg (fun h' => h ⟨hk, h'⟩)]
  · rw [List.drop_eq_nil_iff.2 (by omega)]
    rfl

/-- all runes: the place of each, the rune, how many bytes -/
def runesS : Nat → Nat → List UInt8 → List (Nat × Nat)
  | 0, _, _ => []
  | _ + 1, _, [] => []
  | f + 1, at_, x :: r => (at_, (decS (x :: r)).1) :: runesS f (at_ + (decS (x :: r)).2) ((x :: r).drop (decS (x :: r)).2)

def runesOf (l : List UInt8) : List (Nat × Nat) := runesS l.length 0 l

theorem runesS_enough : ∀ (f g a : Nat) (l : List UInt8), l.length ≤ f → l.length ≤ g → runesS f a l = runesS g a l := by
  intro f
  induction f with
  | zero =>
    intro g a l h1 _
    obtain rfl : l = [] := List.eq_nil_of_length_eq_zero (by omega)
    cases g <;> rfl
  | succ f ih =>
    intro g a l h1 h2
    cases l with
    | nil => cases g <;> rfl
    | cons x r =>
      obtain ⟨g', rfl⟩ : ∃ g', g = g' + 1 := ⟨g - 1, by simp at h2; omega⟩
      have hs := decS_size x r
      simp only [runesS]
      rw [ih g' _ _ (by rw [List.length_drop]; simp at h1 hs ⊢; omega) (by rw [List.length_drop]; simp at h2 hs ⊢; omega)]

/-- the rest of the runes from a place -/
def restS (l : List UInt8) (a : Nat) : List (Nat × Nat) := runesS l.length a (l.drop a)
theorem restS_at (l : List UInt8) (a : Nat) (h : a < l.length) : restS l a = (a, (decS (l.drop a)).1) :: restS l (a + (decS (l.drop a)).2) ∧ 1 ≤ (decS (l.drop a)).2 ∧ a + (decS (l.drop a)).2 ≤ l.length := by
  obtain ⟨x, r, e⟩ : ∃ x r, l.drop a = x :: r := by
    cases hd : l.drop a with
    | nil => rw [List.drop_eq_nil_iff] at hd; omega
    | cons x r => exact ⟨x, r, rfl⟩
  have hl : (l.drop a).length = l.length - a := List.length_drop
  have hs := decS_size x r
  rw [e] at hl
  obtain ⟨f, hf⟩ : ∃ f, l.length = f + 1 := ⟨l.length - 1, by omega⟩
  refine ⟨?_, by rw [e]; exact hs.1, by rw [e]; omega⟩
  unfold restS
  rw [e, hf]
  simp only [runesS]
  congr 1
  rw [← List.drop_drop, e]
  exact runesS_enough _ _ _ _ (by rw [List.length_drop]; omega) (by rw [List.length_drop]; omega)
theorem restS_end (l : List UInt8) (a : Nat) (h : l.length ≤ a) : restS l a = [] := by
  unfold restS
  rw [List.drop_eq_nil_iff.2 h]
  cases l.length <;> rfl

end Go.Proofs.YtmbipadiaggolaaGreatDoor
