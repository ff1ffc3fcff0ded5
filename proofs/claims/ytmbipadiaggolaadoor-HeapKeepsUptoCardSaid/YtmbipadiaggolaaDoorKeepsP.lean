import Derived.Test.YtmbipadiaggolaaDoorHeapWA
import Derived.Test.YtmbipadiaggolaaDoorKnow
/- HeapKeeps, the plain law: what was set is had. -/
namespace Go.Proofs.YtmbipadiaggolaaDoor
open Go.RowKit

/-- a, b ahead of which a stands, and c -/
def kp (sl : List (ByteArray × Val)) (u : Int) : HM := ⟨1048576, u, [⟨1, -1, sl, []⟩, ⟨1, 0, [], []⟩, ⟨1, -1, [], []⟩]⟩

theorem findIdx_split {α : Type} (p : α → Bool) : ∀ (l : List α) (j : Nat), l.findIdx? p = some j → j < l.length ∧ ∀ i x, i < j → l[i]? = some x → p x = false
  | [], j, h => by simp at h
  | y :: l, j, h => by
    rw [List.findIdx?_cons] at h
    by_cases hy : p y = true
    · rw [if_pos hy] at h
      cases h
      exact ⟨by simp, fun i x hi => by omega⟩
    · rw [if_neg hy] at h
      obtain ⟨k, hk, rfl⟩ := Option.map_eq_some_iff.1 h
      obtain ⟨h1, h2⟩ := findIdx_split p l k hk
      refine ⟨by simpa using h1, fun i x hi hx => ?_⟩
      match i with
      | 0 => simp at hx; subst hx; simpa using hy
      | i + 1 => exact h2 i x (by omega) (by simpa using hx)

theorem find_first {α : Type} (p : α → Bool) : ∀ (l : List α) (j : Nat) (x : α), l[j]? = some x → p x = true → (∀ i y, i < j → l[i]? = some y → p y = false) → l.find? p = some x
  | [], j, x, h, _, _ => by simp at h
  | y :: l, 0, x, h, hx, _ => by simp at h; subst h; simp [hx]
  | y :: l, j + 1, x, h, hx, hn => by
    have h0 := hn 0 y (by omega) (by simp)
    rw [List.find?_cons, h0]
    exact find_first p l j x (by simpa using h) hx fun i z hi hz => hn (i + 1) z (by omega) (by simpa using hz)

theorem setSlot_find (l : List (ByteArray × Val)) (s : ByteArray) (x : Val) : (setSlot l s x).find? (fun y => decide (y.1 = s)) = some (s, x) := by
  unfold setSlot
  cases h : l.findIdx? (fun y => decide (y.1 = s)) with
  | none =>
    rw [List.findIdx?_eq_none_iff] at h
    refine find_first _ _ l.length _ (by simp) (by simp) fun i y hi hy => ?_
    rw [List.getElem?_append_left hi] at hy
    exact h y (List.mem_of_getElem? hy)
  | some j =>
    obtain ⟨h1, h2⟩ := findIdx_split _ l j h
    refine find_first _ _ j _ (by simp [h1]) (by simp) fun i y hi hy => ?_
    rw [List.getElem?_set_ne (by omega)] at hy
    exact h2 i y hi hy

theorem kp_there (sl : List (ByteArray × Val)) (u n : Int) (h : 0 ≤ n) (h2 : n ≤ 2) : (kp sl u).there n = true := by
  have h3 : n < 3 := by omega
  unfold HM.there
  rw [Bool.and_eq_true]
  exact ⟨decide_eq_true h, decide_eq_true h3⟩

theorem kp_plain (H : HM) (x : Int) (h : -9007199254740991 ≤ x) (h2 : x ≤ 9007199254740991) : plainS H ⟨3, x, ⟨#[]⟩⟩ = ⟨3, x, ⟨#[]⟩⟩ := by
  unfold plainS
  dsimp only
  rw [if_neg (by decide), if_neg (by decide), if_pos rfl, clampN_id h h2]

theorem kp_set (sl : List (ByteArray × Val)) (u x : Int) (key : ByteArray) (hu : u < 1048576) (h1 : -9007199254740991 ≤ x) (h2 : x ≤ 9007199254740991) :
    ∃ sl' u', (kp sl u).set 5 0 key ⟨3, x, ⟨#[]⟩⟩ = (kp sl' u', ⟨#[]⟩, 0) ∧ u' ≤ u + 1 ∧ sl'.find? (fun y => decide (y.1 = key)) = some (key, ⟨3, x, ⟨#[]⟩⟩) := by
  have hs : ∀ more, (kp sl u).setAt 0 key ⟨3, x, ⟨#[]⟩⟩ more = kp (setSlot sl key ⟨3, x, ⟨#[]⟩⟩) (u + more) := fun more => by
    unfold HM.setAt
    rw [show (kp sl u).things[0]? = some ⟨1, -1, sl, []⟩ from rfl]
    dsimp only
    rw [kp_plain _ x h1 h2]
    rfl
  unfold HM.set
  rw [if_pos ⟨rfl, kp_there sl u 0 (by omega) (by omega)⟩, show (kp sl u).things[(0 : Int).toNat]? = some ⟨1, -1, sl, []⟩ from rfl]
  dsimp only
  rw [if_neg (by decide)]
  by_cases ha : (sl.any fun y => decide (y.1 = key)) = true
  · rw [if_pos ha]
    exact ⟨_, _, by rw [show (0 : Int).toNat = 0 from rfl, hs 0], by omega, setSlot_find sl key _⟩
  · rw [if_neg ha, if_pos (show (kp sl u).used < (kp sl u).room from hu)]
    exact ⟨_, _, by rw [show (0 : Int).toNat = 0 from rfl, hs 1], by omega, setSlot_find sl key _⟩

theorem kp_get (sl : List (ByteArray × Val)) (u n : Int) (key : ByteArray) (x : Val) (hn : n = 0 ∨ n = 1) (h : sl.find? (fun y => decide (y.1 = key)) = some (key, x)) : (kp sl u).get ⟨5, n, ⟨#[]⟩⟩ key 0 = (x, ⟨#[]⟩, 0) := by
  have hp : plainS (kp sl u) ⟨5, n, ⟨#[]⟩⟩ = ⟨5, n, ⟨#[]⟩⟩ := by
    unfold plainS
    dsimp only
    rw [if_neg (by decide), if_neg (by decide), if_neg (by decide), if_neg (by decide), if_pos ⟨rfl, kp_there sl u n (by omega) (by omega)⟩]
  have o0 : (⟨1, -1, sl, []⟩ : Thing).own key = some x := by
    simp only [Thing.own, h]
    rfl
  have o1 : (⟨1, 0, [], []⟩ : Thing).own key = none := rfl
  have f0 : ∀ f, (kp sl u).find key (f + 1) 0 = some x := fun f => by
    rw [HM.find, if_neg (by omega), show (kp sl u).things[(0 : Int).toNat]? = some ⟨1, -1, sl, []⟩ from rfl]
    dsimp only
    rw [o0]
  unfold HM.get
  rw [hp]
  dsimp only
  rw [if_neg (by decide), if_neg (by decide), if_pos rfl]
  rcases hn with rfl | rfl
  · rw [show ((0 : Int) + 1).toNat = 0 + 1 from rfl, f0 0]
    rfl
  · rw [show ((1 : Int) + 1).toNat = 1 + 1 from rfl, HM.find, if_neg (by omega), show (kp sl u).things[(1 : Int).toNat]? = some ⟨1, 0, [], []⟩ from rfl]
    dsimp only
    rw [o1]
    dsimp only
    rw [show (1 : Nat) = 0 + 1 from rfl, f0 0]
    rfl
theorem kp_refs (sl : List (ByteArray × Val)) (u n : Int) (key : ByteArray) (hn : n = 0 ∨ n = 1) : (plainS (kp sl u) ⟨5, n, ⟨#[]⟩⟩).k = 4 → (key.toList == lengthS) = false := fun h => by
  unfold plainS at h
  dsimp only at h
  rw [if_neg (by decide), if_neg (by decide), if_neg (by decide), if_neg (by decide), if_pos ⟨rfl, kp_there sl u n (by omega) (by omega)⟩] at h
  cases h

theorem kp_has (sl : List (ByteArray × Val)) (u : Int) (key : ByteArray) : (kp sl u).has 5 2 key = (false, ⟨#[]⟩, 0) := by
  unfold HM.has
  rw [if_pos ⟨rfl, kp_there sl u 2 (by omega) (by omega)⟩]
  rfl

theorem kp_makes : (⟨1048576, 0, []⟩ : HM).make 1 (-1) = ⟨1048576, 1, [⟨1, -1, [], []⟩]⟩ ∧ (⟨1048576, 1, [⟨1, -1, [], []⟩]⟩ : HM).make 1 0 = ⟨1048576, 2, [⟨1, -1, [], []⟩, ⟨1, 0, [], []⟩]⟩ ∧ (⟨1048576, 2, [⟨1, -1, [], []⟩, ⟨1, 0, [], []⟩]⟩ : HM).make 1 (-1) = kp [] 3 := ⟨rfl, rfl, rfl⟩

theorem Has_ours {w0 w : World} {hb : Nat} {H : HM} (k n : Int) (s key : ByteArray) (h : Ours w0 hb H w) :
    Calls Tryd.prog 13 #[.pointer (some ⟨hb, 0, none⟩), .agg #[.int .i64 k, .int .i64 n, .string s], .string key] w
      fun e w' => e = .returned (.tuple #[.bool (H.has k n key).1, .string (H.has k n key).2.1, .int .i64 (H.has k n key).2.2]) ∧ Ours w0 hb H w' :=
  let ⟨tvs, own, h1, h2, h3⟩ := h
  (Has_any _ H tvs own k n s key w (.some hb _ _ _ h1)).mono fun _ _ ⟨g1, g2⟩ => ⟨g1, tvs, own, h1.up g2, h2.trans g2, h3⟩

/-- the three, made and set -/
def Kept3 (w0 : World) (hb : Nat) (u : Int) (w : World) : Prop := ∃ sl u', u' ≤ u ∧ Ours w0 hb (kp sl u') w
def KeptX (w0 : World) (hb : Nat) (u : Int) (key : ByteArray) (x : Int) (w : World) : Prop := ∃ sl u', u' ≤ u ∧ sl.find? (fun y => decide (y.1 = key)) = some (key, ⟨3, x, ⟨#[]⟩⟩) ∧ Ours w0 hb (kp sl u') w
theorem Kept3.up {w0 : World} {hb : Nat} {u : Int} {w w' : World} (h : Kept3 w0 hb u w) (k : Up w w') : Kept3 w0 hb u w' := let ⟨sl, u', h1, h2⟩ := h; ⟨sl, u', h1, h2.up k⟩
theorem KeptX.up {w0 : World} {hb : Nat} {u : Int} {key : ByteArray} {x : Int} {w w' : World} (h : KeptX w0 hb u key x w) (k : Up w w') : KeptX w0 hb u key x w' := let ⟨sl, u', h1, h2, h3⟩ := h; ⟨sl, u', h1, h2, h3.up k⟩
theorem Kept3.base {w0 : World} {hb : Nat} {u : Int} {w : World} (h : Kept3 w0 hb u w) : Up w0 w := let ⟨_, _, _, h2⟩ := h; h2.base
theorem KeptX.to {w0 : World} {hb : Nat} {u : Int} {key : ByteArray} {x : Int} {w : World} (h : KeptX w0 hb u key x w) : Kept3 w0 hb u w := let ⟨sl, u', h1, _, h3⟩ := h; ⟨sl, u', h1, h3⟩
theorem KeptX.base {w0 : World} {hb : Nat} {u : Int} {key : ByteArray} {x : Int} {w : World} (h : KeptX w0 hb u key x w) : Up w0 w := h.to.base

/-- what lay beyond the heap's own lies as it lay -/
def Beyond (wr W w' : World) : Prop := ∀ (b : Nat) (o : Obj), wr.heap.size ≤ b → W.heap[b]? = some o → w'.heap[b]? = some o

theorem keep_set {w0 wr w : World} {hb : Nat} {u : Int} (s xs key : ByteArray) (x : Int) (hs : xs = ⟨#[]⟩) (hu : u < 1048576) (h1 : -9007199254740991 ≤ x) (h2 : x ≤ 9007199254740991) (h : Kept3 w0 hb u wr) (k : Up wr w) :
    Calls Tryd.prog 11 #[.pointer (some ⟨hb, 0, none⟩), .agg #[.int .i64 5, .int .i64 0, .string s], .string key, .agg #[.int .i64 3, .int .i64 x, .string xs]] w
      fun e w' => e = .returned (.tuple #[.string ⟨#[]⟩, .int .i64 0]) ∧ KeptX w0 hb (u + 1) key x w' ∧ Beyond wr w w' := by
  subst hs
  obtain ⟨sl, u', hu', tvs, own, o1, o2, o3⟩ := h
  obtain ⟨sl2, u2, e, hu2, hf⟩ := kp_set sl u' x key (by omega) h1 h2
  refine (Set_any hb _ tvs own 5 0 s key ⟨3, x, ⟨#[]⟩⟩ w (o1.up k)).mono ?_
  intro e' w' hw
  obtain ⟨g1, g2⟩ := wrote_ours (o2.trans k) o3 e' w' hw
  obtain ⟨_, tvs', own', _, hm⟩ := hw
  rw [e] at g1 g2
  refine ⟨g1, ⟨sl2, u2, by omega, hf, g2⟩, fun b o hb0 hb1 => ?_⟩
  refine hm.get hb1 ?_
  cases ho : own b with
  | none => rfl
  | some m => have := o1.lt b m ho; omega
theorem keep_get {w0 w : World} {hb : Nat} {u : Int} (s key : ByteArray) (n x y : Int) (hs : s = ⟨#[]⟩) (hn : n = 0 ∨ n = 1) (hy : y = x) (h : KeptX w0 hb u key x w) :
    Calls Tryd.prog 12 #[.pointer (some ⟨hb, 0, none⟩), .agg #[.int .i64 5, .int .i64 n, .string s], .string key] w
      fun e w' => e = .returned (.tuple #[.agg #[.int .i64 3, .int .i64 y, .string ⟨#[]⟩], .string ⟨#[]⟩, .int .i64 0]) ∧ Up w w' := by
  subst hs hy
  obtain ⟨sl, u', hu', hf, tvs, own, o1, o2, o3⟩ := h
  refine (Get_any _ _ tvs own 5 n ⟨#[]⟩ key w (.some hb _ _ _ o1) (kp_refs sl u' n key hn)).mono ?_
  rintro e w' ⟨rfl, k⟩
  rw [kp_get sl u' n key _ hn hf]
  exact ⟨rfl, k⟩
theorem keep_has {w0 w : World} {hb : Nat} {u : Int} (s key k : ByteArray) (x : Int) (h : KeptX w0 hb u k x w) :
    Calls Tryd.prog 13 #[.pointer (some ⟨hb, 0, none⟩), .agg #[.int .i64 5, .int .i64 2, .string s], .string key] w
      fun e w' => e = .returned (.tuple #[.bool false, .string ⟨#[]⟩, .int .i64 0]) ∧ Up w w' := by
  obtain ⟨sl, u', hu', hf, tvs, own, o1, o2, o3⟩ := h
  refine (Has_any _ _ tvs own 5 2 s key w (.some hb _ _ _ o1)).mono ?_
  rintro e w' ⟨rfl, k⟩
  rw [kp_has]
  exact ⟨rfl, k⟩

end Go.Proofs.YtmbipadiaggolaaDoor
