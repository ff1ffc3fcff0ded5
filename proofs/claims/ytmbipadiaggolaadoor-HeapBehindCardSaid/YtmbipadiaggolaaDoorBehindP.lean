import Derived.Test.YtmbipadiaggolaaDoorKnow
/- HeapBehind, the plain law: a chain of objects, each behind the next. -/
namespace Go.Proofs.YtmbipadiaggolaaDoor
open Go.RowKit

/-- n objects, each with the one ahead of it behind it; the first i have the member -/
def chainAt (key : ByteArray) (i k : Nat) : Thing := ⟨1, (k : Int) - 1, if k < i then [(key, ⟨3, k, ⟨#[]⟩⟩)] else [], []⟩
def chain (key : ByteArray) (n i : Nat) : HM := ⟨5000, n + i, (List.range n).map (chainAt key i)⟩

theorem chain_len (key : ByteArray) (n i : Nat) : (chain key n i).things.length = n := by simp [chain]
theorem chain_at (key : ByteArray) (n i k : Nat) (h : k < n) : (chain key n i).things[k]? = some (chainAt key i k) := by
  simp [chain, List.getElem?_map, List.getElem?_range h]
theorem chain_there (key : ByteArray) (n i k : Nat) (h : k < n) : (chain key n i).there k = true := by
  simp only [HM.there, chain_len, Bool.and_eq_true, decide_eq_true_eq]
  omega

theorem chain_make (key : ByteArray) (n : Nat) (h : n < 5000) : (chain key n 0).make 1 ((n : Int) - 1) = chain key (n + 1) 0 := by
  have hp : (chain key n 0).mkProto 1 ((n : Int) - 1) = (n : Int) - 1 := by
    unfold HM.mkProto
    rw [if_neg (by decide)]
    by_cases h0 : n = 0
    · subst h0
      rw [if_neg (by simp [HM.there])]
      rfl
    · obtain ⟨m, rfl⟩ : ∃ m, n = m + 1 := ⟨n - 1, by omega⟩
      have e : ((m + 1 : Nat) : Int) - 1 = m := by omega
      have hk : (chain key (m + 1) 0).kindOf (m : Int) = 1 := by
        unfold HM.kindOf
        rw [if_pos (chain_there key _ _ _ (by omega)), Int.toNat_natCast, chain_at key _ _ _ (by omega)]
        rfl
      rw [e, if_pos ⟨chain_there key _ _ _ (by omega), .inl hk⟩]
  unfold HM.make
  rw [hp, if_pos (by show ((n : Int) + ((0 : Nat) : Int)) < 5000; omega)]
  have e1 : mkKind 1 = 1 := rfl
  rw [e1]
  unfold chain
  simp only [List.range_succ, List.map_append, List.map_cons, List.map_nil, HM.mk.injEq, true_and]
  refine ⟨by omega, ?_⟩
  simp [chainAt]

theorem chain_plain (H : HM) (i : Nat) (h : i ≤ 60) : plainS H ⟨3, i, ⟨#[]⟩⟩ = ⟨3, i, ⟨#[]⟩⟩ := by
  unfold plainS
  dsimp only
  rw [if_neg (by decide), if_neg (by decide), if_pos rfl, clampN_id (by omega) (by omega)]

theorem chain_set (key : ByteArray) (n i : Nat) (hn : n ≤ 60) (h : i < n) : (chain key n i).set 5 i key ⟨3, i, ⟨#[]⟩⟩ = (chain key n (i + 1), ⟨#[]⟩, 0) := by
  unfold HM.set
  rw [if_pos ⟨rfl, chain_there key n i i h⟩, Int.toNat_natCast, chain_at key n i i h]
  have e0 : (chainAt key i i).slots = [] := by simp [chainAt]
  simp only
  rw [if_neg (by simp [chainAt]), if_neg (by rw [e0]; simp), if_pos (by show ((n : Int) + (i : Int)) < 5000; omega)]
  unfold HM.setAt
  rw [chain_at key n i i h]
  simp only [e0, chain_plain _ i (by omega)]
  rw [setSlot_miss _ (by simp)]
  have hl : (chain key n i).things.set i ⟨(chainAt key i i).kind, (chainAt key i i).proto, [(key, ⟨3, i, ⟨#[]⟩⟩)], (chainAt key i i).vals⟩ = (chain key n (i + 1)).things := by
    apply List.ext_getElem?
    intro j
    rcases Nat.lt_or_ge j n with hj | hj
    · rw [chain_at key n (i + 1) j hj, List.getElem?_set]
      by_cases hij : i = j
      · subst hij
        rw [if_pos rfl, if_pos (by rw [chain_len]; exact hj)]
        simp [chainAt]
      · rw [if_neg hij, chain_at key n i j hj]
        unfold chainAt
        by_cases hji : j < i
        · rw [if_pos hji, if_pos (by omega)]
        · rw [if_neg hji, if_neg (by omega)]
    · rw [List.getElem?_eq_none (by rw [List.length_set, chain_len]; exact hj), List.getElem?_eq_none (by rw [chain_len]; exact hj)]
  simp only [List.nil_append, hl]
  simp only [chain, Prod.mk.injEq, HM.mk.injEq, and_true, true_and]
  omega

theorem chain_find (key : ByteArray) (n i : Nat) (h0 : 0 < i) : ∀ k, k < n → (chain key n i).find key (k + 1) k = some ⟨3, ((min (i - 1) k : Nat) : Int), ⟨#[]⟩⟩
  | k, hk => by
    rw [HM.find, if_neg (by omega), Int.toNat_natCast, chain_at key n i k hk]
    simp only
    by_cases hki : k < i
    · have e : (chainAt key i k).own key = some ⟨3, k, ⟨#[]⟩⟩ := by
        simp [chainAt, Thing.own, hki]
      rw [e]
      simp only [Option.some.injEq, Val.mk.injEq, true_and, and_true]
      omega
    · have e : (chainAt key i k).own key = none := by
        simp [chainAt, Thing.own, hki]
      rw [e]
      simp only
      obtain ⟨m, rfl⟩ : ∃ m, k = m + 1 := ⟨k - 1, by omega⟩
      have e2 : (chainAt key i (m + 1)).proto = (m : Int) := by simp only [chainAt]; omega
      rw [e2, chain_find key n i h0 m (by omega)]
      simp only [Option.some.injEq, Val.mk.injEq, true_and, and_true]
      omega

theorem chain_get (key : ByteArray) (n i k : Nat) (h0 : 0 < i) (hk : k < n) : (chain key n i).get ⟨5, k, ⟨#[]⟩⟩ key 0 = (⟨3, ((min (i - 1) k : Nat) : Int), ⟨#[]⟩⟩, ⟨#[]⟩, 0) := by
  have hp : plainS (chain key n i) ⟨5, k, ⟨#[]⟩⟩ = ⟨5, k, ⟨#[]⟩⟩ := by
    unfold plainS
    dsimp only
    rw [if_neg (by decide), if_neg (by decide), if_neg (by decide), if_neg (by decide), if_pos ⟨rfl, chain_there key n i k hk⟩]
  unfold HM.get
  rw [hp]
  dsimp only
  rw [if_neg (by decide), if_neg (by decide), if_pos rfl]
  have e : ((k : Int) + 1).toNat = k + 1 := by omega
  rw [e, chain_find key n i h0 k hk]
  rfl
theorem chain_refs (key : ByteArray) (n i k : Nat) (hk : k < n) : (plainS (chain key n i) ⟨5, k, ⟨#[]⟩⟩).k = 4 → (key.toList == lengthS) = false := fun h => by
  unfold plainS at h
  dsimp only at h
  rw [if_neg (by decide), if_neg (by decide), if_neg (by decide), if_neg (by decide), if_pos ⟨rfl, chain_there key n i k hk⟩] at h
  cases h

end Go.Proofs.YtmbipadiaggolaaDoor
