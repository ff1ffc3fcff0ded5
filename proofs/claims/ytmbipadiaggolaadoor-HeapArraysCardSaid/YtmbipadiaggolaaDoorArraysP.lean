import Derived.Test.YtmbipadiaggolaaDoorKnow
import Derived.Test.YtmbipadiaggolaaDoorHeapWB
import Derived.Test.YtmbipadiaggolaaDoorHeapWC
/- HeapArrays, the plain law: an array, numbers pushed one behind the other. -/
namespace Go.Proofs.YtmbipadiaggolaaDoor
open Go.RowKit

def arH (vals : List Val) : HM := ⟨5000, (vals.length : Int) + 1, [⟨2, -1, [], vals⟩]⟩
def arNum (zs : List Int) (j : Nat) : Val := ⟨3, (zs.getD j 0).tmod 100000, ⟨#[]⟩⟩
def arVals (zs : List Int) (n : Nat) : List Val := (List.range n).map (arNum zs)

theorem arVals_len (zs : List Int) (n : Nat) : (arVals zs n).length = n := by simp [arVals]
theorem arVals_at (zs : List Int) (n j : Nat) (h : j < n) : (arVals zs n)[j]? = some (arNum zs j) := by
  simp [arVals, List.getElem?_map, List.getElem?_range h]
theorem arVals_succ (zs : List Int) (n : Nat) : arVals zs (n + 1) = arVals zs n ++ [arNum zs n] := by
  simp [arVals, List.range_succ]

theorem tmod_hund (z : Int) : -99999 ≤ z.tmod 100000 ∧ z.tmod 100000 ≤ 99999 := by
  rcases Int.le_total 0 z with h | h
  · rw [Int.tmod_eq_emod_of_nonneg h]; omega
  · obtain ⟨y, rfl⟩ : ∃ y, z = -y := ⟨-z, by omega⟩
    rw [Int.neg_tmod, Int.tmod_eq_emod_of_nonneg (by omega)]; omega

theorem ar_there (vals : List Val) : (arH vals).there 0 = true := rfl
theorem ar_plain (vals : List Val) (s : ByteArray) : plainS (arH vals) ⟨5, 0, s⟩ = ⟨5, 0, ⟨#[]⟩⟩ := by
  unfold plainS
  dsimp only
  rw [if_neg (by decide), if_neg (by decide), if_neg (by decide), if_neg (by decide), if_pos ⟨rfl, ar_there vals⟩]
theorem ar_num (H : HM) (x : Int) (s : ByteArray) (h : -9007199254740991 ≤ x) (h2 : x ≤ 9007199254740991) : plainS H ⟨3, x, s⟩ = ⟨3, x, ⟨#[]⟩⟩ := by
  unfold plainS
  dsimp only
  rw [if_neg (by decide), if_neg (by decide), if_pos rfl, clampN_id h h2]

theorem ar_make : (⟨5000, 0, []⟩ : HM).make 2 (-1) = arH [] := rfl

theorem ar_push (zs : List Int) (n : Nat) (s : ByteArray) (h : n ≤ 200) : (arH (arVals zs n)).push 0 ⟨3, (zs.getD n 0).tmod 100000, s⟩ = (arH (arVals zs (n + 1)), (n : Int) + 1, 0) := by
  have ht := tmod_hund (zs.getD n 0)
  unfold HM.push
  rw [if_pos (ar_there _), show (arH (arVals zs n)).things[(0 : Int).toNat]? = some ⟨2, -1, [], arVals zs n⟩ from rfl]
  dsimp only
  rw [if_pos rfl, if_pos (show (arH (arVals zs n)).used < (arH (arVals zs n)).room by show ((arVals zs n).length : Int) + 1 < 5000; rw [arVals_len]; omega)]
  unfold HM.pushAt
  rw [ar_num _ _ _ (by omega) (by omega), show (⟨3, (zs.getD n 0).tmod 100000, ⟨#[]⟩⟩ : Val) = arNum zs n from rfl, ← arVals_succ, arVals_len]
  unfold arH
  rw [arVals_len, arVals_len]
  rfl

theorem ar_length (vals : List Val) (s : ByteArray) : (arH vals).get ⟨5, 0, s⟩ ⟨#[108, 101, 110, 103, 116, 104]⟩ 0 = (⟨3, vals.length, ⟨#[]⟩⟩, ⟨#[]⟩, 0) := by
  have ho : (⟨2, -1, [], vals⟩ : Thing).own ⟨#[108, 101, 110, 103, 116, 104]⟩ = some ⟨3, vals.length, ⟨#[]⟩⟩ := by
    unfold Thing.own
    rw [if_pos rfl, if_pos (by decide +kernel)]
  unfold HM.get
  rw [ar_plain]
  dsimp only
  rw [if_neg (by decide), if_neg (by decide), if_pos rfl, show ((0 : Int) + 1).toNat = 0 + 1 from rfl, HM.find, if_neg (by omega), show (arH vals).things[(0 : Int).toNat]? = some ⟨2, -1, [], vals⟩ from rfl]
  dsimp only
  rw [ho]
  rfl
theorem ar_refs (vals : List Val) (s : ByteArray) (key : ByteArray) : (plainS (arH vals) ⟨5, 0, s⟩).k = 4 → (key.toList == lengthS) = false := fun h => by
  rw [ar_plain] at h
  cases h

theorem atVal_in (zs : List Int) (n j : Nat) (h : j < n) : atVal (arVals zs n) j = arNum zs j := by
  unfold atVal
  rw [if_pos (by omega), Int.toNat_natCast, arVals_at zs n j h]
  rfl
theorem atVal_out (zs : List Int) (n : Nat) (m : Int) (h : m < 0 ∨ (n : Int) ≤ m) : atVal (arVals zs n) m = ⟨0, 0, ⟨#[]⟩⟩ := by
  unfold atVal
  rcases h with h | h
  · rw [if_neg (by omega)]
  · rw [if_pos (by omega), List.getElem?_eq_none (by rw [arVals_len]; omega)]
    rfl

/-! the calls -/
theorem ar_push_ours {w0 w : World} {hb : Nat} (zs : List Int) (n : Nat) (s : ByteArray) (x y : Int) (hx : x = (zs.getD n 0).tmod 100000) (hy : y = (n : Int) + 1) (h : n ≤ 200) (o : Ours w0 hb (arH (arVals zs n)) w) :
    Calls Tryd.prog 14 #[.pointer (some ⟨hb, 0, none⟩), .int .i64 0, .agg #[.int .i64 3, .int .i64 x, .string s]] w fun e w' => e = .returned (.tuple #[.int .i64 y, .int .i64 0]) ∧ Ours w0 hb (arH (arVals zs (n + 1))) w' := by
  subst hx hy
  obtain ⟨tvs, own, o1, o2, o3⟩ := o
  refine (Push_any hb _ tvs own 0 ⟨3, (zs.getD n 0).tmod 100000, s⟩ w o1).mono ?_
  intro e w' hw
  have g := wrote_ours o2 o3 e w' hw
  rw [ar_push zs n s h] at g
  exact g

theorem ar_at_ours {w0 w : World} {hb : Nat} (vals : List Val) (s s2 : ByteArray) (m : Int) (r : Val) (hr : r = atVal vals m) (h1 : -1 ≤ m) (h2 : m ≤ 1000) (o : Ours w0 hb (arH vals) w) :
    Calls Tryd.prog 15 #[.pointer (some ⟨hb, 0, none⟩), .agg #[.int .i64 5, .int .i64 0, .string s], .agg #[.int .i64 3, .int .i64 m, .string s2]] w fun e w' => e = .returned (.tuple #[.agg #[.int .i64 (r).k, .int .i64 (r).n, .string (r).s], .string ⟨#[]⟩, .int .i64 0]) ∧ Ours w0 hb (arH vals) w' ∧ Up w w' := by
  subst hr
  obtain ⟨tvs, own, o1, o2, o3⟩ := o
  obtain ⟨h0, tv, t, hth, htv, hti⟩ := there_get (.some hb _ _ _ o1) (ar_there vals)
  obtain rfl : t = ⟨2, -1, [], vals⟩ := Option.some.inj (hth.symm.trans rfl)
  cases hti with
  | arr _ b av hb' hc hr =>
    have htv2 : tvs[0]? = some (.iface 51 (.pointer (some ⟨b, 0, none⟩))) := htv
    have ha : arrOf (arH vals) tvs 5 0 = .pointer (some ⟨b, 0, none⟩) := by simp [arrOf, ar_there, List.getD, htv2]
    refine (At_in _ _ tvs own 0 m s s2 w (.some hb _ _ _ o1) b vals htv hth (ar_plain vals s) (ar_num _ _ _ (by omega) (by omega)) ha).mono ?_
    rintro e w' ⟨rfl, k⟩
    exact ⟨rfl, ⟨tvs, own, o1.up k, o2.trans k, o3⟩, k⟩
  | obj k' p l b mv kv hk' hp hpi hb' hc hm hr hn => omega

theorem ar_length_ours {w0 w : World} {hb : Nat} (vals : List Val) (s : ByteArray) (n : Int) (hn : n = (vals.length : Int)) (o : Ours w0 hb (arH vals) w) :
    Calls Tryd.prog 12 #[.pointer (some ⟨hb, 0, none⟩), .agg #[.int .i64 5, .int .i64 0, .string s], .string ⟨#[108, 101, 110, 103, 116, 104]⟩] w fun e w' => e = .returned (.tuple #[.agg #[.int .i64 3, .int .i64 n, .string ⟨#[]⟩], .string ⟨#[]⟩, .int .i64 0]) ∧ Ours w0 hb (arH vals) w' := by
  subst hn
  refine (Get_ours 5 0 s _ o (ar_refs vals s _)).mono ?_
  rintro e w' ⟨rfl, o2⟩
  rw [ar_length]
  exact ⟨rfl, o2⟩

theorem ar_len_ours {w0 w : World} {hb : Nat} (vals : List Val) (n : Int) (hn : n = (vals.length : Int)) (o : Ours w0 hb (arH vals) w) :
    Calls Tryd.prog 16 #[.pointer (some ⟨hb, 0, none⟩), .int .i64 0] w fun e w' => e = .returned (.int .i64 n) ∧ Ours w0 hb (arH vals) w' := by
  subst hn
  obtain ⟨tvs, own, o1, o2, o3⟩ := o
  refine (Len_any _ _ tvs own 0 w (.some hb _ _ _ o1)).mono ?_
  rintro e w' ⟨rfl, k⟩
  have hl : (arH vals).lenOf 0 = (vals.length : Int) := by
    unfold HM.lenOf
    rw [if_pos (ar_there vals)]
    rfl
  rw [hl]
  exact ⟨rfl, tvs, own, o1.up k, o2.trans k, o3⟩

end Go.Proofs.YtmbipadiaggolaaDoor
