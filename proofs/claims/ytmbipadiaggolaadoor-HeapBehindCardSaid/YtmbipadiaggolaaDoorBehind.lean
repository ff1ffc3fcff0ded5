import Derived.Test.YtmbipadiaggolaaDoorBehindP
/- Walk: HeapBehind. -/
namespace Go.Proofs.YtmbipadiaggolaaDoor
open Go.RowKit
set_option linter.unusedSimpArgs false
attribute [local go_sem] ta_aa ta_ao ta_an ta_oa ta_oo ta_on m_kind_a m_kind_o m_behind_a m_behind_o m_own_a m_own_o

theorem chain_make_ours {w0 w : World} {hb : Nat} (key : ByteArray) (n : Nat) (h : n < 5000) (p : Int) (hp : p = (n : Int) - 1) (o : Ours w0 hb (chain key n 0) w) :
    Calls Tryd.prog 10 #[.pointer (some ⟨hb, 0, none⟩), .int .i64 1, .int .i64 p] w fun e w' => e = .returned (.tuple #[.int .i64 n, .int .i64 0]) ∧ Ours w0 hb (chain key (n + 1) 0) w' := by
  subst hp
  refine (Make_ours 1 _ o).mono ?_
  rintro e w' ⟨rfl, o2⟩
  rw [chain_make key n h] at o2
  have hr : (chain key n 0).used < (chain key n 0).room := by show ((n : Int) + ((0 : Nat) : Int)) < 5000; omega
  rw [if_pos hr, if_pos hr, chain_len]
  exact ⟨rfl, o2⟩

theorem chain_set_ours {w0 w : World} {hb : Nat} (key s xs : ByteArray) (n i : Nat) (hn : n ≤ 60) (hi : i < n) (hs : xs = ⟨#[]⟩) (o : Ours w0 hb (chain key n i) w) :
    Calls Tryd.prog 11 #[.pointer (some ⟨hb, 0, none⟩), .agg #[.int .i64 5, .int .i64 i, .string s], .string key, .agg #[.int .i64 3, .int .i64 i, .string xs]] w fun e w' => e = .returned (.tuple #[.string ⟨#[]⟩, .int .i64 0]) ∧ Ours w0 hb (chain key n (i + 1)) w' := by
  subst hs
  refine (Set_ours 5 i s key 3 i ⟨#[]⟩ o).mono ?_
  rintro e w' ⟨rfl, o2⟩
  rw [chain_set key n i hn hi] at o2 ⊢
  exact ⟨rfl, o2⟩

theorem chain_get_ours {w0 w : World} {hb : Nat} (key s : ByteArray) (n i k : Nat) (h0 : 0 < i) (hk : k < n) (hs : s = ⟨#[]⟩) (m : Int) (hm : m = ((min (i - 1) k : Nat) : Int)) (o : Ours w0 hb (chain key n i) w) :
    Calls Tryd.prog 12 #[.pointer (some ⟨hb, 0, none⟩), .agg #[.int .i64 5, .int .i64 k, .string s], .string key] w fun e w' => e = .returned (.tuple #[.agg #[.int .i64 3, .int .i64 m, .string ⟨#[]⟩], .string ⟨#[]⟩, .int .i64 0]) ∧ Ours w0 hb (chain key n i) w' := by
  subst hs hm
  refine (Get_ours 5 k ⟨#[]⟩ key o (chain_refs key n i k hk)).mono ?_
  rintro e w' ⟨rfl, o2⟩
  rw [chain_get key n i k h0 hk]
  exact ⟨rfl, o2⟩

theorem chain_nil (key : ByteArray) : (⟨5000, 0, []⟩ : HM) = chain key 0 0 := rfl

set_option maxRecDepth 100000 in
set_option maxHeartbeats 4000000 in
theorem behind_any (n : Int) (key : ByteArray) (w : World) (hs : key.size ≤ 9223372036854775807) :
    Calls Tryd.prog 4 #[.int .i64 n, .string key] w fun e w' => e = .returned (.bool true) ∧ Up w w' := by
  by_cases hin : n < 1 ∨ 60 < n ∨ 100 < key.size
  · go_enter Tryd.func4, Tryd.ntmps4
    rcases hin with h | h | h
    · go_wp2_with (first | (go_at_call 8; refine (New_good 5000 _ (by omega) (by omega)).mono ?_; rintro e w1 ⟨rfl, rfl⟩) | (go_at_call 7; refine (known_any _).mono ?_; rintro e w1 ⟨rfl, hu⟩))
      go_ret
      exact ⟨rfl, (by repeat (first | with_reducible exact Up.refl _ | with_reducible assumption | with_reducible refine Up.drewN ?_ _ | with_reducible refine Up.drew ?_ | with_reducible refine Up.alloc ?_ _ | with_reducible refine Up.setCell ?_ (by first | omega | (simp; done) | (simp; omega)) _ | with_reducible refine Up.trans ?_ (by assumption)))⟩
    · have h' : ¬ n < 1 := by omega
      go_wp2_with (first | (go_at_call 8; refine (New_good 5000 _ (by omega) (by omega)).mono ?_; rintro e w1 ⟨rfl, rfl⟩) | (go_at_call 7; refine (known_any _).mono ?_; rintro e w1 ⟨rfl, hu⟩))
      go_ret
      exact ⟨rfl, (by repeat (first | with_reducible exact Up.refl _ | with_reducible assumption | with_reducible refine Up.drewN ?_ _ | with_reducible refine Up.drew ?_ | with_reducible refine Up.alloc ?_ _ | with_reducible refine Up.setCell ?_ (by first | omega | (simp; done) | (simp; omega)) _ | with_reducible refine Up.trans ?_ (by assumption)))⟩
    · by_cases h1 : n < 1
      · go_wp2_with (first | (go_at_call 8; refine (New_good 5000 _ (by omega) (by omega)).mono ?_; rintro e w1 ⟨rfl, rfl⟩) | (go_at_call 7; refine (known_any _).mono ?_; rintro e w1 ⟨rfl, hu⟩))
        go_ret
        exact ⟨rfl, (by repeat (first | with_reducible exact Up.refl _ | with_reducible assumption | with_reducible refine Up.drewN ?_ _ | with_reducible refine Up.drew ?_ | with_reducible refine Up.alloc ?_ _ | with_reducible refine Up.setCell ?_ (by first | omega | (simp; done) | (simp; omega)) _ | with_reducible refine Up.trans ?_ (by assumption)))⟩
      · by_cases h2 : 60 < n
        · go_wp2_with (first | (go_at_call 8; refine (New_good 5000 _ (by omega) (by omega)).mono ?_; rintro e w1 ⟨rfl, rfl⟩) | (go_at_call 7; refine (known_any _).mono ?_; rintro e w1 ⟨rfl, hu⟩))
          go_ret
          exact ⟨rfl, (by repeat (first | with_reducible exact Up.refl _ | with_reducible assumption | with_reducible refine Up.drewN ?_ _ | with_reducible refine Up.drew ?_ | with_reducible refine Up.alloc ?_ _ | with_reducible refine Up.setCell ?_ (by first | omega | (simp; done) | (simp; omega)) _ | with_reducible refine Up.trans ?_ (by assumption)))⟩
        · go_wp2_with (first | (go_at_call 8; refine (New_good 5000 _ (by omega) (by omega)).mono ?_; rintro e w1 ⟨rfl, rfl⟩) | (go_at_call 7; refine (known_any _).mono ?_; rintro e w1 ⟨rfl, hu⟩))
          go_ret
          exact ⟨rfl, (by repeat (first | with_reducible exact Up.refl _ | with_reducible assumption | with_reducible refine Up.drewN ?_ _ | with_reducible refine Up.drew ?_ | with_reducible refine Up.alloc ?_ _ | with_reducible refine Up.setCell ?_ (by first | omega | (simp; done) | (simp; omega)) _ | with_reducible refine Up.trans ?_ (by assumption)))⟩
  · have h1 : ¬ n < 1 := by omega
    have h2 : ¬ 60 < n := by omega
    have h3 : ¬ 100 < key.size := by omega
    obtain ⟨N, rfl⟩ := Int.eq_ofNat_of_zero_le (show 0 ≤ n by omega)
    have h4 : N ≤ 60 := by omega
    have h5 : 1 ≤ N := by omega
    clear hin
    go_enter Tryd.func4, Tryd.ntmps4
    go_wp2_with (first | (go_at_call 8; refine (New_good 5000 _ (by omega) (by omega)).mono ?_; rintro e w1 ⟨rfl, rfl⟩; have o1 := Ours.fresh 5000 (Up.refl w) (by omega) (by omega)))
    rw [chain_nil key] at o1
    go_loopw [7, 8] (fun up i wr => ∃ k : Nat, k ≤ N ∧ i = .int .i64 k ∧ up = .int .i64 ((k : Int) - 1) ∧ Ours w w.heap.size (chain key k 0) wr) (fun _ i _ => N - (intOf i).toNat)
    case atStart => exact ⟨0, Nat.zero_le _, rfl, rfl, o1⟩
    case round =>
      obtain ⟨k, hk, rfl, rfl, o2⟩ := hrel
      by_cases hlt : k < N
      · go_wp2_with (first | (go_at_call 10; refine (chain_make_ours key k (by omega) _ rfl o2).mono ?_; rintro e w2 ⟨rfl, o3⟩))
        go_roundw
        case rel => exact ⟨k + 1, by omega, by simp, by congr 1; omega, o3⟩
        case measure => simp [intOf]; omega
      · have hge : ¬ (k : Int) < N := by omega
        have o3 : Ours w w.heap.size (chain key N 0) wr := by
          have e : k = N := by omega
          subst e
          exact o2
        clear hlt o2 o1
        go_wp2_with fail
        go_loopw [9] (fun i wr => ∃ j : Nat, j ≤ N ∧ i = .int .i64 j ∧ Ours w w.heap.size (chain key N j) wr) (fun i _ => N - (intOf i).toNat)
        case atStart => exact ⟨0, Nat.zero_le _, rfl, o3⟩
        case round =>
          obtain ⟨j, hj, rfl, o4⟩ := hrel
          by_cases hlt : j < N
          · go_wp2_with (first | (go_at_call 11; refine (chain_set_ours key _ _ N j h4 hlt rfl o4).mono ?_; rintro e w2 ⟨rfl, o5⟩))
            go_loopw [10] (fun kk wr => ∃ k : Nat, k ≤ N ∧ kk = .int .i64 k ∧ Ours w w.heap.size (chain key N (j + 1)) wr) (fun kk _ => N - (intOf kk).toNat)
            case atStart => exact ⟨0, Nat.zero_le _, rfl, o5⟩
            case round =>
              obtain ⟨q, hq, rfl, o6⟩ := hrel
              by_cases hqt : q < N
              · obtain ⟨m, hm, hmb⟩ : ∃ m : Int, Hid (m = ((min (j + 1 - 1) q : Nat) : Int)) ∧ (m == min (j : Int) (q : Int)) = true := ⟨_, rfl, by rw [beq_iff_eq]; omega⟩
                go_wp2_with (first | (go_at_call 12; refine (chain_get_ours key _ N (j + 1) q (by omega) hqt rfl m hm.out o6).mono ?_; rintro e w3 ⟨rfl, o7⟩))
                go_roundw
                case rel => exact ⟨q + 1, by omega, by simp, o7.up (by repeat (first | with_reducible exact Up.refl _ | with_reducible assumption | with_reducible refine Up.drewN ?_ _ | with_reducible refine Up.drew ?_ | with_reducible refine Up.alloc ?_ _ | with_reducible refine Up.setCell ?_ (by first | omega | (simp; done) | (simp; omega)) _ | with_reducible refine Up.trans ?_ (by assumption)))⟩
                case measure => simp [intOf]; omega
              · have hge2 : ¬ (q : Int) < N := by omega
                go_wp2_with fail
                go_roundw
                case rel => exact ⟨j + 1, by omega, by simp, o6⟩
                case measure => simp [intOf]; omega
          · have hge2 : ¬ (j : Int) < N := by omega
            obtain ⟨u, o5, hub⟩ : ∃ u : Int, (∃ l, Ours w w.heap.size ⟨5000, u, l⟩ wr) ∧ (u == 2 * (N : Int)) = true := ⟨(N : Int) + (j : Int), ⟨_, o4⟩, by rw [beq_iff_eq]; omega⟩
            obtain ⟨l, o5⟩ := o5
            clear o4 hlt
            go_wp2_with (first | (go_at_call 9; refine (Used_ours o5).mono ?_; rintro e w5 ⟨rfl, rfl⟩; simp only) | (go_at_call 7; refine (known_any _).mono ?_; rintro e w1 ⟨rfl, hu⟩))
            go_ret
            exact ⟨rfl, o5.base.trans (by repeat (first | with_reducible exact Up.refl _ | with_reducible assumption | with_reducible refine Up.drewN ?_ _ | with_reducible refine Up.drew ?_ | with_reducible refine Up.alloc ?_ _ | with_reducible refine Up.setCell ?_ (by first | omega | (simp; done) | (simp; omega)) _ | with_reducible refine Up.trans ?_ (by assumption)))⟩

end Go.Proofs.YtmbipadiaggolaaDoor
