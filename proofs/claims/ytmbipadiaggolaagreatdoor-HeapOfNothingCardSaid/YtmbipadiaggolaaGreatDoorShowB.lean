import Derived.Test.YtmbipadiaggolaaGreatDoorShowA
import Derived.Test.YtmbipadiaggolaaGreatDoorShelf
import Derived.Lib.SmallJoins
/- Walks: a value as text (package value). -/
namespace Go.Proofs.YtmbipadiaggolaaGreatDoor
open Go.RowKit
set_option linter.unusedSimpArgs false

theorem vtruth (b : Bool) (w : World) : Calls Tryz.prog 84 #[.bool b] w fun e w' => e = .returned (.agg #[.int .i64 2, .int .i64 (if b then 1 else 0), .string ⟨#[]⟩]) ∧ Up w w' := by
  cases b
  all_goals
    go_enter Tryz.func84, Tryz.ntmps84
    go_wp2
    refine bodyPost_eq (by (simp [results, Tryz.results84, go_sem, *]) <;> rfl) rfl rfl ⟨rfl, (by repeat (first | with_reducible exact Up.refl _ | with_reducible assumption | with_reducible refine Up.drewN ?_ _ | with_reducible refine Up.drew ?_ | with_reducible refine Up.alloc ?_ _ | with_reducible refine Up.setCell ?_ (by first | omega | (simp; done) | (simp; omega)) _ | with_reducible refine Up.trans ?_ (by assumption)))⟩

theorem vnumber (n : Int) (w : World) : Calls Tryz.prog 85 #[.int .i64 n] w fun e w' => e = .returned (.agg #[.int .i64 3, .int .i64 n, .string ⟨#[]⟩]) ∧ Up w w' := by
  go_enter Tryz.func85, Tryz.ntmps85
  go_wp2
  refine bodyPost_eq (by (simp [results, Tryz.results85, go_sem, *]) <;> rfl) rfl rfl ⟨rfl, (by repeat (first | with_reducible exact Up.refl _ | with_reducible assumption | with_reducible refine Up.drewN ?_ _ | with_reducible refine Up.drew ?_ | with_reducible refine Up.alloc ?_ _ | with_reducible refine Up.setCell ?_ (by first | omega | (simp; done) | (simp; omega)) _ | with_reducible refine Up.trans ?_ (by assumption)))⟩

/-- a value as package value counts it -/
def plainV (x : Val) : Val :=
  if x.k = 1 then ⟨1, 0, ⟨#[]⟩⟩
  else if x.k = 2 then ⟨2, if x.n = 0 then 0 else 1, ⟨#[]⟩⟩
  else if x.k = 3 then ⟨3, clampN x.n, ⟨#[]⟩⟩
  else if x.k = 4 then ⟨4, 0, x.s⟩
  else if x.k = 5 then ⟨5, x.n, ⟨#[]⟩⟩
  else ⟨0, 0, ⟨#[]⟩⟩

set_option maxHeartbeats 800000 in
theorem vplain (k n : Int) (s : ByteArray) (w : World) :
    Calls Tryz.prog 71 #[.agg #[.int .i64 k, .int .i64 n, .string s]] w fun e w' => e = .returned (.agg #[.int .i64 (plainV ⟨k, n, s⟩).k, .int .i64 (plainV ⟨k, n, s⟩).n, .string (plainV ⟨k, n, s⟩).s]) ∧ Up w w' := by
  go_enter Tryz.func71, Tryz.ntmps71
  go_wp2_with (first | (go_at_call 84; refine (vtruth _ _).mono ?_; rintro e w' ⟨rfl, hu⟩; have hd := hu.get (Up.get (by repeat (first | with_reducible exact Up.refl _ | with_reducible assumption | with_reducible refine Up.drewN ?_ _ | with_reducible refine Up.drew ?_ | with_reducible refine Up.alloc ?_ _ | with_reducible refine Up.setCell ?_ (by first | omega | (simp; done) | (simp; omega)) _ | with_reducible refine Up.trans ?_ (by assumption))) (alloc_get w _)); have a0 := cell_of hd 0; have a1 := cell_of hd 1; have a2 := cell_of hd 2; have f0 := ice_of hd 0; have f1 := ice_of hd 1; have f2 := ice_of hd 2; have a4 := lt_of_heap hd; (try simp only [World.size_alloc, List.getElem?_toArray, List.getElem?_cons_zero, List.getElem?_cons_succ] at a0 a1 a2 f0 f1 f2 a4); clear hd; have hd := hu.get (Up.get (by repeat (first | with_reducible exact Up.refl _ | with_reducible assumption | with_reducible refine Up.drewN ?_ _ | with_reducible refine Up.drew ?_ | with_reducible refine Up.alloc ?_ _ | with_reducible refine Up.setCell ?_ (by first | omega | (simp; done) | (simp; omega)) _ | with_reducible refine Up.trans ?_ (by assumption))) (alloc_get (w.alloc _) _)); have a0 := cell_of hd 0; have a1 := cell_of hd 1; have a2 := cell_of hd 2; have f0 := ice_of hd 0; have f1 := ice_of hd 1; have f2 := ice_of hd 2; have a4 := lt_of_heap hd; (try simp only [World.size_alloc, List.getElem?_toArray, List.getElem?_cons_zero, List.getElem?_cons_succ] at a0 a1 a2 f0 f1 f2 a4); clear hd) | (go_at_call 85; refine (vnumber _ _).mono ?_; rintro e w' ⟨rfl, hu⟩; have hd := hu.get (Up.get (by repeat (first | with_reducible exact Up.refl _ | with_reducible assumption | with_reducible refine Up.drewN ?_ _ | with_reducible refine Up.drew ?_ | with_reducible refine Up.alloc ?_ _ | with_reducible refine Up.setCell ?_ (by first | omega | (simp; done) | (simp; omega)) _ | with_reducible refine Up.trans ?_ (by assumption))) (alloc_get w _)); have a0 := cell_of hd 0; have a1 := cell_of hd 1; have a2 := cell_of hd 2; have f0 := ice_of hd 0; have f1 := ice_of hd 1; have f2 := ice_of hd 2; have a4 := lt_of_heap hd; (try simp only [World.size_alloc, List.getElem?_toArray, List.getElem?_cons_zero, List.getElem?_cons_succ] at a0 a1 a2 f0 f1 f2 a4); clear hd; have hd := hu.get (Up.get (by repeat (first | with_reducible exact Up.refl _ | with_reducible assumption | with_reducible refine Up.drewN ?_ _ | with_reducible refine Up.drew ?_ | with_reducible refine Up.alloc ?_ _ | with_reducible refine Up.setCell ?_ (by first | omega | (simp; done) | (simp; omega)) _ | with_reducible refine Up.trans ?_ (by assumption))) (alloc_get (w.alloc _) _)); have a0 := cell_of hd 0; have a1 := cell_of hd 1; have a2 := cell_of hd 2; have f0 := ice_of hd 0; have f1 := ice_of hd 1; have f2 := ice_of hd 2; have a4 := lt_of_heap hd; (try simp only [World.size_alloc, List.getElem?_toArray, List.getElem?_cons_zero, List.getElem?_cons_succ] at a0 a1 a2 f0 f1 f2 a4); clear hd))
  all_goals (refine bodyPost_eq (by (simp [results, Tryz.results71, go_sem, *]) <;> rfl) rfl ?_ ⟨rfl, (by repeat (first | with_reducible exact Up.refl _ | with_reducible assumption | with_reducible refine Up.drewN ?_ _ | with_reducible refine Up.drew ?_ | with_reducible refine Up.alloc ?_ _ | with_reducible refine Up.setCell ?_ (by first | omega | (simp; done) | (simp; omega)) _ | with_reducible refine Up.trans ?_ (by assumption)))⟩)
  all_goals (go_light; simp_all [plainV, clampN]; try (repeat' split))
  all_goals omega

theorem vbool (b : Bool) (w : World) : Calls Tryz.prog 72 #[.bool b] w fun e w' => e = .returned (.string (if b = true then ⟨#[116, 114, 117, 101]⟩ else ⟨#[102, 97, 108, 115, 101]⟩)) ∧ w' = w := by
  cases b
  all_goals
    go_enter Tryz.func72, Tryz.ntmps72
    go_wp2
    go_ret
    exact ⟨rfl, rfl⟩

/-- the table of strconv -/
def Tab (w : World) : Prop := Lib.TabIs Tryz.prog w "internal/strconv.uint64pow10" .u64 Lib.pow10Tab

def nullS : ByteArray := ⟨#[110, 117, 108, 108]⟩
def trueS : ByteArray := ⟨#[116, 114, 117, 101]⟩
def falseS : ByteArray := ⟨#[102, 97, 108, 115, 101]⟩
def undefS : ByteArray := ⟨#[117, 110, 100, 101, 102, 105, 110, 101, 100]⟩
/-- a value as text -/
def textOf (x : Val) : ByteArray :=
  if (plainV x).k = 1 then nullS
  else if (plainV x).k = 2 then (if (plainV x).n = 0 then falseS else trueS)
  else if (plainV x).k = 3 then ⟨(Lib.itoa (plainV x).n).toArray⟩
  else if (plainV x).k = 4 then (plainV x).s
  else if (plainV x).k = 5 then ⟨#[]⟩
  else undefS

theorem plainV_kinds (x : Val) : (plainV x).k = 0 ∨ (plainV x).k = 1 ∨ (plainV x).k = 2 ∨ (plainV x).k = 3 ∨ (plainV x).k = 4 ∨ (plainV x).k = 5 := by
  unfold plainV
  split
  · simp
  · split
    · simp
    · split
      · simp
      · split
        · simp
        · split <;> simp

theorem plainV_num {x : Val} (h : (plainV x).k = 3) : x.k = 3 ∧ (plainV x).n = clampN x.n := by
  unfold plainV at h ⊢
  split at h
  · simp at h
  · split at h
    · simp at h
    · split at h
      · rename_i h1 h2 h3
        refine ⟨h3, ?_⟩
        rw [if_neg h1, if_neg h2, if_pos h3]
      · split at h
        · simp at h
        · split at h <;> simp at h
theorem clampN_le (n : Int) : -9007199254740991 ≤ clampN n ∧ clampN n ≤ 9007199254740991 := by
  unfold clampN
  split
  · omega
  · split <;> omega
theorem clampN_id {n : Int} (h : -9007199254740991 ≤ n) (h' : n ≤ 9007199254740991) : clampN n = n := by
  unfold clampN
  rw [if_neg (by omega), if_neg (by omega)]

theorem tabNamed : (Tryz.prog.globalNamed "internal/strconv.uint64pow10").isSome = true := by kernel_rfl
theorem Tab.up {w w' : World} (h : Tab w) (hu : Up w w') : Tab w' := by
  obtain ⟨g, hg⟩ := Option.isSome_iff_exists.1 tabNamed
  exact Joins.tab_stays hg h hu (Nat.le_refl _)
theorem Up.grow (w : World) (k : Nat) (os : Array Obj) : Up w (Go.Sort.grow (w.drewN k) os) :=
  ⟨rfl, rfl, rfl, by simp [Go.Sort.grow, World.drewN], fun b hb => by
    show (w.heap ++ os)[b]? = _
    rw [Array.getElem?_append_left hb]⟩

theorem itoa_any (n : Int) (h0 : -9007199254740991 ≤ n) (h1 : n ≤ 9007199254740991) (w : World) (ht : (0 ≤ n ∧ n < 100) ∨ Tab w) :
    Calls Tryz.prog 73 #[.int .i64 n] w fun e w' => e = .returned (.string ⟨(Lib.itoa n).toArray⟩) ∧ Up w w' := by
  rcases ht with ⟨h2, h3⟩ | ht
  · obtain ⟨k, rfl⟩ := Int.eq_ofNat_of_zero_le h2
    refine (Tryz.strconv_Itoa_small k (by omega) w).mono ?_
    rintro e w' ⟨rfl, rfl⟩
    refine ⟨?_, Up.refl _⟩
    unfold Lib.itoa
    rw [if_neg (by omega), Int.toNat_natCast]
  · refine (Tryz.strconv_Itoa n (by omega) (by omega) w ht).mono ?_
    rintro e w' ⟨rfl, k, os, rfl⟩
    exact ⟨rfl, Up.grow _ _ _⟩

set_option maxHeartbeats 1600000 in
theorem vtext (k n : Int) (s : ByteArray) (w : World) (ht : k = 3 → (0 ≤ n ∧ n < 100) ∨ Tab w) :
    Calls Tryz.prog 58 #[.agg #[.int .i64 k, .int .i64 n, .string s]] w fun e w' => e = .returned (.string (textOf ⟨k, n, s⟩)) ∧ Up w w' := by
  have hk := plainV_kinds ⟨k, n, s⟩
  have hn := @plainV_num ⟨k, n, s⟩
  unfold textOf
  rcases e : plainV ⟨k, n, s⟩ with ⟨pk, pn, ps⟩
  simp only [e] at hk hn
  have HP := Lib.hid e
  have HN := Lib.hid hn
  have HT := Lib.hid ht
  clear e hn ht
  rcases hk with rfl | rfl | rfl | rfl | rfl | rfl
  all_goals
    go_enter Tryz.func58, Tryz.ntmps58
    go_wp2_with (first | (go_at_call 71; refine (vplain _ _ _ _).mono ?_; rintro e w' ⟨rfl, hu⟩; simp only [HP.out]; have hd := hu.get (Up.get (by repeat (first | with_reducible exact Up.refl _ | with_reducible assumption | with_reducible refine Up.drewN ?_ _ | with_reducible refine Up.drew ?_ | with_reducible refine Up.alloc ?_ _ | with_reducible refine Up.setCell ?_ (by first | omega | (simp; done) | (simp; omega)) _ | with_reducible refine Up.trans ?_ (by assumption))) (alloc_get w _)); have a0 := cell_of hd 0; have a1 := cell_of hd 1; have a2 := cell_of hd 2; have f0 := ice_of hd 0; have f1 := ice_of hd 1; have f2 := ice_of hd 2; have a4 := lt_of_heap hd; (try simp only [World.size_alloc, List.getElem?_toArray, List.getElem?_cons_zero, List.getElem?_cons_succ] at a0 a1 a2 f0 f1 f2 a4); clear hd) | (go_at_call 72; refine (vbool _ _).mono ?_; rintro e w2 ⟨rfl, rfl⟩) | (go_at_call 73; refine (itoa_any _ (by have := (HN.out rfl).2; have := clampN_le n; omega) (by have := (HN.out rfl).2; have := clampN_le n; omega) _ ?_).mono ?_; (rcases HT.out (HN.out rfl).1 with h | h; (left; rw [(HN.out rfl).2, clampN_id (by omega) (by omega)]; exact h); exact .inr (h.up (by repeat (first | with_reducible exact Up.refl _ | with_reducible assumption | with_reducible refine Up.drewN ?_ _ | with_reducible refine Up.drew ?_ | with_reducible refine Up.alloc ?_ _ | with_reducible refine Up.setCell ?_ (by first | omega | (simp; done) | (simp; omega)) _ | with_reducible refine Up.trans ?_ (by assumption))))); rintro e w2 ⟨rfl, hu2⟩))
    all_goals (refine bodyPost_eq (by (simp [results, Tryz.results58, go_sem, *]) <;> rfl) rfl rfl ⟨rfl, (by repeat (first | with_reducible exact Up.refl _ | with_reducible assumption | with_reducible refine Up.drewN ?_ _ | with_reducible refine Up.drew ?_ | with_reducible refine Up.alloc ?_ _ | with_reducible refine Up.setCell ?_ (by first | omega | (simp; done) | (simp; omega)) _ | with_reducible refine Up.trans ?_ (by assumption)))⟩)

end Go.Proofs.YtmbipadiaggolaaGreatDoor
