import Derived.Laws.IdiomStrings
import Derived.Test.YtmbipadiaggolaaGreatDoorM06
import Derived.Test.YtmbipadiaggolaaGreatDoorM14
/- YtmbipadiaggolaaGreatDoorM15: lemmas of the proof, in order: TextK, NoneR. -/
/- Walks: the document's Runes (shuckref1), Digits (shuckref8), Text (shuckref14). -/
namespace Go.Proofs.YtmbipadiaggolaaGreatDoor
open Go.RowKit
set_option linter.unusedSimpArgs false

abbrev RowR := Nat × Nat × Nat × Bool
def cellsR (x : RowR) : List Value := [.int .i64 x.1, .int .i32 x.2.1, .int .i64 x.2.2.1, .bool x.2.2.2]
theorem row_info : (Tryz.prog.info? 115).map (fun i => (i.zero, i.size, i.bytes)) = some (some (.agg #[.int .i64 0, .int .i32 0, .int .i64 0, .bool false]), 4, 32) := by kernel_rfl
theorem cellsR_at : ∀ (rows : List RowR) (j : Nat) (x : RowR), rows[j]? = some x → (rows.flatMap cellsR)[j * 4 + 1]? = some (.int .i32 x.2.1)
  | [], _, _, h => by simp at h
  | y :: r, 0, x, h => by
    simp at h
    subst h
    simp [cellsR]
  | y :: r, j + 1, x, h => by
    have := cellsR_at r j x (by simpa using h)
    rw [List.flatMap_cons, List.getElem?_append_right (by simp [cellsR]; omega)]
    rw [← this]
    congr 1
    simp [cellsR]
    omega

/-- the rows of a text's runes -/
def RunesAt (w : World) (v : Value) (l : List UInt8) : Prop := ∃ sa cap, v = .slice sa (runesOf l).length cap ∧ ∀ (j : Nat) (x : Nat × Nat), (runesOf l)[j]? = some x → ∃ g, sa = some ⟨g, 0, none⟩ ∧ w.cell? ⟨g, j * 4 + 1, none⟩ = some (.int .i32 x.2)

set_option maxRecDepth 100000 in
set_option maxHeartbeats 1600000 in
theorem r_runes (sa : Option Addr) (cap : Nat) (l : List UInt8) (w : World) (h : BytesAt w sa l) (hl : l.length ≤ 1000000) :
    Calls Tryz.prog 51 #[.slice sa l.length cap] w fun e w' => ∃ v, e = .returned v ∧ RunesAt w' v l ∧ Up w w' := by
  obtain ⟨i0, hi, hz0, hz1, hz2⟩ := info_parts row_info
  have HB := Lib.hid h
  clear h
  go_enter Tryz.func51, Tryz.ntmps51
  go_wp2_with fail
  go_loopw [3, 4] (fun v i wr => ∃ (a : Nat) (rows : List RowR) (ra : Option Addr) (rc : Nat), a ≤ l.length ∧ rows.length ≤ a ∧ i = .int .i64 a ∧ v = .slice ra rows.length rc ∧ rows.map (fun x => (x.1, x.2.1)) ++ restS l a = runesOf l ∧ wr.ownsRow 0 115 4 v rows.length (rows.flatMap cellsR) ∧ (∀ g, v.ownBlock = some g → w.heap.size ≤ g) ∧ Up w wr) (fun _ i _ => l.length - (intOf i).toNat)
  case atStart => exact ⟨0, [], none, 0, Nat.zero_le _, Nat.le_refl _, rfl, rfl, rfl, World.ownsRow_nil _ _ _ _, fun g hg => (by cases hg), uq⟩
  case round =>
    obtain ⟨a, rows, ra, rc, ha, hra, rfl, rfl, hrest, hown, hbig, hup⟩ := hrel
    by_cases hlt : a < l.length
    · obtain ⟨hr1, hr2, hr3⟩ := restS_at l a hlt
      have hD := fun W (h : BytesAt W sa l) => r_decode sa cap l a W h hlt
      obtain ⟨r, n, hrn⟩ : ∃ r n, decS (l.drop a) = (r, n) := ⟨_, _, rfl⟩
      rw [hrn] at hr1 hr2 hr3
      simp only [hrn] at hD
      dsimp only at hr1 hr2 hr3
      rw [hr1] at hrest
      have HD := Lib.hid hD
      have HO := Lib.hid (And.intro hown hbig)
      have HR := Lib.hid hrest
      clear hD hown hbig hrest hr1 hrn
      go_wp2_with (first | (go_at_call 65; refine (HD.out _ (HB.out.up uq)).mono ?_; rintro e w2 ⟨⟨g, rfl⟩, hu⟩) | (at_builtin; go_must (refine wpList_append_new rfl _ _ 107 rfl 115 i0 (.agg #[.int .i64 0, .int .i32 0, .int .i64 0, .bool false]) 4 32 Tryz.underlying107 hi hz0 hz1 hz2 rfl (by decide) (.slice ra rows.length rc) rows.length (rows.flatMap cellsR) rfl ?_ _ 1 1 rfl ?_ rfl ?_ ?_ ?_ ?_; exact ownsRow_up HO.out.1 uq; (simp only [World.size_alloc]); simp [Value.oneCell']; (unfold maxLen; omega); omega; intro sa' cap' w3 hown' hgrow hblk; have s0 := grown_get hgrow (alloc_keep (alloc_get w2 _)) (fun e => by have := ownBlock_lt HO.out.1 e; have := hu.size; omega); have a0 := cell_of s0 0; have a1 := cell_of s0 1; have a2 := cell_of s0 2; have f0 := ice_of s0 0; have f1 := ice_of s0 1; have f2 := ice_of s0 2; have a4 := lt_of_heap s0; (try simp only [World.size_alloc, List.getElem?_toArray, List.getElem?_cons_zero, List.getElem?_cons_succ] at a0 a1 a2 f0 f1 f2 a4); clear s0)))
      have HG := Lib.hid (And.intro hown' (And.intro hgrow hblk))
      clear hown' hgrow hblk
      go_wp2_with fail
      go_roundw
      case rel =>
        obtain ⟨hown', hgrow, hblk⟩ := HG.out
        have hup3 : Up w w3 := by
          refine Up.grown (W := _) ?_ hgrow (fun r e => HO.out.2 r e)
          exact ((hup.trans hu).alloc _).alloc _
        refine ⟨a + n, rows ++ [(a, r, n, g)], sa', cap', hr3, by simp; omega, by congr 1, by congr 1; simp, by rw [← HR.out]; simp, by simpa [cellsR] using hown', fun g' hg' => ?_, hup3⟩
        rcases hblk with hb | ⟨g2, hb, hb2⟩
        · exact HO.out.2 g' (by rw [← hb]; simpa using hg')
        · have e : g' = g2 := by
            have h5 : (Value.slice sa' (rows.length + 1) cap').ownBlock = some g' := by simpa using hg'
            rw [hb] at h5
            cases h5
            rfl
          have := hup.size; have := hu.size
          simp only [World.size_alloc] at hb2
          omega
      case measure => simp [intOf]; omega
    · obtain rfl : a = l.length := by omega
      rw [restS_end _ _ (Nat.le_refl _), List.append_nil] at hrest
      have hlen : rows.length = (runesOf l).length := by rw [← hrest]; simp
      have HR := Lib.hid (And.intro hrest hlen)
      clear hrest hlen
      go_wp2_with fail
      refine bodyPost_ret (v := .slice ra rows.length rc) (by simp [results, Tryz.results51, go_sem, *]) rfl ⟨_, rfl, ⟨ra, rc, by rw [HR.out.2], fun j x hj => ?_⟩, hup⟩
      have hj2 := hj
      rw [← HR.out.1] at hj2
      rw [List.getElem?_map] at hj2
      cases hx : rows[j]? with
      | none => rw [hx] at hj2; simp at hj2
      | some y =>
        rw [hx] at hj2
        simp only [Option.map_some, Option.some.injEq] at hj2
        subst hj2
        have hc := cellsR_at rows j y hx
        rcases hown.2 with ⟨h2, h0⟩ | ⟨g, cap', cur, hv, hg, hcc, r⟩
        · exfalso
          have h3 : rows = [] := List.eq_nil_of_length_eq_zero h0
          rw [h3] at hx
          simp at hx
        · injection hv with h1 h2 h3
          subst h1
          refine ⟨g, rfl, ?_⟩
          have := hown.cells (g := g) rfl (j * 4 + 1) _ hc
          rw [Addr.add_lit, Nat.zero_add] at this
          exact this

/-! numbers as digits -/
theorem conv_one (X : World) (b : Nat) (x : Nat) (hx : x < 256) (h : X.cell? ⟨b, 0, none⟩ = some (.int .u8 x)) : (convert 70 9 (.slice (some ⟨b, 0, none⟩) 1 1)).run Tryz.prog X = .ok (.string ⟨#[UInt8.ofNat x]⟩) X := by
  have := conv_bs b 1 [UInt8.ofNat x] X ⟨by simp, fun k hk => by
    obtain rfl : k = 0 := by simpa using hk
    refine ⟨b, 0, rfl, ?_⟩
    rw [Nat.zero_add, h]
    simp
    omega⟩
  simpa using this

set_option maxRecDepth 100000 in
set_option maxHeartbeats 1600000 in
theorem r_natural (u : Nat) (hu : u ≤ 9007199254740992) (w : World) :
    Calls Tryz.prog 88 #[.int .u64 u] w fun e w' => e = .returned (.string ⟨(Lib.decDigits u).toArray⟩) ∧ Up w w' := by
  go_enter Tryz.func88, Tryz.ntmps88
  go_wp2_with fail
  go_loopw [0, 3] (fun v s wr => ∃ (n : Nat) (acc : ByteArray), v = .int .u64 n ∧ s = .string acc ∧ Hid (Lib.decDigits n ++ acc.data.toList = Lib.decDigits u) ∧ acc.size + n ≤ u ∧ Up w wr) (fun v _ _ => (intOf v).toNat)
  case atStart => exact ⟨u, ⟨#[]⟩, rfl, rfl, by unfold Hid; exact List.append_nil _, by show 0 + u ≤ u; omega, uq⟩
  case round =>
    obtain ⟨n, acc, rfl, rfl, hdig, hsz, hup⟩ := hrel
    obtain ⟨d, hd⟩ : ∃ d, Hid (UInt8.ofNat (48 + n % 10) = d) := ⟨_, rfl⟩
    have kc := conv_one (wr.alloc (.cells #[.int .u8 (48 + (n : Int) % 10)] 5)) wr.heap.size (48 + n % 10) (by omega) (by rw [cell_of (alloc_get wr _) 0]; simp)
    rw [hd.out] at kc
    by_cases h10 : n < 10
    · have hq : (n : Int) / 10 = 0 := by omega
      have hq2 : ((n : Int) / 10 == 0) = true := by simpa using hq
      have hres : Hid (Lib.decDigits u = [d] ++ acc.data.toList) := by
        unfold Hid
        rw [← hdig.out, Lib.decDigits_one h10, ← hd.out, Nat.mod_eq_of_lt h10]
      clear hq h10
      go_wp2_with fail
      refine bodyPost_ret (v := .string (⟨#[d]⟩ ++ acc)) (by simp [results, Tryz.results88, go_sem, *]) rfl ⟨?_, uq⟩
      rw [hres.out]
      congr 2
    · have hq2 : ((n : Int) / 10 == 0) = false := by simp; omega
      have hres : Hid (Lib.decDigits (n / 10) ++ ((⟨#[d]⟩ ++ acc : ByteArray)).data.toList = Lib.decDigits u) := by
        unfold Hid
        have e : Lib.decDigits n = Lib.decDigits (n / 10) ++ [UInt8.ofNat (48 + n % 10)] := by rw [Lib.decDigits, dif_neg h10]
        rw [← hdig.out, e, ← hd.out]
        simp
      have h10i : ¬ (n : Int) < 10 := by omega
      clear h10
      go_wp2_with fail
      go_roundw
      case rel => exact ⟨n / 10, ⟨#[d]⟩ ++ acc, by congr 1, rfl, hres, by have h1 : (⟨#[d]⟩ : ByteArray).size = 1 := rfl; rw [ByteArray.size_append]; omega, uq⟩
      case measure => simp [intOf]; omega

theorem digits_len : ∀ (f u : Nat), u ≤ f → (Lib.decDigits u).length ≤ u + 1 := by
  intro f
  induction f with
  | zero => intro u h; obtain rfl : u = 0 := by omega
            rw [Lib.decDigits_one (by omega)]; simp
  | succ f ih =>
    intro u h
    by_cases h10 : u < 10
    · rw [Lib.decDigits_one h10]; simp
    · rw [Lib.decDigits, dif_neg h10]
      have := ih (u / 10) (by omega)
      simp only [List.length_append, List.length_cons, List.length_nil]
      omega

set_option maxRecDepth 100000 in
theorem r_digits (n : Int) (h0 : -9007199254740991 ≤ n) (h1 : n ≤ 9007199254740991) (w : World) :
    Calls Tryz.prog 77 #[.int .i64 n] w fun e w' => e = .returned (.string ⟨(Lib.itoa n).toArray⟩) ∧ Up w w' := by
  by_cases hn : n < 0
  · obtain ⟨u, hu, hu2⟩ : ∃ u : Nat, Hid (u = n.natAbs) ∧ -(n + 1) + 1 = (u : Int) := ⟨_, rfl, by omega⟩
    have hi : Hid (Lib.itoa n = 45 :: Lib.decDigits u) := by unfold Hid Lib.itoa; rw [if_pos hn, hu.out]
    have hun : u ≤ 9007199254740992 := by have := hu.out; omega
    rw [hi.out]
    have hlen : ¬ 9223372036854775807 < 1 + (Lib.decDigits u).length := by have := digits_len u u (Nat.le_refl _); omega
    go_enter Tryz.func77, Tryz.ntmps77
    go_wp2_with (first | (go_at_call 88; refine (r_natural u hun _).mono ?_; rintro e w2 ⟨rfl, hu3⟩))
    refine bodyPost_ret (v := .string (⟨#[45]⟩ ++ ⟨(Lib.decDigits u).toArray⟩)) (by simp [results, Tryz.results77, go_sem, *]) rfl ⟨?_, uq⟩
    congr 2
  · obtain ⟨u, rfl⟩ := Int.eq_ofNat_of_zero_le (show 0 ≤ n by omega)
    have hi : Hid (Lib.itoa u = Lib.decDigits u) := by unfold Hid Lib.itoa; rw [if_neg hn, Int.toNat_natCast]
    rw [hi.out]
    go_enter Tryz.func77, Tryz.ntmps77
    go_wp2_with (first | (go_at_call 88; refine (r_natural u (by omega) _).mono ?_; rintro e w2 ⟨rfl, hu3⟩))
    refine bodyPost_ret (v := .string ⟨(Lib.decDigits u).toArray⟩) (by simp [results, Tryz.results77, go_sem, *]) rfl ⟨rfl, uq⟩

theorem saneS_plainV (x : Val) : saneS x = plainV x := rfl

set_option maxHeartbeats 1600000 in
/-- the document's text of a value -/
theorem r_text (k n : Int) (s : ByteArray) (w : World) :
    Calls Tryz.prog 62 #[.agg #[.int .i64 k, .int .i64 n, .string s]] w fun e w' => e = .returned (.string (textOf ⟨k, n, s⟩)) ∧ Up w w' := by
  have hk := plainV_kinds ⟨k, n, s⟩
  have hn := @plainV_num ⟨k, n, s⟩
  unfold textOf
  rcases e : plainV ⟨k, n, s⟩ with ⟨pk, pn, ps⟩
  simp only [e] at hk hn
  have HP := Lib.hid (show saneS ⟨k, n, s⟩ = ⟨pk, pn, ps⟩ from e)
  have HN := Lib.hid hn
  clear e hn
  rcases hk with rfl | rfl | rfl | rfl | rfl | rfl
  all_goals
    by_cases hz : pn = 0
  all_goals
    first | (have hz2 : (pn == 0) = true := by simpa using hz) | (have hz2 : (pn == 0) = false := by simpa using hz)
  all_goals
    have HZ := Lib.hid hz
    clear hz
    go_enter Tryz.func62, Tryz.ntmps62
    go_wp2_with (first | (go_at_call 60; refine (rSane_any _ _ _ _).mono ?_; rintro e w' ⟨rfl, hu⟩; simp only [HP.out]) | (go_at_call 77; refine (r_digits _ (by have := (HN.out rfl).2; have := clampN_le n; omega) (by have := (HN.out rfl).2; have := clampN_le n; omega) _).mono ?_; rintro e w2 ⟨rfl, hu2⟩))
    all_goals (refine bodyPost_eq (by (simp [results, Tryz.results62, go_sem, *]) <;> rfl) rfl (by first | rfl | simp [HZ.out]) ⟨rfl, uq⟩)

end Go.Proofs.YtmbipadiaggolaaGreatDoor

/- Walks: the document's heap of nothing: Get, Set, Has, At, Put, Show. -/
namespace Go.Proofs.YtmbipadiaggolaaGreatDoor
open Go.RowKit
set_option linter.unusedSimpArgs false
attribute [local go_sem] conv_sb

theorem plain0_kinds (x : Val) : (plainS H0 x).k = 0 ∨ (plainS H0 x).k = 1 ∨ (plainS H0 x).k = 2 ∨ (plainS H0 x).k = 3 ∨ (plainS H0 x).k = 4 := by
  rcases plainS_kinds H0 x with h | h | h | h | h | h
  · exact .inl h
  · exact .inr (.inl h)
  · exact .inr (.inr (.inl h))
  · exact .inr (.inr (.inr (.inl h)))
  · exact .inr (.inr (.inr (.inr h)))
  · exfalso
    have h2 := (plainS_ref h).2
    unfold HM.there at h2
    simp at h2
    omega

theorem r_runes_at (s : ByteArray) (w0 W : World) (q cap : Nat) (hW : W = bytesLaid w0 s) (hq : q = w0.heap.size) (hs : s.size ≤ 1000000) :
    Calls Tryz.prog 51 #[.slice (some ⟨q, 0, none⟩) s.size cap] W fun e w' => ∃ v, e = .returned v ∧ RunesAt w' v s.data.toList ∧ Up W w' := by
  subst hW hq
  have := r_runes (some ⟨w0.heap.size, 0, none⟩) cap s.data.toList (bytesLaid w0 s) (bytesLaid_at w0 s (by omega)) (by simpa using hs)
  rw [show s.data.toList.length = s.size by simp] at this
  exact this

def out0 : Val × ByteArray × Int := (⟨0, 0, ⟨#[]⟩⟩, ⟨#[]⟩, 0)
abbrev outR (r : Val × ByteArray × Int) : Value := outV r.1 r.2.1 r.2.2

set_option maxHeartbeats 1600000 in
theorem r_get (rb : Nat) (k n : Int) (s key : ByteArray) (w : World) (h : RNil w rb) (hs : (plainS H0 ⟨k, n, s⟩).s.size ≤ 1000000) :
    Calls Tryz.prog 24 #[.pointer (some ⟨rb, 0, none⟩), .agg #[.int .i64 k, .int .i64 n, .string s], .string key] w fun e w' => e = .returned (outR (H0.get ⟨k, n, s⟩ key (runesN (plainS H0 ⟨k, n, s⟩).s))) ∧ Up w w' := by
  have HR := Lib.hid h
  clear h
  unfold HM.get
  have hk := plain0_kinds ⟨k, n, s⟩
  rcases e : plainS H0 ⟨k, n, s⟩ with ⟨pk, pn, ps⟩
  rw [e] at hk hs
  dsimp only at hk hs
  have HP := Lib.hid e
  have HS := Lib.hid hs
  clear e hs
  rcases hk with rfl | rfl | rfl | rfl | rfl
  iterate 4
    · go_enter Tryz.func24, Tryz.ntmps24
      go_wp2_with (first | (go_at_call 38; refine (r_sane rb _ _ _ _ (HR.out.up uq)).mono ?_; rintro e w' ⟨rfl, hu⟩; simp only [HP.out]; have s0 : w'.heap[w.heap.size + 1]? = some (.cells #[.int .i64 0, .int .i64 0, .string ⟨#[]⟩, .string ⟨#[]⟩, .int .i64 0] 56 (0, 0)) := hu.get (alloc_at _ _ _ (by simp)); have B1 := Lib.hid s0; have b0 := cell_of s0 0; have g0 := ice_of s0 0; have b1 := cell_of s0 1; have g1 := ice_of s0 1; have b2 := cell_of s0 2; have g2 := ice_of s0 2; have b3 := cell_of s0 3; have g3 := ice_of s0 3; have b4 := cell_of s0 4; have g4 := ice_of s0 4; have b9 := lt_of_heap s0; (try simp only [World.size_alloc, List.getElem?_toArray, List.getElem?_cons_zero, List.getElem?_cons_succ] at b0 b1 b2 b3 b4 g0 g1 g2 g3 g4 b9); clear s0) | (go_at_call 52; refine (r_array rb _ _ _ _ (HR.out.up uq)).mono ?_; rintro e w2 ⟨rfl, hu2⟩; have s0 := hu2.get (Up.get (w := w') uq B1.out); have b0 := cell_of s0 0; have g0 := ice_of s0 0; have b1 := cell_of s0 1; have g1 := ice_of s0 1; have b2 := cell_of s0 2; have g2 := ice_of s0 2; have b3 := cell_of s0 3; have g3 := ice_of s0 3; have b4 := cell_of s0 4; have g4 := ice_of s0 4; have b9 := lt_of_heap s0; (try simp only [World.size_alloc, List.getElem?_toArray, List.getElem?_cons_zero, List.getElem?_cons_succ] at b0 b1 b2 b3 b4 g0 g1 g2 g3 g4 b9); clear s0; have s0 := hu2.get (Up.get uq (alloc_get w' _)); have a0 := cell_of s0 0; have a1 := cell_of s0 1; have a2 := cell_of s0 2; have f0 := ice_of s0 0; have f1 := ice_of s0 1; have f2 := ice_of s0 2; have a4 := lt_of_heap s0; (try simp only [World.size_alloc, List.getElem?_toArray, List.getElem?_cons_zero, List.getElem?_cons_succ] at a0 a1 a2 f0 f1 f2 a4); clear s0) | (go_at_call 49; refine (rThrow_any _ _).mono ?_; rintro e w3 ⟨rfl, hu3⟩; have s0 := hu3.get (Up.get (w := w') uq B1.out); have b0 := cell_of s0 0; have g0 := ice_of s0 0; have b1 := cell_of s0 1; have g1 := ice_of s0 1; have b2 := cell_of s0 2; have g2 := ice_of s0 2; have b3 := cell_of s0 3; have g3 := ice_of s0 3; have b4 := cell_of s0 4; have g4 := ice_of s0 4; have b9 := lt_of_heap s0; (try simp only [World.size_alloc, List.getElem?_toArray, List.getElem?_cons_zero, List.getElem?_cons_succ] at b0 b1 b2 b3 b4 g0 g1 g2 g3 g4 b9); clear s0))
      all_goals (refine bodyPost_eq (by (simp [results, Tryz.results24, go_sem, *]) <;> rfl) rfl rfl ⟨rfl, uq⟩)
  · cases hkey : (key.toList == lengthS)
    · have hkey2 : (key.toList == [108, 101, 110, 103, 116, 104]) = false := hkey
      have HK := Lib.hid hkey
      clear hkey
      go_enter Tryz.func24, Tryz.ntmps24
      go_wp2_with (first | (go_at_call 38; refine (r_sane rb _ _ _ _ (HR.out.up uq)).mono ?_; rintro e w' ⟨rfl, hu⟩; simp only [HP.out]; have s0 : w'.heap[w.heap.size + 1]? = some (.cells #[.int .i64 0, .int .i64 0, .string ⟨#[]⟩, .string ⟨#[]⟩, .int .i64 0] 56 (0, 0)) := hu.get (alloc_at _ _ _ (by simp)); have B1 := Lib.hid s0; have b0 := cell_of s0 0; have g0 := ice_of s0 0; have b1 := cell_of s0 1; have g1 := ice_of s0 1; have b2 := cell_of s0 2; have g2 := ice_of s0 2; have b3 := cell_of s0 3; have g3 := ice_of s0 3; have b4 := cell_of s0 4; have g4 := ice_of s0 4; have b9 := lt_of_heap s0; (try simp only [World.size_alloc, List.getElem?_toArray, List.getElem?_cons_zero, List.getElem?_cons_succ] at b0 b1 b2 b3 b4 g0 g1 g2 g3 g4 b9); clear s0) | (go_at_call 52; refine (r_array rb _ _ _ _ (HR.out.up uq)).mono ?_; rintro e w2 ⟨rfl, hu2⟩; have s0 := hu2.get (Up.get (w := w') uq B1.out); have b0 := cell_of s0 0; have g0 := ice_of s0 0; have b1 := cell_of s0 1; have g1 := ice_of s0 1; have b2 := cell_of s0 2; have g2 := ice_of s0 2; have b3 := cell_of s0 3; have g3 := ice_of s0 3; have b4 := cell_of s0 4; have g4 := ice_of s0 4; have b9 := lt_of_heap s0; (try simp only [World.size_alloc, List.getElem?_toArray, List.getElem?_cons_zero, List.getElem?_cons_succ] at b0 b1 b2 b3 b4 g0 g1 g2 g3 g4 b9); clear s0; have s0 := hu2.get (Up.get uq (alloc_get w' _)); have a0 := cell_of s0 0; have a1 := cell_of s0 1; have a2 := cell_of s0 2; have f0 := ice_of s0 0; have f1 := ice_of s0 1; have f2 := ice_of s0 2; have a4 := lt_of_heap s0; (try simp only [World.size_alloc, List.getElem?_toArray, List.getElem?_cons_zero, List.getElem?_cons_succ] at a0 a1 a2 f0 f1 f2 a4); clear s0))
      all_goals (refine bodyPost_eq (by (simp [results, Tryz.results24, go_sem, *]) <;> rfl) rfl rfl ⟨rfl, uq⟩)
    · have hkey2 : (key.toList == [108, 101, 110, 103, 116, 104]) = true := hkey
      have HK := Lib.hid hkey
      clear hkey
      go_enter Tryz.func24, Tryz.ntmps24
      go_wp2_with (first | (go_at_call 38; refine (r_sane rb _ _ _ _ (HR.out.up uq)).mono ?_; rintro e w' ⟨rfl, hu⟩; simp only [HP.out]; have s0 : w'.heap[w.heap.size + 1]? = some (.cells #[.int .i64 0, .int .i64 0, .string ⟨#[]⟩, .string ⟨#[]⟩, .int .i64 0] 56 (0, 0)) := hu.get (alloc_at _ _ _ (by simp)); have B1 := Lib.hid s0; have b0 := cell_of s0 0; have g0 := ice_of s0 0; have b1 := cell_of s0 1; have g1 := ice_of s0 1; have b2 := cell_of s0 2; have g2 := ice_of s0 2; have b3 := cell_of s0 3; have g3 := ice_of s0 3; have b4 := cell_of s0 4; have g4 := ice_of s0 4; have b9 := lt_of_heap s0; (try simp only [World.size_alloc, List.getElem?_toArray, List.getElem?_cons_zero, List.getElem?_cons_succ] at b0 b1 b2 b3 b4 g0 g1 g2 g3 g4 b9); clear s0) | (go_at_call 51; refine (r_runes_at ps _ _ _ _ rfl (by simp) HS.out).mono ?_; rintro e w2 ⟨v, rfl, ⟨ra, rc, rfl, hra⟩, hu2⟩; have HRA := Lib.hid hra; clear hra; have hu2 : Up w' w2 := Up.trans (Up.trans ((Up.refl w').alloc _) (bytesLaid_up _ _)) hu2; have s0 := hu2.get B1.out; have b0 := cell_of s0 0; have g0 := ice_of s0 0; have b1 := cell_of s0 1; have g1 := ice_of s0 1; have b2 := cell_of s0 2; have g2 := ice_of s0 2; have b3 := cell_of s0 3; have g3 := ice_of s0 3; have b4 := cell_of s0 4; have g4 := ice_of s0 4; have b9 := lt_of_heap s0; (try simp only [World.size_alloc, List.getElem?_toArray, List.getElem?_cons_zero, List.getElem?_cons_succ] at b0 b1 b2 b3 b4 g0 g1 g2 g3 g4 b9); clear s0) | (go_at_call 50; refine (rNumber_any _ _).mono ?_; rintro e w3 ⟨rfl, hu3⟩; have s0 := hu3.get (Up.get (w := w') uq B1.out); have b0 := cell_of s0 0; have g0 := ice_of s0 0; have b1 := cell_of s0 1; have g1 := ice_of s0 1; have b2 := cell_of s0 2; have g2 := ice_of s0 2; have b3 := cell_of s0 3; have g3 := ice_of s0 3; have b4 := cell_of s0 4; have g4 := ice_of s0 4; have b9 := lt_of_heap s0; (try simp only [World.size_alloc, List.getElem?_toArray, List.getElem?_cons_zero, List.getElem?_cons_succ] at b0 b1 b2 b3 b4 g0 g1 g2 g3 g4 b9); clear s0))
      all_goals (refine bodyPost_eq (by (simp [results, Tryz.results24, go_sem, *]) <;> rfl) rfl rfl ⟨rfl, uq⟩)

theorem r_set (rb : Nat) (k n : Int) (s key : ByteArray) (x : Val) (w : World) (h : RNil w rb) :
    Calls Tryz.prog 25 #[.pointer (some ⟨rb, 0, none⟩), .agg #[.int .i64 k, .int .i64 n, .string s], .string key, .agg #[.int .i64 (x).k, .int .i64 (x).n, .string (x).s]] w fun e w' => e = .returned (outV ⟨0, 0, ⟨#[]⟩⟩ noMembers 1) ∧ Up w w' := by
  have HR := Lib.hid h
  clear h
  have hk := plain0_kinds ⟨k, n, s⟩
  rcases e : plainS H0 ⟨k, n, s⟩ with ⟨pk, pn, ps⟩
  rw [e] at hk
  dsimp only at hk
  have HP := Lib.hid e
  have h5 : (pk != 5) = true := by simp; omega
  clear e hk
  go_enter Tryz.func25, Tryz.ntmps25
  go_wp2_with (first | (go_at_call 38; refine (r_sane rb _ _ _ _ (HR.out.up uq)).mono ?_; rintro e w' ⟨rfl, hu⟩; simp only [HP.out]; have s0 : w'.heap[w.heap.size + 1 + 1]? = some (.cells #[.int .i64 0, .int .i64 0, .string ⟨#[]⟩, .string ⟨#[]⟩, .int .i64 0] 56 (0, 0)) := hu.get (alloc_at _ _ _ (by simp)); have B1 := Lib.hid s0; have b0 := cell_of s0 0; have g0 := ice_of s0 0; have b1 := cell_of s0 1; have g1 := ice_of s0 1; have b2 := cell_of s0 2; have g2 := ice_of s0 2; have b3 := cell_of s0 3; have g3 := ice_of s0 3; have b4 := cell_of s0 4; have g4 := ice_of s0 4; have b9 := lt_of_heap s0; (try simp only [World.size_alloc, List.getElem?_toArray, List.getElem?_cons_zero, List.getElem?_cons_succ] at b0 b1 b2 b3 b4 g0 g1 g2 g3 g4 b9); clear s0) | (go_at_call 49; refine (rThrow_any _ _).mono ?_; rintro e w3 ⟨rfl, hu3⟩; have s0 := hu3.get (Up.get (w := w') uq B1.out); have b0 := cell_of s0 0; have g0 := ice_of s0 0; have b1 := cell_of s0 1; have g1 := ice_of s0 1; have b2 := cell_of s0 2; have g2 := ice_of s0 2; have b3 := cell_of s0 3; have g3 := ice_of s0 3; have b4 := cell_of s0 4; have g4 := ice_of s0 4; have b9 := lt_of_heap s0; (try simp only [World.size_alloc, List.getElem?_toArray, List.getElem?_cons_zero, List.getElem?_cons_succ] at b0 b1 b2 b3 b4 g0 g1 g2 g3 g4 b9); clear s0))
  all_goals (refine bodyPost_eq (by (simp [results, Tryz.results25, go_sem, *]) <;> rfl) rfl rfl ⟨rfl, uq⟩)

theorem r_has (rb : Nat) (k n : Int) (s key : ByteArray) (w : World) (h : RNil w rb) :
    Calls Tryz.prog 27 #[.pointer (some ⟨rb, 0, none⟩), .agg #[.int .i64 k, .int .i64 n, .string s], .string key] w fun e w' => e = .returned (.tuple #[.bool false, outV ⟨0, 0, ⟨#[]⟩⟩ noInS 1]) ∧ Up w w' := by
  have HR := Lib.hid h
  clear h
  have hk := plain0_kinds ⟨k, n, s⟩
  rcases e : plainS H0 ⟨k, n, s⟩ with ⟨pk, pn, ps⟩
  rw [e] at hk
  dsimp only at hk
  have HP := Lib.hid e
  have h5 : (pk != 5) = true := by simp; omega
  clear e hk
  go_enter Tryz.func27, Tryz.ntmps27
  go_wp2_with (first | (go_at_call 38; refine (r_sane rb _ _ _ _ (HR.out.up uq)).mono ?_; rintro e w' ⟨rfl, hu⟩; simp only [HP.out]; have s0 : w'.heap[w.heap.size + 1]? = some (.cells #[.int .i64 0, .int .i64 0, .string ⟨#[]⟩, .string ⟨#[]⟩, .int .i64 0] 56 (0, 0)) := hu.get (alloc_at _ _ _ (by simp)); have B1 := Lib.hid s0; have b0 := cell_of s0 0; have g0 := ice_of s0 0; have b1 := cell_of s0 1; have g1 := ice_of s0 1; have b2 := cell_of s0 2; have g2 := ice_of s0 2; have b3 := cell_of s0 3; have g3 := ice_of s0 3; have b4 := cell_of s0 4; have g4 := ice_of s0 4; have b9 := lt_of_heap s0; (try simp only [World.size_alloc, List.getElem?_toArray, List.getElem?_cons_zero, List.getElem?_cons_succ] at b0 b1 b2 b3 b4 g0 g1 g2 g3 g4 b9); clear s0) | (go_at_call 49; refine (rThrow_any _ _).mono ?_; rintro e w3 ⟨rfl, hu3⟩; have s0 := hu3.get (Up.get (w := w') uq B1.out); have b0 := cell_of s0 0; have g0 := ice_of s0 0; have b1 := cell_of s0 1; have g1 := ice_of s0 1; have b2 := cell_of s0 2; have g2 := ice_of s0 2; have b3 := cell_of s0 3; have g3 := ice_of s0 3; have b4 := cell_of s0 4; have g4 := ice_of s0 4; have b9 := lt_of_heap s0; (try simp only [World.size_alloc, List.getElem?_toArray, List.getElem?_cons_zero, List.getElem?_cons_succ] at b0 b1 b2 b3 b4 g0 g1 g2 g3 g4 b9); clear s0))
  all_goals (refine bodyPost_eq (by (simp [results, Tryz.results27, go_sem, *]) <;> rfl) rfl rfl ⟨rfl, uq⟩)

end Go.Proofs.YtmbipadiaggolaaGreatDoor
