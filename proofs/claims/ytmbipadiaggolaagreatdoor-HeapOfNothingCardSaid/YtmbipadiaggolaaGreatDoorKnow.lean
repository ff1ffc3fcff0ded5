import Derived.Test.YtmbipadiaggolaaGreatDoorKnown
/- Walk: known. -/
namespace Go.Proofs.YtmbipadiaggolaaGreatDoor
open Go.RowKit
set_option linter.unusedSimpArgs false
attribute [local go_sem] ta_aa ta_ao ta_an ta_oa ta_oo ta_on m_kind_a m_kind_o m_behind_a m_behind_o m_own_a m_own_o

theorem Show_ours (q : ByteArray → ByteArray) {w0 w : World} {hb : Nat} {H : HM} (k n : Int) (s : ByteArray) (h : Ours w0 hb H w) (hH : H.Okay q w.heap.size w) (hx : Okay q w.heap.size w (plainS H ⟨k, n, s⟩)) :
    Calls Tryz.prog 12 #[.pointer (some ⟨hb, 0, none⟩), .agg #[.int .i64 k, .int .i64 n, .string s]] w fun e w' => e = .returned (.string (H.show q ⟨k, n, s⟩)) ∧ Ours w0 hb H w' :=
  let ⟨tvs, own, h1, h2, h3⟩ := h
  (Show_any q _ H tvs own k n s w (.some hb _ _ _ h1) hH hx).mono fun _ _ ⟨g1, g2⟩ => ⟨g1, tvs, own, h1.up g2, h2.trans g2, h3⟩

def aS : ByteArray := ⟨#[97]⟩
def kH1 : HM := ⟨9, 1, [⟨1, -1, [], []⟩]⟩
def kH2 : HM := ⟨9, 2, [⟨1, -1, [(aS, ⟨3, 3, ⟨#[]⟩⟩)], []⟩]⟩
theorem kmake : (⟨9, 0, []⟩ : HM).make 1 (-1) = kH1 := rfl
theorem kset : kH1.set 5 0 aS ⟨3, 3, ⟨#[]⟩⟩ = (kH2, ⟨#[]⟩, 0) := rfl
theorem kplain : plainS kH2 ⟨5, 0, ⟨#[]⟩⟩ = ⟨5, 0, ⟨#[]⟩⟩ := rfl
theorem kitoa : Lib.itoa 3 = [51] := by
  unfold Lib.itoa
  rw [if_neg (by omega)]
  unfold Lib.decDigits
  rfl
theorem ktext : textOf ⟨3, 3, ⟨#[]⟩⟩ = ⟨#[51]⟩ := by
  have e : plainV ⟨3, 3, ⟨#[]⟩⟩ = ⟨3, 3, ⟨#[]⟩⟩ := rfl
  unfold textOf
  rw [e]
  simp [kitoa]
theorem kshowV (q : ByteArray → ByteArray) : kH2.showV q 3 ⟨5, 0, ⟨#[]⟩⟩ [] = (true, [123, 97, 58, 32, 51, 125]) := by
  have hat : kH2.at ⟨5, 0, ⟨#[]⟩⟩ = some ⟨1, -1, [(aS, ⟨3, 3, ⟨#[]⟩⟩)], []⟩ := rfl
  have hn : kH2.at ⟨3, 3, ⟨#[]⟩⟩ = none := rfl
  rw [showV_thing 2 _ _ (by decide) hat (by decide) (by decide)]
  have hp : partsOf ⟨1, -1, [(aS, ⟨3, 3, ⟨#[]⟩⟩)], []⟩ = [⟨0, aS, true, ⟨3, 3, ⟨#[]⟩⟩⟩] := rfl
  have ho : opens ⟨1, -1, [(aS, ⟨3, 3, ⟨#[]⟩⟩)], []⟩ = ⟨#[123]⟩ := rfl
  have hc : closes ⟨1, -1, [(aS, ⟨3, 3, ⟨#[]⟩⟩)], []⟩ = ⟨#[125]⟩ := rfl
  have hl : laid [] ⟨#[123]⟩ = [123] := by decide
  have hk : say [123] (aS ++ colonS) = (true, [123, 97, 58, 32]) := by decide
  have hs : kH2.showV q 2 ⟨3, 3, ⟨#[]⟩⟩ [123, 97, 58, 32] = (true, [123, 97, 58, 32, 51]) := by
    rw [showV_none 2 _ _ (by decide) hn, ktext]
    decide
  have h1 : showParts (kH2.showV q 2) [⟨0, aS, true, ⟨3, 3, ⟨#[]⟩⟩⟩] [123] = (true, [123, 97, 58, 32, 51]) := by
    simp [showParts, stepPart, hk, hs]
  unfold shownThing
  rw [hp, ho, hc, hl]
  dsimp only
  rw [h1]
  decide
theorem kshow (q : ByteArray → ByteArray) : kH2.show q ⟨5, 0, ⟨#[]⟩⟩ = ⟨#[123, 97, 58, 32, 51, 125]⟩ := by
  unfold HM.show
  rw [kplain, kshowV]
  rfl
def noQ (_ : ByteArray) : ByteArray := ⟨#[]⟩
theorem kokay (B : Nat) (w0 : World) : kH2.Okay noQ B w0 := fun i t ht x hx => by
  have : i = 0 := by
    rcases Nat.lt_or_ge i 1 with h | h
    · omega
    · rw [List.getElem?_eq_none (by simpa [kH2] using h)] at ht; cases ht
  subst this
  simp only [kH2, List.getElem?_cons_zero, Option.some.injEq] at ht
  subst ht
  simp only [partsOf, objParts, List.mapIdx_cons, List.mapIdx_nil, List.mem_singleton] at hx
  rw [if_neg (by decide), List.mem_singleton] at hx
  subst hx
  exact ⟨⟨fun h => (by cases h), fun _ => .inl ⟨by decide, by decide⟩⟩, by decide⟩
theorem kokay0 (B : Nat) (w0 : World) : Okay noQ B w0 (plainS kH2 ⟨5, 0, ⟨#[]⟩⟩) := by
  rw [kplain]
  exact ⟨fun h => (by cases h), fun h => (by cases h)⟩

set_option maxRecDepth 100000 in
set_option maxHeartbeats 4000000 in
theorem known_any (w : World) : Calls Tryz.prog 7 #[] w fun e w' => e = .returned (.bool true) ∧ Up w w' := by
  go_enter Tryz.func7, Tryz.ntmps7
  go_wp2_with (first | (go_at_call 8; refine (New_good 9 _ (by omega) (by omega)).mono ?_; rintro e w1 ⟨rfl, rfl⟩; have o1 := Ours.fresh 9 (Up.refl w) (by omega) (by omega)) | (go_at_call 19; refine (Make_ours 1 (-1) o1).mono ?_; rintro e w2 ⟨rfl, o2⟩; rw [kmake] at o2) | (go_at_call 20; refine (Set_ours 5 0 _ aS 3 3 ⟨#[]⟩ (o2.up (by repeat (first | with_reducible exact Up.refl _ | with_reducible assumption | with_reducible refine Up.drewN ?_ _ | with_reducible refine Up.drew ?_ | with_reducible refine Up.alloc ?_ _ | with_reducible refine Up.setCell ?_ (by first | omega | (simp; done) | (simp; omega)) _ | with_reducible refine Up.trans ?_ (by assumption))))).mono ?_; rintro e w3 ⟨rfl, o3⟩; rw [kset] at o3 ⊢) | (go_at_call 12; refine (Show_ours noQ 5 0 _ o3 (kokay _ _) (kokay0 _ _)).mono ?_; rintro e w4 ⟨rfl, o4⟩; rw [kshow]) | (go_at_call 11; refine (Used_ours o4).mono ?_; rintro e w5 ⟨rfl, rfl⟩; simp only [kH2]))
  go_ret
  exact ⟨rfl, o4.base⟩

end Go.Proofs.YtmbipadiaggolaaGreatDoor
