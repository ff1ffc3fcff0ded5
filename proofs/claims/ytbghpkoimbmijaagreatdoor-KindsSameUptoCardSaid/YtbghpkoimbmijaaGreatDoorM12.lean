import Derived.Lib.Join
import Derived.Test.YtbghpkoimbmijaaGreatDoorM11
import Derived.Test.YtbghpkoimbmijaaGreatDoorM08
import Derived.Test.YtbghpkoimbmijaaGreatDoorM07
/- YtbghpkoimbmijaaGreatDoorM12: lemmas of the proof, in order: TZ, VQ, VA, VR. -/
/- Walks: the text of a type: functions. -/
namespace Go.Proofs.YtbghpkoimbmijaaGreatDoor
open Go.RowKit
set_option linter.unusedSimpArgs false

/-- a parameter -/
def parS (t : Ty) (m : Bool) : ByteArray := if m = true then roundS [15, 16] t.kind t.text ++ ⟨#[63]⟩ else t.text
def parsV (xs : List (Ty × Bool)) : List Value := xs.map fun x => .string (parS x.1 x.2)
theorem fn_text (n : Int) (nm : ByteArray) (xs : List (Ty × Bool)) (r : Ty) (ns : List ByteArray) : (Ty.mk 15 n nm (xs.map (·.1) ++ [r]) ns (xs.map (·.2))).text = ⟨#[40]⟩ ++ joinB ⟨#[44, 32]⟩ (xs.map fun x => parS x.1 x.2) ++ ⟨#[41, 32, 61, 62, 32]⟩ ++ r.text := by
  rw [Ty.text_mk]
  unfold textK
  rw [if_neg (by decide), if_neg (by decide), if_neg (by decide), if_neg (by decide), if_pos rfl]
  rw [List.map_append, List.map_cons, List.map_nil, List.dropLast_concat]
  have e : ∀ xs : List (Ty × Bool), paramsL ((xs.map (·.1)).map fun p => (p.kind, p.text)) (xs.map (·.2)) = xs.map fun x => parS x.1 x.2 := by
    intro xs
    induction xs with
    | nil => rfl
    | cons x r ih => simp only [List.map_cons, paramsL]; rw [ih]; rfl
  rw [e]
  simp [List.getLastD_eq_getLast?]

theorem join_pars (xs : List (Ty × Bool)) (va : Option Addr) (vcap : Nat) (w : World) (h : w.ownsRow 0 StrT 1 (.slice va xs.length vcap) xs.length (parsV xs)) (hlen : xs.length ≤ 100000) (hs : (joinB ⟨#[44, 32]⟩ (xs.map fun x => parS x.1 x.2)).size ≤ 100000000000000) :
    Calls Tryz.prog 74 #[.slice va xs.length vcap, .string ⟨#[44, 32]⟩] w fun e w' => e = .returned (.string (joinB ⟨#[44, 32]⟩ (xs.map fun x => parS x.1 x.2))) ∧ Up w w' := by
  have e2 : parsV xs = (xs.map fun x => parS x.1 x.2).map Value.string := by
    unfold parsV
    rw [List.map_map]
    rfl
  have e3 : xs.length = (xs.map fun x => parS x.1 x.2).length := (List.length_map _).symm
  rw [e2] at h
  have h5 : (xs.map fun x => parS x.1 x.2).length ≤ 100000 := by rw [List.length_map]; exact hlen
  generalize (xs.map fun x => parS x.1 x.2) = l at *
  exact join_all ⟨#[44, 32]⟩ l va vcap xs.length w e3 h h5 hs

set_option maxRecDepth 100000 in
set_option maxHeartbeats 3200000 in
theorem spelled_15 (n : Int) (nm : ByteArray) (xs : List (Ty × Bool)) (r : Ty) (ns : List ByteArray) (hlen : xs.length ≤ 100000) (hT : ∀ x ∈ xs, TextAny x.1 ∧ x.1.text.size ≤ 100000000000000) (hR : TextAny r ∧ r.text.size ≤ 100000000000000)
    (hs0 : (joinB ⟨#[44, 32]⟩ (xs.map fun x => parS x.1 x.2)).size ≤ 100000000000000) : SpellAny (.mk 15 n nm (xs.map (·.1) ++ [r]) ns (xs.map (·.2))) := by
  intro N B b W ht hg
  rw [fn_text]
  have hBW : Hid (B ≤ W.heap.size) := Nat.le_trans ht.ge (Nat.le_of_lt ht.lt)
  obtain ⟨pv, nv, mv, qs, V⟩ := ht.view
  have HV := Lib.hid (And.intro V (And.intro hg (And.intro hT hR)))
  have HJ := Lib.hid hs0
  obtain ⟨lq, lg, loff, lcap, hle, hlcap, _, hlcell, hlty, hlk⟩ := V.part (j := xs.length) (p := r) (by rw [List.getElem?_append_right (by simp)]; simp)
  have a0 := V.c0
  have a3 := V.c3
  have a5 := V.c5
  have a4 := V.lt
  have hpl : (xs.map (·.1) ++ [r]).length = xs.length + 1 := by simp
  rw [hpl] at hle hlcap
  subst hle
  have hwr := IntWalk.i64_in ((xs.length : Int) + 1 - 1) (by omega)
  clear ht hg hT V hs0 hR
  go_enter Tryz.func53, Tryz.ntmps53
  go_wp2_with fail
  go_loopw [7, 98] (fun v i wr => ∃ j : Nat, j ≤ xs.length ∧ i = .int .i64 j ∧ wr.ownsRow 0 StrT 1 v j (parsV (xs.take j)) ∧ (∀ g, v.ownBlock = some g → W.heap.size ≤ g) ∧ Memo none1 B W wr) (fun _ i _ => xs.length - (intOf i).toNat)
  case atStart => exact ⟨0, Nat.zero_le _, rfl, (show W.ownsRow 0 StrT 1 (.slice none 0 0) 0 [] from ⟨rfl, .inl ⟨rfl, rfl⟩⟩), (fun g hg => by simp [Value.ownBlock] at hg), Memo.refl _ _ _⟩
  case round =>
    obtain ⟨j, hj, rfl, hv, hvb, hmo⟩ := hrel
    by_cases hlt : j < xs.length
    · have hji : (j : Int) < xs.length := by omega
      obtain ⟨⟨p, m⟩, hx⟩ : ∃ x, xs[j]? = some x := ⟨_, List.getElem?_eq_getElem hlt⟩
      have VR := HV.out.1.memo hmo
      obtain ⟨q, g, off, cap, he, hcap, hgl, hcell, hpt, hkeep⟩ := VR.part (j := j) (p := p) (by rw [List.getElem?_append_left (by simpa using hlt), List.getElem?_map, hx]; rfl)
      obtain ⟨mg, moff, mcap, hme, hmcap, hml, hmk⟩ := HV.out.1.mark (j := j) (m := m) (by rw [List.getElem?_map, hx]; rfl)
      injection he with he1 he2 he3
      injection he1 with he1
      injection he1 with he1 he4 _
      subst he1 he4 he3 hme
      rw [List.length_map] at hmcap hml
      have HX := Lib.hid (And.intro hpt (And.intro (HV.out.2.1.memo hmo) (HV.out.2.2.1 _ (List.mem_of_getElem? hx))))
      obtain ⟨va, vcap, rfl⟩ := ownsRow_form hv
      have HO := Lib.hid (And.intro hv (And.intro hvb hmo))
      have hmk := Lib.hid hmk
      have HNX : Hid (parsV (xs.take (j + 1)) = parsV (xs.take j) ++ [.string (parS p m)]) := by
        unfold Hid parsV
        rw [List.take_add_one, hx, List.map_append]
        rfl
      obtain ⟨vs, hvs⟩ : ∃ vs, Hid (parsV (xs.take j) = vs) := ⟨_, rfl⟩
      rw [hvs.out] at HO HNX
      unfold parS at HNX
      have s2 := HX.out.2.2.2
      have s4 := roundS_size [15, 16] p.kind p.text
      obtain ⟨rt, hrt2⟩ : ∃ rt, Hid (roundS [15, 16] p.kind p.text = rt) := ⟨_, rfl⟩
      simp only at s2
      obtain ⟨pt, hpt2⟩ : ∃ pt, Hid (p.text = pt) := ⟨_, rfl⟩
      rw [hrt2.out, hpt2.out] at s4
      rw [hrt2.out, hpt2.out] at HNX
      rw [hpt2.out] at s2
      have z1 : ¬ 9223372036854775807 < rt.size + 1 := by omega
      obtain ⟨i0, hi, hz0, hz1, hz2⟩ := info_parts str_info
      clear hx hv hvb hmo hlt hpt hkeep VR he2
      cases m with
      | true =>
        rw [if_pos rfl] at HNX
        go_wp2_with (first | (go_at_call 34; refine (HX.out.2.2.1 N B q _ (HX.out.1.up uq) (HX.out.2.1.up uq)).mono ?_; rintro e w3 ⟨rfl, hm3⟩; rw [hpt2.out]; have M3 : Memo none1 B wr w3 := (Memo.of_up none1 B (show Up wr _ from uq)).trans hm3; have M4 : Memo none1 B W w3 := HO.out.2.2.trans M3; have c5 := (HV.out.1.memo M4).c5; rw [List.length_map] at c5; have cl := (HV.out.1.memo M4).lt; have dm1 := (hmk.out w3 M4).1; have dm2 := (hmk.out w3 M4).2; have O3 := Lib.hid (And.intro (ownsRow_memo HO.out.1 (by decide) M3) (And.intro M4 M3)); clear hm3 M3 M4) | (go_at_call 51; refine (round_any [15, 16] w3.heap.size 2 q p N B _ ((HX.out.1.memo O3.out.2.2).up uq) ((HX.out.2.1.memo O3.out.2.2).up uq) HX.out.2.2.1 HX.out.2.2.2 (by intro j z hz; match j, hz with | 0, hz => (simp at hz; subst hz; simp) | 1, hz => (simp at hz; subst hz; simp) | j + 2, hz => simp at hz) (by simp) (by simp)).mono ?_; rintro e w5 ⟨rfl, hm5⟩; rw [hrt2.out]; have M5 : Memo none1 B w3 w5 := (Memo.of_up none1 B (show Up w3 _ from uq)).trans hm5; have O5 := Lib.hid (And.intro (ownsRow_memo O3.out.1 (by decide) M5) (O3.out.2.1.trans M5)); clear hm5 M5) | (at_builtin; go_must (refine wpList_append_new rfl _ _ 23 rfl StrT i0 (.string ⟨#[]⟩) 1 16 Tryz.underlying23 hi hz0 hz1 hz2 rfl (by decide) (.slice va j vcap) j vs rfl (ownsRow_up O5.out.1 uq) _ 1 1 rfl (by first | rfl | (simp; done) | omega) rfl (by intro u hu; have hu2 : u = .string (rt ++ ⟨#[63]⟩) := (by simpa using hu); rw [hu2]; rfl) (by unfold maxLen; omega) (by omega) ?_; intro sa' cap' w7 hown' hgrow hblk; have M7 : Memo none1 B W w7 := Memo.pushed (O5.out.2.up (show Up w5 _ from uq)) (ownsRow_up O5.out.1 uq) (by decide) HO.out.2.1 hBW.out hgrow; have HY := Lib.hid (And.intro hown' (And.intro hblk M7)); clear hown' hgrow hblk M7)))
        refine ⟨⟨j + 1, by omega, by simp, by rw [HNX.out]; exact HY.out.1, fun g hg => ?_, HY.out.2.2⟩, by simp [intOf]; omega⟩
        rcases HY.out.2.1 with q | ⟨g', q, q2⟩
        · exact HO.out.2.1 g (by rw [← q]; exact hg)
        · rw [q] at hg
          cases hg
          have := O5.out.2.size
          (try simp only [World.size_alloc] at q2)
          omega
      | false =>
        rw [if_neg (by decide)] at HNX
        go_wp2_with (first | (go_at_call 34; refine (HX.out.2.2.1 N B q _ (HX.out.1.up uq) (HX.out.2.1.up uq)).mono ?_; rintro e w3 ⟨rfl, hm3⟩; rw [hpt2.out]; have M3 : Memo none1 B wr w3 := (Memo.of_up none1 B (show Up wr _ from uq)).trans hm3; have M4 : Memo none1 B W w3 := HO.out.2.2.trans M3; have c5 := (HV.out.1.memo M4).c5; rw [List.length_map] at c5; have cl := (HV.out.1.memo M4).lt; have dm1 := (hmk.out w3 M4).1; have dm2 := (hmk.out w3 M4).2; have O3 := Lib.hid (And.intro (ownsRow_memo HO.out.1 (by decide) M3) (And.intro M4 M3)); clear hm3 M3 M4) | (at_builtin; go_must (refine wpList_append_new rfl _ _ 23 rfl StrT i0 (.string ⟨#[]⟩) 1 16 Tryz.underlying23 hi hz0 hz1 hz2 rfl (by decide) (.slice va j vcap) j vs rfl (ownsRow_up O3.out.1 uq) _ 1 1 rfl (by first | rfl | (simp; done) | omega) rfl (by intro u hu; have hu2 : u = .string pt := (by simpa using hu); rw [hu2]; rfl) (by unfold maxLen; omega) (by omega) ?_; intro sa' cap' w7 hown' hgrow hblk; have M7 : Memo none1 B W w7 := Memo.pushed (O3.out.2.1.up (show Up w3 _ from uq)) (ownsRow_up O3.out.1 uq) (by decide) HO.out.2.1 hBW.out hgrow; have HY := Lib.hid (And.intro hown' (And.intro hblk M7)); clear hown' hgrow hblk M7)))
        refine ⟨⟨j + 1, by omega, by simp, by rw [HNX.out]; exact HY.out.1, fun g hg => ?_, HY.out.2.2⟩, by simp [intOf]; omega⟩
        rcases HY.out.2.1 with q | ⟨g', q, q2⟩
        · exact HO.out.2.1 g (by rw [← q]; exact hg)
        · rw [q] at hg
          cases hg
          have := O3.out.2.1.size
          (try simp only [World.size_alloc] at q2)
          omega
    · obtain rfl : j = xs.length := by omega
      rw [List.take_length] at hv
      obtain ⟨va, vcap, rfl⟩ := ownsRow_form hv
      have hjs := HJ.out
      obtain ⟨js, hjs2⟩ : ∃ js, Hid (joinB ⟨#[44, 32]⟩ (xs.map fun x => parS x.1 x.2) = js) := ⟨_, rfl⟩
      rw [hjs2.out] at hjs
      have s2 := HV.out.2.2.2.2
      obtain ⟨pt, hpt2⟩ : ∃ pt, Hid (r.text = pt) := ⟨_, rfl⟩
      rw [hpt2.out] at s2
      have z1 : ¬ 9223372036854775807 < 1 + js.size := by omega
      have z2 : ¬ 9223372036854775807 < 1 + js.size + 5 := by omega
      have z3 : ¬ 9223372036854775807 < 1 + js.size + 5 + pt.size := by omega
      have C1 : Hid (∀ i : MemoOf B wr, Calls Tryz.prog 74 #[.slice va xs.length vcap, .string ⟨#[44, 32]⟩] i.W fun e w' => e = .returned (.string js) ∧ Memo none1 B i.W w') := fun i => by
        rw [← hjs2.out]
        exact (join_pars xs va vcap i.W (ownsRow_memo hv (by decide) i.memo) hlen HJ.out).mono fun e w' ⟨h1, h2⟩ => ⟨h1, Memo.of_up _ _ h2⟩
      have C2 : Hid (∀ i : MemoOf B wr, Calls Tryz.prog 34 #[.pointer (some ⟨lq, 0, none⟩)] i.W fun e w' => e = .returned (.string pt) ∧ Memo none1 B i.W w') := fun i => by
        rw [← hpt2.out]
        exact HV.out.2.2.2.1 N B lq i.W (hlty.memo (hmo.trans i.memo)) (HV.out.2.1.memo (hmo.trans i.memo))
      have r3 : ∀ i : MemoOf B wr, i.W.cell? ⟨b, 3, none⟩ = some (.slice (some ⟨lg, loff, none⟩) (xs.length + 1) lcap) := fun i => by
        have q := (HV.out.1.memo (hmo.trans i.memo)).c3
        simpa using q
      have r4 : ∀ i : MemoOf B wr, i.W.cell? ⟨lg, loff + xs.length, none⟩ = some (.pointer (some ⟨lq, 0, none⟩)) := fun i => hlk i.W (hmo.trans i.memo)
      have HM := Lib.hid hmo
      clear hv hvb hmo hlt hlk
      go_wp2_with fail
      refine wp_region_memo B (by kernel_rfl) (by kernel_rfl) ?_
      repeat (go_big_quiet_step (first | ((go_at_call 74; rename_i i; exact Calls.memo_of i (C1.out i))) | ((go_at_call 34; rename_i i; exact Calls.memo_of i (C2.out i)))))
      refine wpQuiet_nil ?_
      intro _ hw'
      obtain ⟨⟨w2, hm2⟩, hw''⟩ := hw'
      subst hw''
      have M2 := Lib.hid hm2
      clear r3 r4 hm2
      go_wp2_with fail
      refine bodyPost_ret (v := .string (⟨#[40]⟩ ++ js ++ ⟨#[41, 32, 61, 62, 32]⟩ ++ pt)) (by simp [results, Tryz.results53, go_sem]) rfl ?_
      exact ⟨by rw [hjs2.out, hpt2.out], HM.out.trans M2.out⟩

end Go.Proofs.YtbghpkoimbmijaaGreatDoor

/- Plain law: a text in quotes tells the text. -/
namespace Go.Proofs.YtbghpkoimbmijaaGreatDoor
open Go.RowKit
set_option linter.unusedSimpArgs false

abbrev Bs := List UInt8
def tb (s : ByteArray) : Bs := s.data.toList
theorem tb_append (a b : ByteArray) : tb (a ++ b) = tb a ++ tb b := by simp [tb]
theorem tb_inj {a b : ByteArray} (h : tb a = tb b) : a = b := by
  cases a; cases b
  simp only [tb] at h
  exact congrArg _ (Array.toList_inj.1 h)
theorem tb_mk (l : Bs) : tb ⟨l.toArray⟩ = l := by simp [tb]

/-- up to the closing quotes -/
def scanQ : Bs → Bs × Bs
  | [] => ([], [])
  | [c] => if c = 34 then ([], []) else ([c], [])
  | c :: d :: r => if c = 34 then ([], d :: r) else if c = 92 then (c :: d :: (scanQ r).1, (scanQ r).2) else (c :: (scanQ (d :: r)).1, (scanQ (d :: r)).2)
def Pas (x : Bs) : Prop := ∀ s, s ≠ [] → scanQ (x ++ s) = (x ++ (scanQ s).1, (scanQ s).2)
theorem Pas.nil : Pas [] := fun s _ => by simp
theorem Pas.append {x y : Bs} (hx : Pas x) (hy : Pas y) : Pas (x ++ y) := fun s hs => by
  rw [List.append_assoc, hx _ (by simp [hs]), hy s hs]
  simp
theorem Pas.one {c : UInt8} (h1 : c ≠ 34) (h2 : c ≠ 92) : Pas [c] := fun s hs => by
  cases s with
  | nil => exact absurd rfl hs
  | cons d r => simp [scanQ, h1, h2]
theorem Pas.esc (d : UInt8) : Pas [92, d] := fun s _ => by
  cases s <;> simp [scanQ]
theorem Pas.of_all : ∀ (x : Bs), (∀ c ∈ x, c ≠ 34 ∧ c ≠ 92) → Pas x
  | [], _ => Pas.nil
  | c :: r, h => by
    have h1 := h c (by simp)
    exact (Pas.one h1.1 h1.2).append (Pas.of_all r fun d hd => h d (by simp [hd]))
theorem Pas.close {x : Bs} (h : Pas x) (s : Bs) : scanQ (x ++ 34 :: s) = (x, s) := by
  rw [h (34 :: s) (by simp)]
  cases s <;> simp [scanQ]

/-- a byte within quotes -/
def qb (c : UInt8) : Bs := if c.toNat < 128 then tb (quoteR c.toNat) else [c]
theorem qb_high {c : UInt8} (h : 128 ≤ c.toNat) : qb c = [c] := by unfold qb; rw [if_neg (by omega)]
theorem u8_cases (P : UInt8 → Prop) (h1 : ∀ n : Fin 128, P (UInt8.ofNat n.val)) (h2 : ∀ c : UInt8, 128 ≤ c.toNat → P c) (c : UInt8) : P c := by
  by_cases h : c.toNat < 128
  · have := h1 ⟨c.toNat, h⟩
    simpa using this
  · exact h2 c (by omega)

/-- what a byte within quotes begins with -/
def deb : Bs → Option (UInt8 × Bs)
  | [] => none
  | [c] => some (c, [])
  | c :: d :: r => if c = 92 then
      (if d = 110 then some (10, r) else if d = 114 then some (13, r) else if d = 116 then some (9, r)
       else if d = 117 then (match r with
          | _ :: a :: b :: q => if b = 125 then some ((if 97 ≤ a.toNat then UInt8.ofNat (a.toNat - 87) else UInt8.ofNat (a.toNat - 48)), q)
              else if a = 49 then some ((if 97 ≤ b.toNat then UInt8.ofNat (b.toNat - 71) else UInt8.ofNat (b.toNat - 32)), q.drop 1)
              else some (127, q.drop 1)
          | _ => none)
       else some (d, r))
    else some (c, d :: r)

theorem qb_low (n : Fin 128) : qb (UInt8.ofNat n.val) = tb (quoteR n.val) := by
  unfold qb
  have e : (UInt8.ofNat n.val).toNat = n.val := by
    have := n.isLt
    simp [UInt8.toNat_ofNat']
    omega
  rw [e, if_pos n.isLt]
theorem enc_low (n : Nat) (h : n < 128) : tb (Utf8.encode (n : Int)) = [UInt8.ofNat n] := by
  unfold Utf8.encode
  have hv : Utf8.valid (n : Int) = true := by unfold Utf8.valid; simp; omega
  simp only [hv, if_true, Int.toNat_natCast]
  rw [if_pos (by omega)]
  rfl
theorem deb_qb (c : UInt8) (s : Bs) : deb (qb c ++ s) = some (c, s) := by
  refine u8_cases (fun c => ∀ s, deb (qb c ++ s) = some (c, s)) (fun n s => ?_) (fun c hc s => ?_) c s
  · rw [qb_low]
    have key : ∀ n : Fin 128, (tb (quoteR n.val) = [UInt8.ofNat n.val] ∧ UInt8.ofNat n.val ≠ 92) ∨ (tb (quoteR n.val) = [92, UInt8.ofNat n.val] ∧ UInt8.ofNat n.val ≠ 110 ∧ UInt8.ofNat n.val ≠ 114 ∧ UInt8.ofNat n.val ≠ 116 ∧ UInt8.ofNat n.val ≠ 117)
        ∨ (tb (quoteR n.val) = [92, 110] ∧ n.val = 10) ∨ (tb (quoteR n.val) = [92, 114] ∧ n.val = 13) ∨ (tb (quoteR n.val) = [92, 116] ∧ n.val = 9)
        ∨ (tb (quoteR n.val) = [92, 117, 123, (tb (quoteR n.val)).getD 3 0, 125] ∧ (if 97 ≤ ((tb (quoteR n.val)).getD 3 0).toNat then UInt8.ofNat (((tb (quoteR n.val)).getD 3 0).toNat - 87) else UInt8.ofNat (((tb (quoteR n.val)).getD 3 0).toNat - 48)) = UInt8.ofNat n.val)
        ∨ (tb (quoteR n.val) = [92, 117, 123, 49, (tb (quoteR n.val)).getD 4 0, 125] ∧ (tb (quoteR n.val)).getD 4 0 ≠ 125 ∧ (if 97 ≤ ((tb (quoteR n.val)).getD 4 0).toNat then UInt8.ofNat (((tb (quoteR n.val)).getD 4 0).toNat - 71) else UInt8.ofNat (((tb (quoteR n.val)).getD 4 0).toNat - 32)) = UInt8.ofNat n.val)
        ∨ (tb (quoteR n.val) = [92, 117, 123, 55, 102, 125] ∧ n.val = 127) := by decide +kernel
    have key : ∀ n : Fin 128, (tb (quoteR n.val) = [UInt8.ofNat n.val] ∧ UInt8.ofNat n.val ≠ 92) ∨ (tb (quoteR n.val) = [92, UInt8.ofNat n.val] ∧ UInt8.ofNat n.val ≠ 110 ∧ UInt8.ofNat n.val ≠ 114 ∧ UInt8.ofNat n.val ≠ 116 ∧ UInt8.ofNat n.val ≠ 117)
        ∨ (tb (quoteR n.val) = [92, 110] ∧ n.val = 10) ∨ (tb (quoteR n.val) = [92, 114] ∧ n.val = 13) ∨ (tb (quoteR n.val) = [92, 116] ∧ n.val = 9)
        ∨ (∃ a : UInt8, tb (quoteR n.val) = [92, 117, 123, a, 125] ∧ (if 97 ≤ a.toNat then UInt8.ofNat (a.toNat - 87) else UInt8.ofNat (a.toNat - 48)) = UInt8.ofNat n.val)
        ∨ (∃ b : UInt8, tb (quoteR n.val) = [92, 117, 123, 49, b, 125] ∧ b ≠ 125 ∧ (if 97 ≤ b.toNat then UInt8.ofNat (b.toNat - 71) else UInt8.ofNat (b.toNat - 32)) = UInt8.ofNat n.val)
        ∨ (tb (quoteR n.val) = [92, 117, 123, 55, 102, 125] ∧ n.val = 127) := fun n => by
      rcases key n with h | h | h | h | h | h | h | h
      · exact .inl h
      · exact .inr (.inl h)
      · exact .inr (.inr (.inl h))
      · exact .inr (.inr (.inr (.inl h)))
      · exact .inr (.inr (.inr (.inr (.inl h))))
      · exact .inr (.inr (.inr (.inr (.inr (.inl ⟨_, h⟩)))))
      · exact .inr (.inr (.inr (.inr (.inr (.inr (.inl ⟨_, h⟩))))))
      · exact .inr (.inr (.inr (.inr (.inr (.inr (.inr h))))))
    rcases key n with ⟨e, h⟩ | ⟨e, h1, h2, h3, h4⟩ | ⟨e, h⟩ | ⟨e, h⟩ | ⟨e, h⟩ | ⟨a, e, h⟩ | ⟨b, e, h1, h⟩ | ⟨e, h⟩
    · rw [e]; cases s <;> simp [deb, h]
    · rw [e]; simp [deb, h1, h2, h3, h4]
    · rw [e, h]; simp [deb]
    · rw [e, h]; simp [deb]
    · rw [e, h]; simp [deb]
    · rw [e]; simp only [List.cons_append, List.nil_append, deb]; simp [h]
    · rw [e]; simp only [List.cons_append, List.nil_append, deb]; simp [h1, h]
    · rw [e, h]; simp [deb]
  · rw [qb_high hc]
    have h1 : c ≠ 92 := fun e => by subst e; exact absurd hc (by decide)
    cases s <;> simp [deb, h1]
theorem qb_ne (c : UInt8) : qb c ≠ [] := fun e => by
  have := deb_qb c []
  rw [e] at this
  simp [deb] at this
theorem qbs_inj : ∀ a b : Bs, a.flatMap qb = b.flatMap qb → a = b
  | [], [], _ => rfl
  | [], c :: r, h => by
    rw [List.flatMap_cons] at h
    simp only [List.flatMap_nil] at h
    exact absurd (List.append_eq_nil_iff.1 h.symm).1 (qb_ne c)
  | c :: r, [], h => by
    rw [List.flatMap_cons] at h
    simp only [List.flatMap_nil] at h
    exact absurd (List.append_eq_nil_iff.1 h).1 (qb_ne c)
  | c :: r, d :: q, h => by
    rw [List.flatMap_cons, List.flatMap_cons] at h
    have h1 := deb_qb c (r.flatMap qb)
    rw [h, deb_qb d] at h1
    injection h1 with h1
    injection h1 with h1 h2
    rw [h1, qbs_inj r q h2.symm]
theorem qb_pas (c : UInt8) : Pas (qb c) := by
  refine u8_cases (fun c => Pas (qb c)) (fun n => ?_) (fun c hc => ?_) c
  · rw [qb_low]
    have key : ∀ n : Fin 128, (tb (quoteR n.val) = [UInt8.ofNat n.val] ∧ UInt8.ofNat n.val ≠ 92 ∧ UInt8.ofNat n.val ≠ 34) ∨ (tb (quoteR n.val) = [92, UInt8.ofNat n.val]) ∨ (∃ d : UInt8, tb (quoteR n.val) = [92, d])
        ∨ (∃ a : UInt8, tb (quoteR n.val) = [92, 117, 123, a, 125] ∧ a ≠ 34 ∧ a ≠ 92) ∨ (∃ a b : UInt8, tb (quoteR n.val) = [92, 117, 123, a, b, 125] ∧ a ≠ 34 ∧ a ≠ 92 ∧ b ≠ 34 ∧ b ≠ 92) := by
      intro n
      have k2 : ∀ n : Fin 128, (tb (quoteR n.val) = [UInt8.ofNat n.val] ∧ UInt8.ofNat n.val ≠ 92 ∧ UInt8.ofNat n.val ≠ 34) ∨ (tb (quoteR n.val) = [92, (tb (quoteR n.val)).getD 1 0])
        ∨ (tb (quoteR n.val) = [92, 117, 123, (tb (quoteR n.val)).getD 3 0, 125] ∧ (tb (quoteR n.val)).getD 3 0 ≠ 34 ∧ (tb (quoteR n.val)).getD 3 0 ≠ 92) ∨ (tb (quoteR n.val) = [92, 117, 123, (tb (quoteR n.val)).getD 3 0, (tb (quoteR n.val)).getD 4 0, 125] ∧ (tb (quoteR n.val)).getD 3 0 ≠ 34 ∧ (tb (quoteR n.val)).getD 3 0 ≠ 92 ∧ (tb (quoteR n.val)).getD 4 0 ≠ 34 ∧ (tb (quoteR n.val)).getD 4 0 ≠ 92) := by decide +kernel
      rcases k2 n with h | h | h | h
      · exact .inl h
      · exact .inr (.inr (.inl ⟨_, h⟩))
      · exact .inr (.inr (.inr (.inl ⟨_, h⟩)))
      · exact .inr (.inr (.inr (.inr ⟨_, _, h⟩)))
    rcases key n with ⟨e, h1, h2⟩ | e | ⟨d, e⟩ | ⟨a, e, h1, h2⟩ | ⟨a, b, e, h1, h2, h3, h4⟩
    · rw [e]; exact Pas.one h2 h1
    · rw [e]; exact Pas.esc _
    · rw [e]; exact Pas.esc _
    · rw [e]
      refine (Pas.esc 117).append (Pas.of_all [123, a, 125] fun c hc => ?_)
      simp only [List.mem_cons, List.not_mem_nil, or_false] at hc
      rcases hc with rfl | rfl | rfl
      · decide
      · exact ⟨h1, h2⟩
      · decide
    · rw [e]
      refine (Pas.esc 117).append (Pas.of_all [123, a, b, 125] fun c hc => ?_)
      simp only [List.mem_cons, List.not_mem_nil, or_false] at hc
      rcases hc with rfl | rfl | rfl | rfl
      · decide
      · exact ⟨h1, h2⟩
      · exact ⟨h3, h4⟩
      · decide
  · rw [qb_high hc]
    exact Pas.one (fun e => by subst e; exact absurd hc (by decide)) (fun e => by subst e; exact absurd hc (by decide))
theorem qbs_pas : ∀ l : Bs, Pas (l.flatMap qb)
  | [] => Pas.nil
  | c :: r => by rw [List.flatMap_cons]; exact (qb_pas c).append (qbs_pas r)

theorem enc_high (r : Int) (h : ¬ (0 ≤ r ∧ r < 128)) : ∀ c ∈ tb (Utf8.encode r), 128 ≤ c.toNat := by
  have hof : ∀ n : Nat, 128 ≤ n → n < 256 → 128 ≤ (UInt8.ofNat n).toNat := fun n h1 h2 => by
    rw [UInt8.toNat_ofNat']
    have : n % 256 = n := Nat.mod_eq_of_lt h2
    simp only [Nat.reducePow]
    omega
  unfold Utf8.encode
  have hc : 128 ≤ (if Utf8.valid r = true then r.toNat else Utf8.runeError) ∧ (if Utf8.valid r = true then r.toNat else Utf8.runeError) < 1114112 := by
    split
    · rename_i hv
      unfold Utf8.valid at hv
      simp at hv
      omega
    · decide
  revert hc
  generalize (if Utf8.valid r = true then r.toNat else Utf8.runeError) = n
  intro ⟨h1, h2⟩
  simp only
  rw [if_neg (by omega)]
  split
  · intro c hc
    simp only [tb, List.mem_cons, List.not_mem_nil, or_false] at hc
    rcases hc with rfl | rfl
    · exact hof _ (by omega) (by omega)
    · exact hof _ (by omega) (by omega)
  · split
    · intro c hc
      simp only [tb, List.mem_cons, List.not_mem_nil, or_false] at hc
      rcases hc with rfl | rfl | rfl
      · exact hof _ (by omega) (by omega)
      · exact hof _ (by omega) (by omega)
      · exact hof _ (by omega) (by omega)
    · intro c hc
      simp only [tb, List.mem_cons, List.not_mem_nil, or_false] at hc
      rcases hc with rfl | rfl | rfl | rfl
      · exact hof _ (by omega) (by omega)
      · exact hof _ (by omega) (by omega)
      · exact hof _ (by omega) (by omega)
      · exact hof _ (by omega) (by omega)
theorem high_flat : ∀ l : Bs, (∀ c ∈ l, 128 ≤ c.toNat) → l.flatMap qb = l
  | [], _ => rfl
  | c :: r, h => by
    rw [List.flatMap_cons, qb_high (h c (by simp)), high_flat r fun d hd => h d (by simp [hd])]
    rfl
theorem quoteR_flat (r : Nat) : tb (quoteR r) = (tb (Utf8.encode (r : Int))).flatMap qb := by
  by_cases h : r < 128
  · rw [enc_low r h]
    simp only [List.flatMap_cons, List.flatMap_nil, List.append_nil]
    exact (qb_low ⟨r, h⟩).symm
  · rw [high_flat _ (enc_high _ (by omega))]
    unfold quoteR
    rw [if_neg (by omega), if_neg (by omega), if_neg (by omega), if_neg (by omega), if_neg (by omega)]
theorem quoteL_flat : ∀ (l : List (Nat × Nat)) (acc : ByteArray), tb (quoteL acc l) = tb acc ++ (l.flatMap fun x => tb (Utf8.encode (x.2 : Int))).flatMap qb
  | [], acc => by simp [quoteL]
  | x :: r, acc => by
    have e : quoteL acc (x :: r) = quoteL (acc ++ quoteR x.2) r := rfl
    rw [e, quoteL_flat r, tb_append, quoteR_flat, List.flatMap_cons, List.flatMap_append, List.append_assoc]

/-- a text that is UTF-8 all through -/
def GoodS (a : ByteArray) : Prop := ((runesOf (tb a)).flatMap fun x => tb (Utf8.encode (x.2 : Int))) = tb a
theorem quote_form {a : ByteArray} (h : GoodS a) : tb (quoteS a) = 34 :: ((tb a).flatMap qb ++ [34]) := by
  unfold quoteS
  rw [tb_append, quoteL_flat, show runesOf a.data.toList = runesOf (tb a) from rfl, show (runesOf (tb a)).flatMap (fun x => tb (Utf8.encode (x.2 : Int))) = tb a from h]
  rfl
noncomputable def strOf (l : Bs) : ByteArray := by
  classical exact if h : ∃ a, GoodS a ∧ (tb a).flatMap qb = l then h.choose else ⟨#[]⟩
theorem strOf_eq {a : ByteArray} (h : GoodS a) : strOf ((tb a).flatMap qb) = a := by
  have hx : ∃ b, GoodS b ∧ (tb b).flatMap qb = (tb a).flatMap qb := ⟨a, h, rfl⟩
  unfold strOf
  rw [dif_pos hx]
  exact tb_inj (qbs_inj _ _ hx.choose_spec.2)

end Go.Proofs.YtbghpkoimbmijaaGreatDoor

/- Plain law: sound types; a type but for what its text does not tell. -/
namespace Go.Proofs.YtbghpkoimbmijaaGreatDoor
open Go.RowKit
set_option linter.unusedSimpArgs false

mutual
def Ty.canon : Ty → Ty
  | .mk k n nm ps ns ms => .mk k (if k = 20 then 0 else n) nm (Ty.canons ps) ns ms
def Ty.canons : List Ty → List Ty
  | [] => []
  | p :: r => p.canon :: Ty.canons r
end
theorem Ty.canons_eq : ∀ ps : List Ty, Ty.canons ps = ps.map Ty.canon
  | [] => rfl
  | p :: r => by rw [Ty.canons, Ty.canons_eq r]; rfl
theorem Ty.canon_mk (k n : Int) (nm : ByteArray) (ps : List Ty) (ns : List ByteArray) (ms : List Bool) : (Ty.mk k n nm ps ns ms).canon = .mk k (if k = 20 then 0 else n) nm (ps.map Ty.canon) ns ms := by rw [Ty.canon, Ty.canons_eq]
theorem Ty.canon_kind : ∀ t : Ty, t.canon.kind = t.kind
  | .mk k n nm ps ns ms => by rw [Ty.canon]; rfl

theorem textK_num {k n n' : Int} (h : k = 20 ∨ n = n') (nm : ByteArray) (ts : List (Int × ByteArray)) (ns : List ByteArray) (ms : List Bool) : textK k n nm ts ns ms = textK k n' nm ts ns ms := by
  rcases h with rfl | rfl
  · simp [textK]
  · rfl
mutual
theorem Ty.text_canon : ∀ t : Ty, t.canon.text = t.text
  | .mk k n nm ps ns ms => by
    rw [Ty.canon, Ty.text, Ty.text, Ty.texts_canon ps]
    apply textK_num
    by_cases h : k = 20
    · exact .inl h
    · exact .inr (if_neg h)
theorem Ty.texts_canon : ∀ ps : List Ty, Ty.texts (Ty.canons ps) = Ty.texts ps
  | [] => rfl
  | p :: r => by rw [Ty.canons, Ty.texts, Ty.texts, Ty.text_canon p, Ty.texts_canon r, Ty.canon_kind]
end

mutual
def Ty.nodes : Ty → Nat
  | .mk _ _ _ ps _ _ => 1 + Ty.nodesL ps
def Ty.nodesL : List Ty → Nat
  | [] => 0
  | p :: r => p.nodes + Ty.nodesL r
end
theorem Ty.nodesL_eq : ∀ ps : List Ty, Ty.nodesL ps = (ps.map Ty.nodes).sum
  | [] => rfl
  | p :: r => by rw [Ty.nodesL, Ty.nodesL_eq r]; simp
theorem Ty.nodes_mk (k n : Int) (nm : ByteArray) (ps : List Ty) (ns : List ByteArray) (ms : List Bool) : (Ty.mk k n nm ps ns ms).nodes = 1 + (ps.map Ty.nodes).sum := by rw [Ty.nodes, Ty.nodesL_eq]
theorem Ty.nodes_pos : ∀ t : Ty, 1 ≤ t.nodes
  | .mk k n nm ps ns ms => by rw [Ty.nodes]; omega
theorem sum_mem {x : Nat} : ∀ {l : List Nat}, x ∈ l → x ≤ l.sum
  | y :: r, h => by
    rw [List.sum_cons]
    rcases List.mem_cons.1 h with rfl | h
    · omega
    · have := sum_mem h
      omega
theorem Ty.part_nodes {k n : Int} {nm : ByteArray} {ps : List Ty} {ns : List ByteArray} {ms : List Bool} {p : Ty} (h : p ∈ ps) : p.nodes < (Ty.mk k n nm ps ns ms).nodes := by
  rw [Ty.nodes_mk]
  have := sum_mem (List.mem_map_of_mem (f := Ty.nodes) h)
  omega
theorem Ty.parts_nodes (ps : List Ty) : ps.length ≤ (ps.map Ty.nodes).sum := by
  induction ps with
  | nil => simp
  | cons p r ih =>
    have := p.nodes_pos
    simp only [List.length_cons, List.map_cons, List.sum_cons]
    omega

def isD (c : UInt8) : Bool := decide (48 ≤ c.toNat ∧ c.toNat ≤ 57)
def isL (c : UInt8) : Bool := decide ((97 ≤ c.toNat ∧ c.toNat ≤ 122) ∨ (65 ≤ c.toNat ∧ c.toNat ≤ 90) ∨ c.toNat = 95 ∨ c.toNat = 36)
def isN (c : UInt8) : Bool := isL c || isD c
structure NameOk (s : ByteArray) : Prop where
  first : ∃ c r, tb s = c :: r ∧ isL c = true
  all : ∀ c ∈ tb s, isN c = true
/-- the text of a type within a union -/
def Ty.partT (t : Ty) : ByteArray := partS t.kind t.text
def Rising (l : List ByteArray) : Prop := l.Pairwise fun a b => ltS a b = true
/-- behind a mark none lacks -/
def OptMarks (l : List Bool) : Prop := l.Pairwise fun a b => a = true → b = true

/-- types that may be -/
inductive Ty.Valid : Ty → Prop
  | basic {k : Int} (h1 : 1 ≤ k) (h2 : k ≤ 10) : Valid (.mk k 0 ⟨#[]⟩ [] [] [])
  | num {n : Int} (h1 : -9007199254740991 ≤ n) (h2 : n ≤ 9007199254740991) : Valid (.mk 11 n ⟨#[]⟩ [] [] [])
  | str {s : ByteArray} (h : GoodS s) : Valid (.mk 12 0 s [] [] [])
  | arr {p : Ty} (hp : Valid p) : Valid (.mk 13 0 ⟨#[]⟩ [p] [] [])
  | obj (xs : List (ByteArray × Bool × Ty)) (hn : ∀ x ∈ xs, NameOk x.1) (hr : Rising (xs.map (·.1))) (hp : ∀ x ∈ xs, Valid x.2.2) : Valid (.mk 14 0 ⟨#[]⟩ (xs.map (·.2.2)) (xs.map (·.1)) (xs.map (·.2.1)))
  | fn (xs : List (Ty × Bool)) (r : Ty) (ho : OptMarks (xs.map (·.2))) (hp : ∀ x ∈ xs, Valid x.1) (hr : Valid r) : Valid (.mk 15 0 ⟨#[]⟩ (xs.map (·.1) ++ [r]) [] (xs.map (·.2)))
  | un (ps : List Ty) (hl : 2 ≤ ps.length) (hk : ∀ p ∈ ps, p.kind ≠ 16 ∧ p.kind ≠ 1 ∧ p.kind ≠ 2 ∧ p.kind ≠ 3) (hs : ps.Pairwise fun a b => ltS a.partT b.partT = true)
      (hg : ∀ p ∈ ps, (p.kind = 11 → ∀ q ∈ ps, q.kind ≠ 7) ∧ (p.kind = 12 → ∀ q ∈ ps, q.kind ≠ 8) ∧ (p.kind = 20 → ∀ q ∈ ps, q.kind = 19 → ∀ e ∈ p.parts, q.text ≠ e.text)) (hp : ∀ p ∈ ps, Valid p) : Valid (.mk 16 0 ⟨#[]⟩ ps [] [])
  | ref {n : Int} {nm : ByteArray} (ps : List Ty) (h1 : 0 ≤ n) (h2 : n ≤ 9223372036854775807) (hn : NameOk nm) (hp : ∀ p ∈ ps, Valid p) : Valid (.mk 17 n nm ps [] [])
  | named {k n : Int} {nm : ByteArray} (hk : k = 18 ∨ k = 19 ∨ k = 21 ∨ k = 22 ∨ k = 23) (h1 : 0 ≤ n) (h2 : n ≤ 9223372036854775807) (hn : NameOk nm) : Valid (.mk k n nm [] [] [])
  | case {n m : Int} {nm nm' : ByteArray} (h1 : 0 ≤ n) (h2 : n ≤ 9223372036854775807) (hn : NameOk nm) (h1' : 0 ≤ m) (h2' : m ≤ 9223372036854775807) (hn' : NameOk nm') : Valid (.mk 20 n nm [.mk 19 m nm' [] [] []] [] [])

end Go.Proofs.YtbghpkoimbmijaaGreatDoor

/- Plain law: a type's text tells the type: how a text is read. -/
namespace Go.Proofs.YtbghpkoimbmijaaGreatDoor
open Go.RowKit
set_option linter.unusedSimpArgs false

theorem span_run {p : UInt8 → Bool} : ∀ (a s : Bs), (∀ c ∈ a, p c = true) → (∀ c r, s = c :: r → p c = false) → (a ++ s).takeWhile p = a ∧ (a ++ s).dropWhile p = s
  | [], s, _, h => by
    cases s with
    | nil => simp
    | cons c r => simp [h c r rfl]
  | x :: a, s, h1, h2 => by
    have hx := h1 x (by simp)
    have ih := span_run a s (fun c hc => h1 c (by simp [hc])) h2
    simp [hx, ih.1, ih.2]
theorem dec_digits (u : Nat) : ∀ c ∈ Lib.decDigits u, isD c = true := by
  induction u using Nat.strongRecOn with
  | ind u ih =>
    intro c hc
    rw [Lib.decDigits] at hc
    split at hc
    · rename_i h
      simp only [List.mem_singleton] at hc
      subst hc
      have key : ∀ n : Fin 10, isD (UInt8.ofNat (48 + n.val)) = true := by decide
      exact key ⟨u, h⟩
    · rename_i h
      rcases List.mem_append.1 hc with hc | hc
      · exact ih (u / 10) (by omega) c hc
      · simp only [List.mem_singleton] at hc
        subst hc
        have key : ∀ n : Fin 10, isD (UInt8.ofNat (48 + n.val)) = true := by decide
        exact key ⟨u % 10, by omega⟩
theorem dec_ne (u : Nat) : Lib.decDigits u ≠ [] := by
  rw [Lib.decDigits]
  split <;> simp
theorem dec_first (u : Nat) : ∃ c r, Lib.decDigits u = c :: r ∧ isD c = true := by
  cases h : Lib.decDigits u with
  | nil => exact absurd h (dec_ne u)
  | cons c r => exact ⟨c, r, rfl, dec_digits u c (by rw [h]; simp)⟩
theorem ofNat_dig : ∀ a b : Fin 10, UInt8.ofNat (48 + a.val) = UInt8.ofNat (48 + b.val) → a = b := by decide
theorem dec_inj (u : Nat) : ∀ v, Lib.decDigits u = Lib.decDigits v → u = v := by
  induction u using Nat.strongRecOn with
  | ind u ih =>
    intro v h
    rw [Lib.decDigits] at h
    rw [Lib.decDigits.eq_def v] at h
    by_cases h1 : u < 10
    · by_cases h2 : v < 10
      · rw [dif_pos h1, dif_pos h2] at h
        injection h with h _
        have := ofNat_dig ⟨u, h1⟩ ⟨v, h2⟩ h
        exact congrArg Fin.val this
      · rw [dif_pos h1, dif_neg h2] at h
        have hl := congrArg List.length h
        have := List.length_pos_iff.2 (dec_ne (v / 10))
        simp only [List.length_append, List.length_cons, List.length_nil] at hl
        omega
    · by_cases h2 : v < 10
      · rw [dif_neg h1, dif_pos h2] at h
        have hl := congrArg List.length h
        have := List.length_pos_iff.2 (dec_ne (u / 10))
        simp only [List.length_append, List.length_cons, List.length_nil] at hl
        omega
      · rw [dif_neg h1, dif_neg h2] at h
        obtain ⟨e1, e2⟩ := List.append_inj' h rfl
        have e3 := ih (u / 10) (by omega) (v / 10) e1
        injection e2 with e2 _
        have := congrArg Fin.val (ofNat_dig ⟨u % 10, by omega⟩ ⟨v % 10, by omega⟩ e2)
        simp only at this
        omega
theorem itoa_inj (n m : Int) (h : Lib.itoa n = Lib.itoa m) : n = m := by
  unfold Lib.itoa at h
  by_cases h1 : n < 0
  · by_cases h2 : m < 0
    · rw [if_pos h1, if_pos h2] at h
      injection h with _ h
      have := dec_inj _ _ h
      omega
    · rw [if_pos h1, if_neg h2] at h
      obtain ⟨c, r, e, hc⟩ := dec_first m.toNat
      rw [e] at h
      injection h with h _
      subst h
      exact absurd hc (by decide)
  · by_cases h2 : m < 0
    · rw [if_neg h1, if_pos h2] at h
      obtain ⟨c, r, e, hc⟩ := dec_first n.toNat
      rw [e] at h
      injection h with h _
      subst h
      exact absurd hc (by decide)
    · rw [if_neg h1, if_neg h2] at h
      have := dec_inj _ _ h
      omega
noncomputable def numOf (l : Bs) : Int := by
  classical exact if h : ∃ n, Lib.itoa n = l then h.choose else 0
theorem numOf_itoa (n : Int) : numOf (Lib.itoa n) = n := by
  have hx : ∃ m, Lib.itoa m = Lib.itoa n := ⟨n, rfl⟩
  unfold numOf
  rw [dif_pos hx]
  exact itoa_inj _ _ hx.choose_spec
theorem numOf_dec (n : Int) (h : 0 ≤ n) : numOf (Lib.decDigits n.toNat) = n := by
  have e : Lib.itoa n = Lib.decDigits n.toNat := by unfold Lib.itoa; rw [if_neg (by omega)]
  rw [← e]
  exact numOf_itoa n
theorem tb_numS (n : Int) : tb (numS n) = Lib.itoa n := tb_mk _
theorem tb_nat (n : Int) (h : 0 ≤ n) : tb (numS n) = Lib.decDigits n.toNat := by
  rw [tb_numS]
  unfold Lib.itoa
  rw [if_neg (by omega)]

/-- what may stand behind a type, and behind a part of one -/
def Stop : Bs → Prop
  | [] => True
  | c :: _ => c = 41 ∨ c = 44 ∨ c = 59 ∨ c = 125 ∨ c = 62 ∨ c = 63
def Soft : Bs → Prop
  | [] => True
  | c :: r => c = 41 ∨ c = 44 ∨ c = 59 ∨ c = 125 ∨ c = 62 ∨ c = 63 ∨ c = 91 ∨ (c = 32 ∧ ∃ r', r = 124 :: r')
theorem Stop.soft {s : Bs} (h : Stop s) : Soft s := by
  cases s with
  | nil => trivial
  | cons c r =>
    rcases h with h | h | h | h | h | h
    · exact .inl h
    · exact .inr (.inl h)
    · exact .inr (.inr (.inl h))
    · exact .inr (.inr (.inr (.inl h)))
    · exact .inr (.inr (.inr (.inr (.inl h))))
    · exact .inr (.inr (.inr (.inr (.inr (.inl h)))))
theorem Soft.head {c : UInt8} {r : Bs} (h : Soft (c :: r)) : isN c = false ∧ isD c = false ∧ c ≠ 35 ∧ c ≠ 39 ∧ c ≠ 46 ∧ c ≠ 60 ∧ c ≠ 64 := by
  rcases h with rfl | rfl | rfl | rfl | rfl | rfl | rfl | ⟨rfl, _⟩ <;> decide

def eat (x l : Bs) : Option Bs := if x.isPrefixOf l then some (l.drop x.length) else none
theorem eat_ok (x s : Bs) : eat x (x ++ s) = some s := by
  unfold eat
  rw [if_pos (by simp)]
  simp
theorem eat_nil (c : UInt8) (x : Bs) : eat (c :: x) [] = none := by simp [eat]
theorem eat_no {c d : UInt8} (x s : Bs) (h : c ≠ d) : eat (c :: x) (d :: s) = none := by simp [eat, h]
theorem eat_no2 {a c d : UInt8} (x s : Bs) (h : c ≠ d) : eat (a :: c :: x) (a :: d :: s) = none := by simp [eat, h]
theorem eat_head {c : UInt8} {x l : Bs} (h : ∀ d r, l = d :: r → c ≠ d) : eat (c :: x) l = none := by
  cases l with
  | nil => exact eat_nil c x
  | cons d r => exact eat_no x r (h d r rfl)

/-- elements with separators between, up to the close -/
def listOf {α : Type} (item : Bs → Option (α × Bs)) (close sep : Bs) : Nat → Bs → Option (List α × Bs)
  | 0, _ => none
  | n + 1, l => match item l with
    | none => none
    | some (x, r) => match eat close r with
      | some r2 => some ([x], r2)
      | none => match eat sep r with
        | some r2 => match listOf item close sep n r2 with
          | some (xs, r3) => some (x :: xs, r3)
          | none => none
        | none => none
theorem list_read {α β : Type} (item : Bs → Option (α × Bs)) (close sep : Bs) (f : β → Bs) (g : β → α) (hcs : ∀ r, eat close (sep ++ r) = none) : ∀ (bs : List β), bs ≠ [] → (∀ b ∈ bs, ∀ s, ((∃ r, s = close ++ r) ∨ ∃ r, s = sep ++ r) → item (f b ++ s) = some (g b, s)) → ∀ n s, bs.length ≤ n → listOf item close sep n (Lib.join (bs.map f) sep ++ (close ++ s)) = some (bs.map g, s)
  | [], h, _, _, _, _ => absurd rfl h
  | [b], _, hi, n, s, hn => by
    obtain ⟨m, rfl⟩ : ∃ m, n = m + 1 := ⟨n - 1, by simp at hn; omega⟩
    have e : Lib.join ([b].map f) sep = f b := by simp [Lib.join_one]
    rw [e, listOf, hi b (by simp) _ (.inl ⟨s, rfl⟩)]
    simp only [eat_ok, List.map_cons, List.map_nil]
  | b :: c :: bs, _, hi, n, s, hn => by
    obtain ⟨m, rfl⟩ : ∃ m, n = m + 1 := ⟨n - 1, by simp at hn; omega⟩
    have e : Lib.join ((b :: c :: bs).map f) sep ++ (close ++ s) = f b ++ (sep ++ (Lib.join ((c :: bs).map f) sep ++ (close ++ s))) := by
      simp [Lib.join, List.intercalate]
    have ih := list_read item close sep f g hcs (c :: bs) (by simp) (fun x hx => hi x (by simp at hx ⊢; exact .inr hx)) m s (by simp at hn ⊢; omega)
    rw [e, listOf, hi b (by simp) _ (.inr ⟨_, rfl⟩)]
    simp only [hcs, eat_ok]
    rw [ih]
    rfl

section
variable (rd : Bs → Option (Ty × Bs))
def paramR (l : Bs) : Option ((Ty × Bool) × Bs) := match rd l with
  | some (t, r) => match eat [63] r with
    | some r1 => some ((t, true), r1)
    | none => some ((t, false), r)
  | none => none
def memberR (l : Bs) : Option ((ByteArray × Bool × Ty) × Bs) :=
  match eat [63] (l.dropWhile isN) with
  | some r1 => match eat [58, 32] r1 with
    | some r2 => match rd r2 with
      | some (t, r3) => some ((⟨(l.takeWhile isN).toArray⟩, true, t), r3)
      | none => none
    | none => none
  | none => match eat [58, 32] (l.dropWhile isN) with
    | some r2 => match rd r2 with
      | some (t, r3) => some ((⟨(l.takeWhile isN).toArray⟩, false, t), r3)
      | none => none
    | none => none
def kwK (w : Bs) : Int := if w = [99, 108, 97, 115, 115] then 21 else if w = [101, 110, 117, 109] then 22 else if w = [110, 97, 109, 101, 115, 112, 97, 99, 101] then 23 else 0
def wordK (w : Bs) : Int := if w = tb (wordS 1) then 1 else if w = tb (wordS 2) then 2 else if w = tb (wordS 3) then 3 else if w = tb (wordS 4) then 4 else if w = tb (wordS 5) then 5 else if w = tb (wordS 6) then 6 else if w = tb (wordS 7) then 7 else if w = tb (wordS 8) then 8 else if w = tb (wordS 9) then 9 else if w = tb (wordS 10) then 10 else 0
noncomputable def wordR (n : Nat) (w r : Bs) : Option (Ty × Bool × Bs) :=
  match eat [35] r with
  | some r1 => match eat [60] (r1.dropWhile isD) with
    | some r3 => match listOf rd [62] [44, 32] n r3 with
      | some (xs, r4) => some (.mk 17 (numOf (r1.takeWhile isD)) ⟨w.toArray⟩ xs [] [], false, r4)
      | none => none
    | none => some (.mk 17 (numOf (r1.takeWhile isD)) ⟨w.toArray⟩ [] [] [], false, r1.dropWhile isD)
  | none => match eat [39] r with
    | some r1 => some (.mk 18 (numOf (r1.takeWhile isD)) ⟨w.toArray⟩ [] [] [], false, r1.dropWhile isD)
    | none => match eat [64] r with
      | some r1 => match eat [46] (r1.dropWhile isD) with
        | some r3 => some (.mk 20 0 ⟨(r3.takeWhile isN).toArray⟩ [.mk 19 (numOf (r1.takeWhile isD)) ⟨w.toArray⟩ [] [] []] [] [], false, r3.dropWhile isN)
        | none => some (.mk 19 (numOf (r1.takeWhile isD)) ⟨w.toArray⟩ [] [] [], false, r1.dropWhile isD)
      | none => if kwK w = 0 then some (.mk (wordK w) 0 ⟨#[]⟩ [] [] [], false, r)
        else match eat [32] r with
          | some r1 => match eat [35] (r1.dropWhile isN) with
            | some r2 => some (.mk (kwK w) (numOf (r2.takeWhile isD)) ⟨(r1.takeWhile isN).toArray⟩ [] [] [], false, r2.dropWhile isD)
            | none => none
          | none => none
noncomputable def prim (n : Nat) : Bs → Option (Ty × Bool × Bs)
  | [] => none
  | c :: l =>
    if c = 34 then some (.mk 12 0 (strOf (scanQ l).1) [] [] [], false, (scanQ l).2)
    else if c = 45 then some (.mk 11 (numOf (45 :: l.takeWhile isD)) ⟨#[]⟩ [] [] [], false, l.dropWhile isD)
    else if isD c = true then some (.mk 11 (numOf ((c :: l).takeWhile isD)) ⟨#[]⟩ [] [] [], false, (c :: l).dropWhile isD)
    else if c = 123 then
      match eat [125] l with
      | some r => some (.mk 14 0 ⟨#[]⟩ [] [] [], false, r)
      | none => match listOf (memberR rd) [125] [59, 32] n l with
        | some (xs, r) => some (.mk 14 0 ⟨#[]⟩ (xs.map (·.2.2)) (xs.map (·.1)) (xs.map (·.2.1)), false, r)
        | none => none
    else if c = 40 then
      match (match eat [41] l with | some r => some ([], r) | none => listOf (paramR rd) [41] [44, 32] n l) with
      | none => none
      | some (xs, r) => match eat [32, 61, 62, 32] r with
        | some r1 => match rd r1 with
          | some (t, r2) => some (.mk 15 0 ⟨#[]⟩ (xs.map (·.1) ++ [t]) [] (xs.map (·.2)), true, r2)
          | none => none
        | none => match xs with
          | [x] => some (x.1, false, r)
          | _ => none
    else wordR rd n ((c :: l).takeWhile isN) ((c :: l).dropWhile isN)
def strip : Nat → Ty → Bs → Ty × Bs
  | 0, t, l => (t, l)
  | n + 1, t, l => match eat [91, 93] l with
    | some r => strip n (.mk 13 0 ⟨#[]⟩ [t] [] []) r
    | none => (t, l)
noncomputable def unionR (m : Nat) : Nat → Bs → Option (List Ty × Bs)
  | 0, _ => none
  | n + 1, l => match prim rd m l with
    | some (t, false, r) => match eat [32, 124, 32] (strip m t r).2 with
      | none => some ([(strip m t r).1], (strip m t r).2)
      | some r2 => match unionR m n r2 with
        | some (xs, r3) => some ((strip m t r).1 :: xs, r3)
        | none => none
    | _ => none
noncomputable def fullR (m : Nat) (l : Bs) : Option (Ty × Bs) := match prim rd m l with
  | none => none
  | some (t, true, r) => some (t, r)
  | some (t, false, r) => match eat [32, 124, 32] (strip m t r).2 with
    | none => some (strip m t r)
    | some r2 => match unionR rd m m r2 with
      | some (xs, r3) => some (.mk 16 0 ⟨#[]⟩ ((strip m t r).1 :: xs) [] [], r3)
      | none => none
end
noncomputable def readR : Nat → Bs → Option (Ty × Bs)
  | 0, _ => none
  | f + 1, l => fullR (readR f) f l

end Go.Proofs.YtbghpkoimbmijaaGreatDoor
