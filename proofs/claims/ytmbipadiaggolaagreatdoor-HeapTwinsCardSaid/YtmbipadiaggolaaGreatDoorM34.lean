import Derived.Test.YtmbipadiaggolaaGreatDoorM33
/- YtmbipadiaggolaaGreatDoorM34: lemmas of the proof, in order: ShowI. -/
/- Show: an object whose members are shown (printed by mkobj.py out of ShowH). -/
namespace Go.Proofs.YtmbipadiaggolaaGreatDoor
open Go.RowKit
set_option linter.unusedSimpArgs false
attribute [local go_sem] Oper.semAt_some ta_aa ta_ao ta_an ta_oa ta_oo ta_on m_kind_a m_kind_o m_behind_a m_behind_o m_own_a m_own_o

theorem ShowAt.fresh_eq {B sb : Nat} {hv : Value} {bs : List UInt8} {w W : World} {o : Obj} (h : ShowAt B sb hv bs w) (e : W = w.alloc o) : Boxd sb W w.heap.size o := by subst e; exact h.fresh _

set_option maxRecDepth 100000 in
set_option maxHeartbeats 16000000 in
theorem value_obj (B sb : Nat) (hv : Value) (H : HM) (tvs : List Value) (own : Own) (bs : List UInt8) (n d : Int) (s : ByteArray) (w : World) (h : ShowIn B sb hv H tvs own bs w) (h0 : 0 ≤ n) (t : Thing) (a : Option Addr) (pv : Value) (hpv : pv = .nilIface ∨ ∃ T y, pv = .iface T y)
    (htv : tvs[n.toNat]? = some (.iface 96 (.agg #[.pointer a, .int .i64 1, pv]))) (ht : H.things[n.toNat]? = some t) (hkind : t.kind = 1) (hd : (d == 3) = false) (hd0 : 0 ≤ d) (hd3 : d ≤ 3) (rec : Val → List UInt8 → Bool × List UInt8) (okP : Part → Prop) (hok : ∀ x ∈ partsOf t, okP x) (hlen : (partsOf t).length ≤ 1048576)
    (hkey : ∀ x, okP x → x.key.size ≤ 140737488351232)
    (hrec : ∀ (x : Part) (bs' : List UInt8) (W : World), okP x → ShowIn B sb hv H tvs own bs' W → Below B w W → Calls Tryz.prog 36 #[.pointer (some ⟨sb, 0, none⟩), .agg #[.int .i64 (x.v).k, .int .i64 (x.v).n, .string (x.v).s], .int .i64 (d + 1)] W (SaidIn B sb hv H tvs own (rec x.v bs') W)) :
    Calls Tryz.prog 36 #[.pointer (some ⟨sb, 0, none⟩), .agg #[.int .i64 5, .int .i64 n, .string s], .int .i64 d] w (SaidIn B sb hv H tvs own (shownThing rec t bs) w) := by
  have hh := Lib.hid h
  have HN := Lib.hid htv
  have HR := Lib.hid hrec
  have HT := Lib.hid (And.intro ht (And.intro hkind (And.intro hok hlen)))
  obtain ⟨p0, v0, hsb0, _⟩ := h.at_.there
  have c0 := cell_of hsb0 0
  simp only [List.getElem?_toArray, List.getElem?_cons_zero] at c0
  have hlt := h.at_.lt
  clear h hsb0 htv hrec ht hkind hok hlen
  have c1 : ∀ o1 o2 o3, (((w.alloc o1).alloc o2).alloc o3).cell? ⟨sb, 0, none⟩ = some hv := fun o1 o2 o3 => (Up.cells (show Up w (((w.alloc o1).alloc o2).alloc o3) from uq) sb 0 hlt).trans c0
  refine callsIn_wide.1 (callsIn_of_wp_marks (n := 2) Tryz.func36 rfl trivial ?_)
  refine wpIn_wide.2 ?_
  simp only [Tryz.ntmps36, List.size_toArray, List.length_cons, List.length_nil, Nat.reduceAdd, Nat.reduceSub, Array.replicate_succ, Array.replicate_zero, List.push_toArray, List.append_toArray, List.nil_append, List.cons_append]
  go_wp2_with fail
  refine wp_scope_straight ?_
  go_wp2_with fail
  go_region_held3 (fun W => W.cell? ⟨w.heap.size, 0, none⟩ = some (.pointer (some ⟨sb, 0, none⟩)) ∧ W.cell? ⟨sb, 0, none⟩ = some hv ∧ W.cell? ⟨w.heap.size + 1, 0, none⟩ = some (.int .i64 5) ∧ W.cell? ⟨w.heap.size + 1, 1, none⟩ = some (.int .i64 n) ∧ W.cell? ⟨w.heap.size + 1, 2, none⟩ = some (.string s)) (go_keep) (first | (go_at_call 40; refine (thing_some hv H tvs own _ _ _ _ _ (hh.out.heap.up uq) rfl h0 HN.out).mono ?_; rintro e w1 ⟨rfl, hu⟩; have s0 := hu.get (Up.get uq (alloc_get w _)); have B3 := Lib.hid s0; have a0 := cell_of s0 0; have a1 := cell_of s0 1; have a2 := cell_of s0 2; have f0 := ice_of s0 0; have f1 := ice_of s0 1; have f2 := ice_of s0 2; have a4 := lt_of_heap s0; (try simp only [World.size_alloc, List.getElem?_toArray, List.getElem?_cons_zero, List.getElem?_cons_succ] at a0 a1 a2 f0 f1 f2 a4); clear s0; have s0 := hu.get (Up.get uq (alloc_get (w.alloc _) _)); simp only [World.size_alloc] at s0; have B4 := Lib.hid s0; have a0 := cell_of s0 0; have a1 := cell_of s0 1; have a2 := cell_of s0 2; have f0 := ice_of s0 0; have f1 := ice_of s0 1; have f2 := ice_of s0 2; have a4 := lt_of_heap s0; (try simp only [World.size_alloc, List.getElem?_toArray, List.getElem?_cons_zero, List.getElem?_cons_succ] at a0 a1 a2 f0 f1 f2 a4); clear s0; have s0 := hu.get (Up.get uq (alloc_get ((w.alloc _).alloc _) _)); simp only [World.size_alloc] at s0; have B5 := Lib.hid s0; have a0 := cell_of s0 0; have a1 := cell_of s0 1; have a2 := cell_of s0 2; have f0 := ice_of s0 0; have f1 := ice_of s0 1; have f2 := ice_of s0 2; have a4 := lt_of_heap s0; (try simp only [World.size_alloc, List.getElem?_toArray, List.getElem?_cons_zero, List.getElem?_cons_succ] at a0 a1 a2 f0 f1 f2 a4); clear s0; have z0 := (hu.cells sb 0 (by simp; omega)); have hw1 : Up w w1 := uq))
  clear c1
  rcases hpv with rfl | ⟨T, y, rfl⟩
  all_goals
    go_wp2_with (first | (go_at_call 123; refine (kind_o _ _ _ _).mono ?_; rintro e wk ⟨rfl, hk⟩; have s0 := hk.get (Up.get uq B3.out); have B3 := Lib.hid s0; have a0 := cell_of s0 0; have a1 := cell_of s0 1; have a2 := cell_of s0 2; have f0 := ice_of s0 0; have f1 := ice_of s0 1; have f2 := ice_of s0 2; have a4 := lt_of_heap s0; (try simp only [World.size_alloc, List.getElem?_toArray, List.getElem?_cons_zero, List.getElem?_cons_succ] at a0 a1 a2 f0 f1 f2 a4); clear s0; have s0 := hk.get (Up.get uq B4.out); have B4 := Lib.hid s0; have a0 := cell_of s0 0; have a1 := cell_of s0 1; have a2 := cell_of s0 2; have f0 := ice_of s0 0; have f1 := ice_of s0 1; have f2 := ice_of s0 2; have a4 := lt_of_heap s0; (try simp only [World.size_alloc, List.getElem?_toArray, List.getElem?_cons_zero, List.getElem?_cons_succ] at a0 a1 a2 f0 f1 f2 a4); clear s0; have s0 := hk.get (Up.get uq B5.out); have B5 := Lib.hid s0; have a0 := cell_of s0 0; have a1 := cell_of s0 1; have a2 := cell_of s0 2; have f0 := ice_of s0 0; have f1 := ice_of s0 1; have f2 := ice_of s0 2; have a4 := lt_of_heap s0; (try simp only [World.size_alloc, List.getElem?_toArray, List.getElem?_cons_zero, List.getElem?_cons_succ] at a0 a1 a2 f0 f1 f2 a4); clear s0; have hwk : Up w wk := uq))
    go_cut [9] from 54 to 57 (fun v9 wx => OpenAt B sb hv wk (laid bs ⟨#[123]⟩) (fitsB bs ⟨#[123]⟩) v9 wx)
    case first =>
      go_region_held3 (fun W => W.cell? ⟨w.heap.size, 0, none⟩ = some (.pointer (some ⟨sb, 0, none⟩))) (first | go_keep | (refine (cell_set_ne (by omega)).trans ?_; assumption)) (first | (go_at_call 56; refine (says_any B sb hv bs _ _ (hh.out.at_.up uq) hh.out.len).mono ?_; rintro e w3 ⟨rfl, hS, hK⟩; have s0 := Showed.own hh.out.at_ uq hK (Nat.le_refl _) (Up.get (w := wk) uq B3.out); have a0 := cell_of s0 0; have a1 := cell_of s0 1; have a2 := cell_of s0 2; have f0 := ice_of s0 0; have f1 := ice_of s0 1; have f2 := ice_of s0 2; have a4 := lt_of_heap s0; (try simp only [World.size_alloc, List.getElem?_toArray, List.getElem?_cons_zero, List.getElem?_cons_succ] at a0 a1 a2 f0 f1 f2 a4); clear s0; first | (have s0 := Showed.own hh.out.at_ uq (show Showed sb (wk.alloc (.cells #[.bool false] 4)).drew w3 from hK) (x := wk.heap.size) hwk.size (alloc_get wk _); have a0 := cell_of s0 0; have a1 := cell_of s0 1; have a2 := cell_of s0 2; have f0 := ice_of s0 0; have f1 := ice_of s0 1; have f2 := ice_of s0 2; have a4 := lt_of_heap s0; (try simp only [World.size_alloc, List.getElem?_toArray, List.getElem?_cons_zero, List.getElem?_cons_succ] at a0 a1 a2 f0 f1 f2 a4); clear s0) | skip))
      all_goals (go_wp2_with fail; go_meet)
      all_goals rw [sign_obj0] at hS ⊢
      · exact OpenAt.late (hh.out.at_.up hwk) hS hK
      · exact OpenAt.early (hh.out.at_.up hwk) hS hK
    case rest =>
      obtain ⟨kF, rfl, hkF, hFb, hSc, hKc⟩ := hcut
      go_wp2_with fail
      apply wp_label
      go_wp2_with (first | (go_at_call 59; refine (parts_any _ _ _).mono ?_; rintro e wk ⟨rfl, rfl⟩))
      refine range_any fun A W4 hA hW => ?_
      have hin : ShowIn B sb hv H tvs own (laid bs ⟨#[123]⟩) W4 := by
        subst hW
        exact ((hh.out.up hwk).on hKc hSc (laid_len hh.out.len)).up ((Up.refl wc).alloc _)
      have hsw : Showed sb w W4 := by
        subst hW
        exact ((Showed.of_up hwk hlt).trans hKc).up ((Up.refl wc).alloc _) hSc.lt
      have hbs : Boxd sb W4 w.heap.size (.cells #[.pointer (some ⟨sb, 0, none⟩)] 116 (0, 0)) := by
        subst hW
        exact (Boxd.on ⟨B3.out, by omega, fun e => by rw [bufOf_up (hwk.block sb hlt)] at e; have := (hh.out.at_.buf _ e).2; omega⟩ hKc).up ((Up.refl wc).alloc _) hSc.lt
      have hbd : Boxd sb W4 (w.heap.size + 1 + 1) (.cells #[.int .i64 d] 3 (0, 0)) := by
        subst hW
        exact (Boxd.on ⟨B5.out, by omega, fun e => by rw [bufOf_up (hwk.block sb hlt)] at e; have := (hh.out.at_.buf _ e).2; omega⟩ hKc).up ((Up.refl wc).alloc _) hSc.lt
      have hbF : Boxd sb W4 kF (.cells #[.bool (fitsB bs ⟨#[123]⟩)] 4 (0, 0)) := by
        subst hW
        exact hFb.up ((Up.refl wc).alloc _) hSc.lt
      have hbt := hSc.fresh_eq hW
      have hkF2 : w.heap.size ≤ kF := Nat.le_trans hwk.size hkF
      clear hW hSc hKc hFb hwk hu B3 B4 B5
      obtain ⟨ht, hkind, hok, hlen⟩ := HT.out
      have hop : opens t = ⟨#[123]⟩ := by simp [opens, hkind]
      have hcl : closes t = ⟨#[125]⟩ := by simp [closes, hkind]
      have hti := things_at hin.heap ht HN.out
      have hst := parts_stops t _ own tvs n.toNat wc.heap.size sb B W4 hti hbt.at_ hin.low hin.at_.lt hin.at_.base (fun x e => hin.at_.buf x e) hlen (fun p _ => proto_form hin.heap p) okP hok
      refine (wpIn_wide (n := 2)).1 ?_
      refine wpIn_rangeFunc_ownH rfl (by omega) (gf := 74) (lb := #[.pointer (some ⟨wc.heap.size, 0, none⟩)]) (by subst hA; rfl) trivial (enters_of Tryz.func74 (by kernel_rfl) rfl) hst
        SKeep.trans (fun W l o o' hl ho h1 h2 => SKeep.putObj W l o o' hin.at_.lt hl ho h1 h2) (Below.refl _ _) (fun _ => rfl)
        (LoopI rec (laid bs ⟨#[123]⟩) W4 B sb hv H tvs own) (LoopX rec (laid bs ⟨#[123]⟩) W4 kF B sb hv H tvs own) (LoopI.abides rec _ W4 hin.at_.room hin.at_.lt) (LoopX.abides rec _ W4 kF hin.at_.room hin.at_.lt)
        ⟨rfl, hin, Showed.refl _ _⟩ (fun x a' W => ∃ Bx, Boxd sb W Bx (.cells #[.string x.1.key, .bool x.1.keyed, .int .i64 x.1.v.k, .int .i64 x.1.v.n, .string x.1.v.s] 123 (0, 0)) ∧ W4.heap.size ≤ Bx ∧
          a' = { tmps := (((A.tmps.setIfInBounds 60 (.int .i64 x.1.i)).setIfInBounds 61 (.agg #[.string x.1.key, .bool x.1.keyed, .int .i64 x.1.v.k, .int .i64 x.1.v.n, .string x.1.v.s])).setIfInBounds 10 (.int .i64 x.1.i)).setIfInBounds 11 (.pointer (some ⟨Bx, 0, none⟩)), defers := [] })
        ?hAx ?assign ?body ?done ?stop
      case hAx =>
        rintro x a' _ X Y row ⟨Bx, h1, h2, h3⟩ hg hr
        refine ⟨Bx, ⟨?_, h1.ne, ?_⟩, h2, h3⟩
        · rw [hg.block Bx (lt_of_heap h1.at_) (fun e => by
            obtain ⟨_, o, h7, h8⟩ := hr Bx e.symm
            rw [h1.at_] at h7; cases h7; cases h8)]
          exact h1.at_
        · rw [bufOf_up (hg.block sb (Nat.lt_of_lt_of_le hin.at_.lt (Nat.le_trans h2 (Nat.le_of_lt (lt_of_heap h1.at_)))) (fun e => by have := (hr sb e.symm).1; have := hin.at_.lt; omega))]
          exact h1.buf
      case assign =>
        rintro l pre x W K hI hK
        subst hA
        simp only [Part.encs]
        gi_wp2
        exact hK _ _ ((KeepsOthers.alloc _ _).from _) ((SKeep.refl sb W).up ((Up.refl W).alloc _) hI.2.1.at_.lt) ⟨hI.1, hI.2.1.up ((Up.refl W).alloc _), hI.2.2.up ((Up.refl W).alloc _) hI.2.1.at_.lt⟩ ⟨W.heap.size, hI.2.1.at_.fresh _, hI.2.2.kept.size, rfl⟩
      case body =>
        rintro l pre x a' W hl ⟨r, hr⟩ hI ⟨Bx, hBx, hBx2, rfl⟩ hpre
        subst hA
        obtain ⟨⟨xi, xk, xkd, xv⟩, hx⟩ := x
        simp only [List.setIfInBounds_toArray, List.set_cons_succ, List.set_cons_zero]
        have hkx := hkey _ hx
        simp only at hkx
        have hI' := hI.2.1
        have hKW := Showed.refl sb W
        have b1 := hbs.on hI.2.2
        have b2 := hbd.on hI.2.2
        have b3 := hbF.on hI.2.2
        have b4 := hBx
        have hBW := hsw.trans hI.2.2
        have s0 := b1.at_
        have a0 := cell_of s0 0; have a1 := cell_of s0 1; have a2 := cell_of s0 2; have f0 := ice_of s0 0; have f1 := ice_of s0 1; have f2 := ice_of s0 2; have a4 := lt_of_heap s0; (try simp only [World.size_alloc, List.getElem?_toArray, List.getElem?_cons_zero, List.getElem?_cons_succ] at a0 a1 a2 f0 f1 f2 a4); clear s0
        have s0 := b2.at_
        have a0 := cell_of s0 0; have a1 := cell_of s0 1; have a2 := cell_of s0 2; have f0 := ice_of s0 0; have f1 := ice_of s0 1; have f2 := ice_of s0 2; have a4 := lt_of_heap s0; (try simp only [World.size_alloc, List.getElem?_toArray, List.getElem?_cons_zero, List.getElem?_cons_succ] at a0 a1 a2 f0 f1 f2 a4); clear s0
        have s0 := b3.at_
        have a0 := cell_of s0 0; have a1 := cell_of s0 1; have a2 := cell_of s0 2; have f0 := ice_of s0 0; have f1 := ice_of s0 1; have f2 := ice_of s0 2; have a4 := lt_of_heap s0; (try simp only [World.size_alloc, List.getElem?_toArray, List.getElem?_cons_zero, List.getElem?_cons_succ] at a0 a1 a2 f0 f1 f2 a4); clear s0
        have s0 := b4.at_
        have g3 := cell_of s0 3
        have g4 := cell_of s0 4
        simp only [List.getElem?_toArray, List.getElem?_cons_zero, List.getElem?_cons_succ] at g3 g4
        have a0 := cell_of s0 0; have a1 := cell_of s0 1; have a2 := cell_of s0 2; have f0 := ice_of s0 0; have f1 := ice_of s0 1; have f2 := ice_of s0 2; have a4 := lt_of_heap s0; (try simp only [World.size_alloc, List.getElem?_toArray, List.getElem?_cons_zero, List.getElem?_cons_succ] at a0 a1 a2 f0 f1 f2 a4); clear s0
        clear hr hbs hbd hbF hBx
        cases xkd
        all_goals
          by_cases hi : 0 < xi
          all_goals
            gi_wp2_with (first | (refine ⟨trivial, rfl, ?_⟩; gi_at_call 56; refine (CallsIn.inRound l (callsIn_wide.2 (says_in _ hI'))).mono ?_; rintro e W2 ⟨rfl, hI2, hK2⟩; have hI' := hI2; have hKW := hKW.trans hK2; have b1 := b1.on hK2; have b2 := b2.on hK2; have b3 := b3.on hK2; have b4 := b4.on hK2; have s0 := b1.at_; have a0 := cell_of s0 0; have a1 := cell_of s0 1; have a2 := cell_of s0 2; have f0 := ice_of s0 0; have f1 := ice_of s0 1; have f2 := ice_of s0 2; have a4 := lt_of_heap s0; (try simp only [World.size_alloc, List.getElem?_toArray, List.getElem?_cons_zero, List.getElem?_cons_succ] at a0 a1 a2 f0 f1 f2 a4); clear s0; have s0 := b2.at_; have a0 := cell_of s0 0; have a1 := cell_of s0 1; have a2 := cell_of s0 2; have f0 := ice_of s0 0; have f1 := ice_of s0 1; have f2 := ice_of s0 2; have a4 := lt_of_heap s0; (try simp only [World.size_alloc, List.getElem?_toArray, List.getElem?_cons_zero, List.getElem?_cons_succ] at a0 a1 a2 f0 f1 f2 a4); clear s0; have s0 := b3.at_; have a0 := cell_of s0 0; have a1 := cell_of s0 1; have a2 := cell_of s0 2; have f0 := ice_of s0 0; have f1 := ice_of s0 1; have f2 := ice_of s0 2; have a4 := lt_of_heap s0; (try simp only [World.size_alloc, List.getElem?_toArray, List.getElem?_cons_zero, List.getElem?_cons_succ] at a0 a1 a2 f0 f1 f2 a4); clear s0; have s0 := b4.at_; have g3 := cell_of s0 3; have g4 := cell_of s0 4; simp only [List.getElem?_toArray, List.getElem?_cons_zero, List.getElem?_cons_succ] at g3 g4; have a0 := cell_of s0 0; have a1 := cell_of s0 1; have a2 := cell_of s0 2; have f0 := ice_of s0 0; have f1 := ice_of s0 1; have f2 := ice_of s0 2; have a4 := lt_of_heap s0; (try simp only [World.size_alloc, List.getElem?_toArray, List.getElem?_cons_zero, List.getElem?_cons_succ] at a0 a1 a2 f0 f1 f2 a4); clear s0) | (refine ⟨trivial, rfl, ?_⟩; gi_at_call 36; refine (CallsIn.inRound l (callsIn_wide.2 (HR.out ⟨xi, xk, _, xv⟩ _ _ hx hI' ((hBW.trans hKW).belowB hh.out.at_)))).mono ?_; rintro e W2 ⟨rfl, hI2, hK2⟩; have hI' := hI2; have hKW := hKW.trans hK2; have b1 := b1.on hK2; have b2 := b2.on hK2; have b3 := b3.on hK2; have b4 := b4.on hK2; have s0 := b1.at_; have a0 := cell_of s0 0; have a1 := cell_of s0 1; have a2 := cell_of s0 2; have f0 := ice_of s0 0; have f1 := ice_of s0 1; have f2 := ice_of s0 2; have a4 := lt_of_heap s0; (try simp only [World.size_alloc, List.getElem?_toArray, List.getElem?_cons_zero, List.getElem?_cons_succ] at a0 a1 a2 f0 f1 f2 a4); clear s0; have s0 := b2.at_; have a0 := cell_of s0 0; have a1 := cell_of s0 1; have a2 := cell_of s0 2; have f0 := ice_of s0 0; have f1 := ice_of s0 1; have f2 := ice_of s0 2; have a4 := lt_of_heap s0; (try simp only [World.size_alloc, List.getElem?_toArray, List.getElem?_cons_zero, List.getElem?_cons_succ] at a0 a1 a2 f0 f1 f2 a4); clear s0; have s0 := b3.at_; have a0 := cell_of s0 0; have a1 := cell_of s0 1; have a2 := cell_of s0 2; have f0 := ice_of s0 0; have f1 := ice_of s0 1; have f2 := ice_of s0 2; have a4 := lt_of_heap s0; (try simp only [World.size_alloc, List.getElem?_toArray, List.getElem?_cons_zero, List.getElem?_cons_succ] at a0 a1 a2 f0 f1 f2 a4); clear s0; have s0 := b4.at_; have g3 := cell_of s0 3; have g4 := cell_of s0 4; simp only [List.getElem?_toArray, List.getElem?_cons_zero, List.getElem?_cons_succ] at g3 g4; have a0 := cell_of s0 0; have a1 := cell_of s0 1; have a2 := cell_of s0 2; have f0 := ice_of s0 0; have f1 := ice_of s0 1; have f2 := ice_of s0 2; have a4 := lt_of_heap s0; (try simp only [World.size_alloc, List.getElem?_toArray, List.getElem?_cons_zero, List.getElem?_cons_succ] at a0 a1 a2 f0 f1 f2 a4); clear s0) | (refine ⟨(trivial : Fence.wide.fn 56), ?_⟩))
            all_goals try simp only [Bool.not_eq_true', Bool.not_eq_false'] at *
            all_goals first | (exfalso; simp_all; done) | exact loop_on rec _ W4 hI (by simp [stepPart, commaS, colonS, Prod.ext_iff, *]) hI' hKW | exact loop_off rec _ W4 kF hI (by simp [stepPart, commaS, colonS, Prod.ext_iff, *]) hI' hKW b3 (Nat.le_trans hh.out.at_.room hkF2)
      case done =>
        rintro D xs W hD hS ⟨hr1, hI', hKW⟩ hK
        have hcur : curOf rec (laid bs ⟨#[123]⟩) xs = showParts rec (partsOf t) (laid bs ⟨#[123]⟩) := by rw [curOf, hS]
        rw [hcur] at hr1 hI'
        have b1 := hbs.on hKW
        have b3 := hbF.on hKW
        have HI := Lib.hid (And.intro hr1 (And.intro hI' (And.intro hKW hK)))
        clear hr1 hI' hKW hK hcur hbs hbd hbF hbt hst hti HT HR
        cases hfit : fitsB bs ⟨#[123]⟩
        · have HF := Lib.hid hfit
          rw [hfit] at b3
          clear hfit
          have s0 := b1.at_
          have a0 := cell_of s0 0; have a1 := cell_of s0 1; have a2 := cell_of s0 2; have f0 := ice_of s0 0; have f1 := ice_of s0 1; have f2 := ice_of s0 2; have a4 := lt_of_heap s0; (try simp only [World.size_alloc, List.getElem?_toArray, List.getElem?_cons_zero, List.getElem?_cons_succ] at a0 a1 a2 f0 f1 f2 a4); clear s0
          have s0 := b3.at_
          have a0 := cell_of s0 0; have a1 := cell_of s0 1; have a2 := cell_of s0 2; have f0 := ice_of s0 0; have f1 := ice_of s0 1; have f2 := ice_of s0 2; have a4 := lt_of_heap s0; (try simp only [World.size_alloc, List.getElem?_toArray, List.getElem?_cons_zero, List.getElem?_cons_succ] at a0 a1 a2 f0 f1 f2 a4); clear s0
          subst hA
          go_wp2_with fail
          go_quiet (fail)
          go_wp2_with fail
          obtain ⟨hr1, hI', hKW, hK⟩ := HI.out
          refine ⟨by simp, .inl ⟨_, _, rfl, run_takeDeferred hK, ?_⟩⟩
          refine ⟨_, results_tmp rfl _ _ _, ?_⟩
          rw [shownThing_no _ (by rw [hop, HF.out]; rfl), hop]
          exact ⟨rfl, said_end hin.at_ hI' (hsw.trans hKW) hlt hsw.kept.size uq hD hK rfl⟩
        · have HF := Lib.hid hfit
          rw [hfit] at b3
          clear hfit
          have s0 := b1.at_
          have a0 := cell_of s0 0; have a1 := cell_of s0 1; have a2 := cell_of s0 2; have f0 := ice_of s0 0; have f1 := ice_of s0 1; have f2 := ice_of s0 2; have a4 := lt_of_heap s0; (try simp only [World.size_alloc, List.getElem?_toArray, List.getElem?_cons_zero, List.getElem?_cons_succ] at a0 a1 a2 f0 f1 f2 a4); clear s0
          have s0 := b3.at_
          have a0 := cell_of s0 0; have a1 := cell_of s0 1; have a2 := cell_of s0 2; have f0 := ice_of s0 0; have f1 := ice_of s0 1; have f2 := ice_of s0 2; have a4 := lt_of_heap s0; (try simp only [World.size_alloc, List.getElem?_toArray, List.getElem?_cons_zero, List.getElem?_cons_succ] at a0 a1 a2 f0 f1 f2 a4); clear s0
          subst hA
          go_wp2_with fail
          go_region_held3 (fun W' => W'.cell? ⟨w.heap.size, 0, none⟩ = some (.pointer (some ⟨sb, 0, none⟩)) ∧ W'.cell? ⟨kF, 0, none⟩ = some (.bool true)) (go_keep) (first | (go_at_call 56; refine (says_in _ (HI.out.2.1.up uq)).mono ?_; rintro e W2 ⟨rfl, hI2, hK2⟩; have s0 := (b1.on ((Showed.of_up uq HI.out.2.1.at_.lt).trans hK2)).at_; have a0 := cell_of s0 0; have a1 := cell_of s0 1; have a2 := cell_of s0 2; have f0 := ice_of s0 0; have f1 := ice_of s0 1; have f2 := ice_of s0 2; have a4 := lt_of_heap s0; (try simp only [World.size_alloc, List.getElem?_toArray, List.getElem?_cons_zero, List.getElem?_cons_succ] at a0 a1 a2 f0 f1 f2 a4); clear s0; have s0 := (b3.on ((Showed.of_up uq HI.out.2.1.at_.lt).trans hK2)).at_; have a0 := cell_of s0 0; have a1 := cell_of s0 1; have a2 := cell_of s0 2; have f0 := ice_of s0 0; have f1 := ice_of s0 1; have f2 := ice_of s0 2; have a4 := lt_of_heap s0; (try simp only [World.size_alloc, List.getElem?_toArray, List.getElem?_cons_zero, List.getElem?_cons_succ] at a0 a1 a2 f0 f1 f2 a4); clear s0))
          go_wp2_with fail
          obtain ⟨hr1, hI', hKW, hK⟩ := HI.out
          have hK4 : Showed sb w W2 := ((hsw.trans hKW).up uq hI'.at_.lt).trans hK2
          have hK3 : W2.heap[D]? = some (.deferred (some [])) := ((hI'.up (Up.refl _).drew).at_.keeps hK2 0).same D _ (Nat.zero_le _) hK rfl
          refine ⟨by simp, .inl ⟨_, _, rfl, run_takeDeferred hK3, ?_⟩⟩
          refine ⟨_, results_tmp rfl _ _ _, ?_⟩
          rw [shownThing_yes _ (by rw [hop, HF.out]; simpa using hr1), hop, hcl]
          rw [sign_obj1] at hI2 ⊢
          exact ⟨rfl, said_end hin.at_ hI2 hK4 hlt hsw.kept.size (Up.refl _) hD hK3 rfl⟩
      case stop =>
        rintro D c pre W hD hSp ⟨rfl, hr1, hI', hKX, hFx⟩ hK
        have hcur := showParts_off rec _ _ _ hSp hr1
        have s0 := hFx.at_
        have a0 := cell_of s0 0; have a1 := cell_of s0 1; have a2 := cell_of s0 2; have f0 := ice_of s0 0; have f1 := ice_of s0 1; have f2 := ice_of s0 2; have a4 := lt_of_heap s0; (try simp only [World.size_alloc, List.getElem?_toArray, List.getElem?_cons_zero, List.getElem?_cons_succ] at a0 a1 a2 f0 f1 f2 a4); clear s0
        subst hA
        refine wpIn_wide.2 ?_
        go_wp2_with fail
        go_quiet (fail)
        go_wp2_with fail
        refine ⟨by simp, .inl ⟨_, _, rfl, run_takeDeferred hK, ?_⟩⟩
        refine ⟨_, results_tmp rfl _ _ _, ?_⟩
        rw [shownThing_no _ (by rw [hop, hcur]; simp), hop, hcur]
        exact ⟨rfl, said_end hin.at_ hI' (hKX.after hsw hkF2) hlt hsw.kept.size uq hD hK rfl⟩

end Go.Proofs.YtmbipadiaggolaaGreatDoor
