import Derived.Test.YtbghpkoimbmijaaGreatDoorM22
import Derived.Test.YtbghpkoimbmijaaGreatDoorM02
import Derived.Test.YtbghpkoimbmijaaGreatDoorM10
import Derived.Test.YtbghpkoimbmijaaGreatDoorM15
/- YtbghpkoimbmijaaGreatDoorM23: lemmas of the proof, in order: AD, KO, AE, VM, AK. -/
/- Walks: lay in general, of a type that is new. -/
namespace Go.Proofs.YtbghpkoimbmijaaGreatDoor
open Go.RowKit
set_option linter.unusedSimpArgs false

mutual
theorem Ty.nodes_canon : ∀ t : Ty, t.canon.nodes = t.nodes
  | .mk k n nm ps ns ms => by rw [Ty.canon, Ty.nodes, Ty.nodes, Ty.nodesL_canons ps]
theorem Ty.nodesL_canons : ∀ ps : List Ty, Ty.nodesL (Ty.canons ps) = Ty.nodesL ps
  | [] => rfl
  | p :: r => by rw [Ty.canons, Ty.nodesL, Ty.nodesL, Ty.nodes_canon p, Ty.nodesL_canons r]
end
theorem text_smaller {t u : Ty} (ht : t.Valid) (hu : u.Valid) (h : t.text = u.text) : t.nodes = u.nodes := by
  rw [← Ty.nodes_canon t, ← Ty.nodes_canon u, text_inj ht hu h]
theorem LayS.new {B A : Nat} {bs : List Nat} {ts : List Ty} {tv mv dv : Value} {w : World} {t : Ty} {j : Nat} {bs1 : List Nat} {ts1 : List Ty} {tv1 mv1 : Value} {wr : World} {ps : List Ty} (h : LayS B A bs ts tv mv dv w ps t.nodes j bs1 ts1 tv1 mv1 wr) (hv : t.Valid) (hn : t.text ∉ ts.map Ty.text) : t.text ∉ (ts ++ ts1).map Ty.text := fun e => by
  rw [List.map_append] at e
  rcases List.mem_append.1 e with e | e
  · exact hn e
  · obtain ⟨u, q1, q2⟩ := List.mem_map.1 e
    have := h.less u q1
    have := text_smaller hv ((h.are.good u (List.mem_append_right _ q1)).1) q2.symm
    omega

theorem LayJ.up {B A : Nat} {bs : List Nat} {ts : List Ty} {tv mv dv : Value} {w : World} {ps : List Ty} {m j : Nat} {wr w2 : World} (h : LayJ B A bs ts tv mv dv w ps m j wr) (k : Up wr w2) : LayJ B A bs ts tv mv dv w ps m j w2 := by
  obtain ⟨bs1, ts1, tv1, mv1, h⟩ := h
  exact ⟨bs1, ts1, tv1, mv1, h.are.up k, h.lay.trans (LayM.of_memo (Memo.of_up _ _ k)), h.few, h.less, h.parts⟩

/-- the arena's map is there -/
structure Maps (B A : Nat) (BS : List Nat) (TS : List Ty) (tv dv : Value) (mv1 : Value) (wr W2 : World) (g : Nat) (es : Array MapEntry) (clk : Nat) : Prop where
  are : Are W2 B A BS TS tv (.map (some g)) dv
  lay : LayM B A tv mv1 wr W2 tv (.map (some g))
  map : W2.heap[g]? = some (.map es clk)
  ent : Entries es Value.string numV ((TS.map Ty.text).zipIdx)
theorem Maps.there {w W2 : World} {B A g : Nat} {tv : Value} {ts : List Ty} {bs : List Nat} {dv : Value} {es : Array MapEntry} {clk : Nat} (h : Are w B A bs ts tv (.map (some g)) dv) (hm : w.heap[g]? = some (.map es clk)) (hE : Entries es Value.string numV ((ts.map Ty.text).zipIdx)) (k : Up w W2) : Maps B A bs ts tv dv (.map (some g)) w W2 g es clk :=
  ⟨h.up k, LayM.of_memo (Memo.of_up _ _ k), k.get hm, hE⟩
theorem Maps.new {w W2 : World} {B A g : Nat} {tv : Value} {ts : List Ty} {bs : List Nat} {dv : Value} (h : Are w B A bs ts tv (.map none) dv) (hg : W2.heap[g]? = some (.map #[] 0)) (hgs : w.heap.size ≤ g) (hA : W2.heap[A]? = some (.cells #[tv, .map (some g), dv] ArT (0, 0))) (hm : Memo (fun x => x = A) B w W2) : Maps B A bs ts tv dv (.map none) w W2 g #[] 0 := by
  obtain ⟨h1, h2⟩ := h.mapped hg hgs hA hm
  refine ⟨h1, h2, hg, ?_⟩
  have hts : ts = [] := by
    rcases h.ids with ⟨_, e⟩ | ⟨_, _, _, e, _⟩
    · exact e
    · cases e
  rw [hts]
  rfl

theorem LayR.new {B A b : Nat} {bs bs1 BS : List Nat} {ts ts1 TS : List Ty} {tv mv dv tv' mv' : Value} {w W : World} {t : Ty} (hBS : bs ++ bs1 = BS) (hTS : ts ++ ts1 = TS) (hless : ∀ u ∈ ts1, u.nodes < t.nodes) (hfew : bs1.length + 1 ≤ t.nodes)
    (h1 : Are W B A (BS ++ [b]) (TS ++ [t]) tv' mv' dv) (hL : LayM B A tv mv w W tv' mv') : LayR B A bs ts tv mv dv w t (.returned (.int .i64 BS.length)) W := by
  subst hBS hTS
  have hl := h1.len
  rw [List.append_assoc, List.append_assoc] at h1
  refine ⟨(bs ++ bs1).length, bs1 ++ [b], ts1 ++ [t], tv', mv', rfl, h1, hL, ?_, by simp; omega, fun u hu => ?_⟩
  · rw [← List.append_assoc, List.map_append]
    rw [List.getElem?_append_right (by simp at hl ⊢; omega)]
    simp at hl ⊢
    rw [show bs.length + bs1.length - (ts.length + ts1.length) = 0 by omega]
    rfl
  · rcases List.mem_append.1 hu with q | q
    · exact Nat.le_of_lt (hless u q)
    · rw [List.mem_singleton.1 q]
      exact Nat.le_refl _

set_option maxRecDepth 100000 in
set_option maxHeartbeats 6400000 in
/-- a new type -/
theorem lay_miss (t : Ty) (hv : t.Valid) (hgood : t.nodes ≤ 500 ∧ t.namesLe 2000000) (hP : ∀ p ∈ t.parts, LayAny p) (B A b : Nat) (bs : List Nat) (ts : List Ty) (tv mv dv : Value) (w : World) (h : Are w B A bs ts tv mv dv) (ht : TyAt (fun x => ¬ arS A tv mv x) B w b t) (hg : GlobB B w) (hf : bs.length + t.nodes ≤ 1000000) (hs : t.text ∉ ts.map Ty.text) :
    Calls Tryz.prog 21 #[.pointer (some ⟨A, 0, none⟩), .pointer (some ⟨b, 0, none⟩)] w (LayR B A bs ts tv mv dv w t) := by
  have hsm : Sm t := ⟨by have := hgood.1; omega, hgood.2⟩
  have HT := Lib.hid (fun W (hW : Up w W) => text_all hv hsm _ B b W (ht.up hW) (hg.glob.up hW))
  have HA := Lib.hid h
  have HB := Lib.hid (And.intro ht (And.intro hg (And.intro hs (And.intro hv hgood))))
  have HP := Lib.hid hP
  obtain ⟨s, hse⟩ : ∃ s, Hid (t.text = s) := ⟨_, rfl⟩
  rw [hse.out] at HT
  obtain ⟨ps, hps⟩ : ∃ ps, Hid (t.parts = ps) := ⟨_, rfl⟩
  have a1 := cell_of h.head 1
  have a4 := lt_of_heap h.head
  simp only [List.getElem?_toArray, List.getElem?_cons_zero, List.getElem?_cons_succ] at a1
  have hlk0 : Hid (∀ W, Memo none1 B w W → (Instr.lookup 56 mv (.string s) true).run Tryz.prog W = .ok (.tuple #[.int .i64 0, .bool false]) W) := fun W hW => by
    rcases h.ids with ⟨rfl, _⟩ | ⟨g, es, clk, rfl, hgB, hm, hE⟩
    · exact (run_lookup_none (kf := Value.string) (z := .int .i64 0) Tryz.underlying56 Tryz.underlying9 strKeys (show (zeroValue 3).run Tryz.prog W = .ok (.int .i64 0) W by kernel_rfl) s).1
    · exact (run_lookup_miss (f := numV) Tryz.underlying56 Tryz.underlying9 strKeys (show (zeroValue 3).run Tryz.prog W = .ok (.int .i64 0) W by kernel_rfl) (hW.obj _ _ hm (fun _ _ e => by cases e) (fun e => e)) hE s (zip_miss (by rw [← hse.out]; exact hs))).1
  obtain ⟨k, n, nm, ns, ms, said, pv, nv, mkv, qs, hbc, hrow, hql, hqt⟩ : ∃ (k n : Int) (nm : ByteArray) (ns : List ByteArray) (ms : List Bool) (said : ByteArray) (pv nv mkv : Value) (qs : List Nat), w.heap[b]? = some (.cells (tyC k n nm pv nv mkv t.size said) TyT (0, 0)) ∧ RowOf TpT (fun x => ¬ arS A tv mv x) w pv (qs.map ptrV) ∧ qs.length = ps.length ∧ ∀ (j q : Nat) (p : Ty), qs[j]? = some q → ps[j]? = some p → TyAt (fun x => ¬ arS A tv mv x) B w q p := by
    rw [← hps.out]
    cases ht with
    | @mk _ k n nm ps ns ms said pv nv mkv qs hB hh hs hp hn hm hl hq => exact ⟨k, n, nm, ns, ms, said, pv, nv, mkv, qs, hh, hp, hl, hq⟩
  obtain ⟨pa, pcap, rfl, hpc, hpl, hrows⟩ := hrow
  rw [List.length_map] at hpc hpl hbc
  have HR := Lib.hid (And.intro hrows hqt)
  have HBC := Lib.hid hbc
  clear h hv ht hg hs hgood hP hsm hbc hrows hqt
  go_enter Tryz.func21, Tryz.ntmps21
  go_wp2_with fail
  go_region_law (first | (go_simp; go_at_call 34; refine (HT.out w.drew uq).mono ?_; rintro e w2 ⟨rfl, hm2⟩; have HM2 := Lib.hid ((Memo.of_up none1 B (show Up w w.drew from uq)).trans hm2); have HA2 := Lib.hid (HA.out.memo HM2.out); have a1 := cell_of HA2.out.head 1; simp only [List.getElem?_toArray, List.getElem?_cons_zero, List.getElem?_cons_succ] at a1; have a4 := lt_of_heap HA2.out.head; have hlk := hlk0.out w2 HM2.out; have b3 : w2.cell? ⟨b, 3, none⟩ = some (.slice pa qs.length pcap) := (HM2.out.cell HBC.out (by decide)).trans (cell_of HBC.out 3); have bl := HM2.out.lt (lt_of_heap HBC.out)))
  all_goals (go_wp2_with fail)
  all_goals
    have HK2 := Lib.hid hm2
    clear hm2 hlk
    refine range_named fun A2 W2 hA2 hW2 => ?_
    have hu2 : Up w2 W2 := by subst hW2; exact uq
    clear hW2
    subst hA2
    go_loopw [26] (fun i wr => ∃ j : Nat, j ≤ qs.length ∧ i = .int .i64 j ∧ LayJ B A bs ts tv mv dv w ps t.nodes j wr) (fun i _ => qs.length - (intOf i).toNat)
    case atStart => exact ⟨0, Nat.zero_le _, rfl, [], [], tv, mv, by rw [List.append_nil, List.append_nil]; exact HA2.out.up hu2, LayM.of_memo (HM2.out.up hu2), by simp, by simp, by simp⟩
    case round =>
      obtain ⟨j, hj, rfl, bs1, ts1, tv1, mv1, hS⟩ := hrel
      by_cases hlt : j < qs.length
      · have hji : (j : Int) < qs.length := by omega
        obtain ⟨q, hq⟩ : ∃ q, qs[j]? = some q := ⟨_, List.getElem?_eq_getElem hlt⟩
        obtain ⟨p, hp⟩ : ∃ p, ps[j]? = some p := ⟨_, List.getElem?_eq_getElem (by omega)⟩
        obtain ⟨g', off, cs, fz, rfl, f2, f3, f4⟩ := HR.out.1 j (ptrV q) (by rw [List.getElem?_map, hq]; rfl)
        have y0 : wr.cell? ⟨g', off + j, none⟩ = some (.pointer (some ⟨q, 0, none⟩)) := (cell_of (hS.lay.memo.cells f3 (by decide) f2) _).trans f4
        have hgl : g' < wr.heap.size := lt_of_heap (hS.lay.memo.cells f3 (by decide) f2)
        have HQ := Lib.hid (And.intro (hS.lay.ty (HR.out.2 j q p hq hp)) (And.intro (HB.out.2.1.memo hS.lay.memo) (And.intro hp (And.intro (HP.out p (by rw [hps.out]; exact List.mem_of_getElem? hp)) (show bs1.length + p.nodes < t.nodes by
          have := hS.few
          have k1 : ((ps.take (j + 1)).map Ty.nodes).sum ≤ (ps.map Ty.nodes).sum := by
            rw [← List.take_append_drop (j + 1) ps, List.map_append, List.sum_append, List.take_append_drop]
            omega
          have k2 : (ps.map Ty.nodes).sum < t.nodes := by
            rw [← hps.out]
            cases t with
            | mk k n nm ps ns ms => rw [Ty.nodes_mk]; show (ps.map Ty.nodes).sum < _; omega
          rw [List.take_add_one, hp] at k1
          simp only [Option.toList_some, List.map_append, List.map_cons, List.map_nil, List.sum_append, List.sum_cons, List.sum_nil] at k1
          omega)))))
        have HS := Lib.hid hS
        clear hS hq hp f2 f3 f4 hlt
        go_wp2_with (first | (go_at_call 21; refine (HQ.out.2.2.2.1 B A q (bs ++ bs1) (ts ++ ts1) tv1 mv1 dv _ (HS.out.are.up (show Up wr _ from uq)) (HQ.out.1.up uq) (HQ.out.2.1.memo (Memo.of_up none1 B (show Up wr _ from uq))) (by have := HQ.out.2.2.2.2; rw [List.length_append]; omega)).mono ?_; intro e w4 hR; obtain ⟨i4, rfl, hJ⟩ := HS.out.next (show Up wr _ from uq) HQ.out.2.2.1 (by have := HQ.out.2.2.2.2; omega) hR; have HJ := Lib.hid hJ; clear hR hJ))
        exact ⟨⟨j + 1, by omega, by simp, HJ.out.up uq⟩, by simp [intOf]; omega⟩
      · obtain rfl : j = qs.length := by omega
        clear hlt hlk0
        have H0 := Lib.hid (And.intro (hS.new (by have := HB.out.2.2.2.1; exact this) HB.out.2.2.1) (And.intro hS.lay (And.intro hS.less (And.intro (show bs1.length + 1 ≤ t.nodes by
          have := hS.few
          rw [hql, List.take_length] at this
          rw [← hps.out] at this
          cases t with
          | mk k n nm ps ns ms => rw [Ty.nodes_mk]; have h9 : bs1.length ≤ (ps.map Ty.nodes).sum := this; omega) (show ∀ p ∈ t.parts, ∃ u ∈ ts ++ ts1, u.text = p.text by
            have := hS.parts
            rw [hql, List.take_length, ← hps.out] at this
            exact this)))))
        have HS := Lib.hid hS.are
        clear hS
        obtain ⟨BS, hBS⟩ : ∃ BS, Hid (bs ++ bs1 = BS) := ⟨_, rfl⟩
        obtain ⟨TS, hTS⟩ : ∃ TS, Hid (ts ++ ts1 = TS) := ⟨_, rfl⟩
        rw [hTS.out] at H0 HS
        rw [hBS.out] at HS
        have a1 := cell_of HS.out.head 1
        have f1 := ice_of HS.out.head 1
        have a4 := lt_of_heap HS.out.head
        simp only [List.getElem?_toArray, List.getElem?_cons_zero, List.getElem?_cons_succ] at a1
        have hmm := @run_makeMap Tryz.prog
        obtain ⟨ta, tcap, rfl⟩ := ownsRow_form HS.out.row
        have hBl : Hid (BS.length < 1000000) := by
          unfold Hid
          have := H0.out.2.2.2.1
          rw [← hBS.out, List.length_append]
          omega
        rcases HS.out.ids with ⟨rfl, hnil⟩ | ⟨g, es, clk, rfl, hgB, hm, hE⟩
        all_goals first
          | (have hneq : ∀ w, (binOp .eql 56 (.map none) (.map none)).run Tryz.prog w = .ok (.bool true) w := fun _ => by kernel_rfl
             clear hnil
             go_upto_region 11 with (fail)
             refine range_named fun A2 W2 hA2' hW2 => ?_
             have hMp : Maps B A BS TS (.slice ta BS.length tcap) dv (.map none) wr W2 wr.heap.size #[] 0 := Maps.new HS.out (by subst hW2; exact alloc_at _ _ _ (by simp [setCell_size])) (Nat.le_refl _) (by subst hW2; exact alloc_keep (setCell_block (i := 1) HS.out.head _)) (by subst hW2; exact (Memo.cell1 (S := fun x => x = A) HS.out.head (by decide) rfl HS.out.base _).up uq)
             clear hW2
             obtain ⟨g, hg⟩ : ∃ g, Hid (wr.heap.size = g) := ⟨_, rfl⟩
             obtain ⟨es, hes⟩ : ∃ es, es = (#[] : Array MapEntry) := ⟨_, rfl⟩
             obtain ⟨clk, hclk⟩ : ∃ n : Nat, n = 0 := ⟨_, rfl⟩
             rw [hg.out] at hMp hA2'
             rw [← hes, ← hclk] at hMp
             have HMp := Lib.hid (And.intro hMp.are (And.intro (H0.out.2.1.trans hMp.lay) (And.intro hMp.map hMp.ent)))
             clear hMp hes hclk
             subst hA2')
          | (have hneq : ∀ w, (binOp .eql 56 (.map (some g)) (.map none)).run Tryz.prog w = .ok (.bool false) w := fun _ => by kernel_rfl
             have HM := Lib.hid (And.intro hm hE)
             clear hgB hm hE
             go_upto_region 11 with (fail)
             refine range_named fun A2 W2 hA2' hW2 => ?_
             have hMp : Maps B A BS TS (.slice ta BS.length tcap) dv (.map (some g)) wr W2 g es clk := Maps.there HS.out HM.out.1 HM.out.2 (by subst hW2; exact uq)
             clear hW2
             have HMp := Lib.hid (And.intro hMp.are (And.intro (H0.out.2.1.trans hMp.lay) (And.intro hMp.map hMp.ent)))
             clear hMp HM
             subst hA2')
        all_goals
          clear hneq hmm
          have HT2 := Lib.hid (fun W (hW : Up W2 W) => text_all HB.out.2.2.2.1 ⟨by have := HB.out.2.2.2.2.1; omega, HB.out.2.2.2.2.2⟩ _ B b W ((HMp.out.2.1.ty HB.out.1).up hW) ((HB.out.2.1.memo HMp.out.2.1.memo).glob.up hW))
          rw [hse.out] at HT2
          have a1 := cell_of HMp.out.1.head 1
          have a0 := cell_of HMp.out.1.head 0
          have f0 := ice_of HMp.out.1.head 0
          have a4 := lt_of_heap HMp.out.1.head
          simp only [List.getElem?_toArray, List.getElem?_cons_zero, List.getElem?_cons_succ] at a0 a1
          have hbl2 := HMp.out.2.1.memo.lt (lt_of_heap HBC.out)
          go_region_law (first | (go_simp; go_at_call 34; refine (HT2.out W2.drew uq).mono ?_; rintro e w5 ⟨rfl, hm5⟩; have HM5 := Lib.hid ((Memo.of_up none1 B (show Up W2 W2.drew from uq)).trans hm5); have HA5 := Lib.hid (HMp.out.1.memo HM5.out); have a1 := cell_of HA5.out.head 1; have a0 := cell_of HA5.out.head 0; have f0 := ice_of HA5.out.head 0; simp only [List.getElem?_toArray, List.getElem?_cons_zero, List.getElem?_cons_succ] at a0 a1; have a4 := lt_of_heap HA5.out.head; have hg5 : Hid (w5.heap[g]? = some (.map es clk)) := HM5.out.obj _ _ HMp.out.2.2.1 (fun _ _ e => by cases e) (fun e => e); obtain ⟨es', clk', hst, hE'⟩ := run_store_miss (f := numV) (P := Tryz.prog) (w := w5) Tryz.underlying56 Tryz.underlying9 strKeys hg5.out HMp.out.2.2.2 s BS.length (zip_miss (by rw [← hse.out]; exact H0.out.1)); have HE' := Lib.hid hE'; have hst : (Instr.mapUpdate 56 (.map (some g)) (.string s) (.int .i64 BS.length)).run Tryz.prog w5 = .ok () (putB w5 g (.map es' clk')) := hst; clear hE' hm5))
          all_goals (go_upto_region 12 with (fail))
          all_goals
            refine range_named fun A3 W3 hA3 hW3 => ?_
            have hAg : A ≠ g := fun e => by
              have q := hg5.out
              rw [← e, HA5.out.head] at q
              cases q
            have hz3 : W3.heap.size = w5.heap.size := by subst hW3; exact putB_size _ _ _
            have hot3 : ∀ x, x ≠ g → W3.heap[x]? = w5.heap[x]? := fun x hx => by subst hW3; exact putB_other _ _ _ _ hx
            have hg3 : Hid (W3.heap[g]? = some (.map es' clk')) := by subst hW3; exact putB_same _ _ _ (lt_of_heap hg5.out)
            have hos3 : Hid (W3.os = w5.os ∧ W3.tape = w5.tape ∧ W3.output = w5.output) := by subst hW3; exact ⟨rfl, rfl, rfl⟩
            clear hW3
            subst hA3
            have hhd3 : Hid (W3.heap[A]? = some (.cells #[.slice ta BS.length tcap, .map (some g), dv] ArT (0, 0))) := (hot3 A hAg).trans HA5.out.head
            have hrb : ∀ g', (Value.slice ta BS.length tcap).ownBlock = some g' → ∃ cur, w5.heap[g']? = some (.cells cur TpT (0, 0)) := fun g' hg' => by
              rcases HA5.out.row.2 with ⟨hv, _⟩ | ⟨g'', cap, cur, hv, _, hc, _⟩
              · rw [hv] at hg'; cases hg'
              · rw [hv] at hg'; cases hg'; exact ⟨cur, hc⟩
            have hrA : (Value.slice ta BS.length tcap).ownBlock ≠ some A := fun e => by
              obtain ⟨cur, hc⟩ := hrb A e
              exact cells_ne hc HA5.out.head (by decide) rfl
            have hrg : (Value.slice ta BS.length tcap).ownBlock ≠ some g := fun e => by
              obtain ⟨cur, hc⟩ := hrb g e
              rw [hg5.out] at hc
              cases hc
            have row3 : Hid (W3.ownsRow 0 TpT 1 (.slice ta BS.length tcap) BS.length (BS.map ptrV)) := ownsRow_keep HA5.out.row fun g' hg' => hot3 g' (fun e => hrg (by rw [← e]; exact hg'))
            have HZ := Lib.hid (And.intro hot3 hrA)
            have hb5 : b < W3.heap.size := by
              have := HM5.out.lt hbl2
              omega
            have hfw := hBl.out
            have a0 := cell_of hhd3.out 0
            have f0 := ice_of hhd3.out 0
            have a4 := lt_of_heap hhd3.out
            simp only [List.getElem?_toArray, List.getElem?_cons_zero, List.getElem?_cons_succ] at a0
            clear hot3 hrb hrA hrg hAg hst
            obtain ⟨i0, hi, hz0, hz1, hz2⟩ := info_parts typ_info
            go_wp2_with (first | (at_builtin; go_must (refine wpList_append_new rfl _ _ 55 rfl TpT i0 (.pointer none) 1 8 Tryz.underlying55 hi hz0 hz1 hz2 rfl (by decide) (.slice ta BS.length tcap) BS.length (BS.map ptrV) rfl (ownsRow_up row3.out uq) _ 1 1 rfl (by first | rfl | (simp; done) | omega | (trace_state; exact rfl)) rfl (by intro u hu; have hu2 : u = .pointer (some ⟨b, 0, none⟩) := (by simpa using hu); rw [hu2]; rfl) (by unfold maxLen; omega) (by omega) ?_; intro sa' cap' w7 hown' hgrow hblk; (try simp only [World.size_alloc] at hblk); have hd := Lib.hid (grown_get hgrow (Up.get (w := W3) uq hhd3.out) HZ.out.2); have a0 := cell_of hd.out 0; have f0 := ice_of hd.out 0; have a4 := lt_of_heap hd.out; simp only [List.getElem?_toArray, List.getElem?_cons_zero, List.getElem?_cons_succ] at a0; have HY := Lib.hid (And.intro hown' (And.intro hgrow hblk)); clear hown' hgrow hblk)))
            all_goals
              go_ret
              obtain ⟨tv', h1, h2⟩ := Are.laid rfl HA5.out ((HMp.out.2.1.trans (LayM.of_memo HM5.out)).ty HB.out.1) HB.out.2.2.2 H0.out.1 H0.out.2.2.2.2 hz3 HZ.out.1 hg3.out hos3.out (by rw [hse.out]; exact HE'.out) HY.out.1 HY.out.2.1 HY.out.2.2
              exact LayR.new hBS.out hTS.out H0.out.2.2.1 H0.out.2.2.2.1 h1 ((HMp.out.2.1.trans (LayM.of_memo HM5.out)).trans h2)

theorem lay_any {t : Ty} (hv : t.Valid) : t.nodes ≤ 500 → t.namesLe 2000000 → LayAny t := by
  suffices h : ∀ (n : Nat) (t : Ty), t.nodes ≤ n → t.Valid → t.nodes ≤ 500 → t.namesLe 2000000 → LayAny t from h _ t (Nat.le_refl _) hv
  intro n
  induction n with
  | zero => intro t h; have := t.nodes_pos; omega
  | succ n ih =>
    intro t hn hv h1 h2 B A b bs ts tv mv dv w hA ht hg hf
    by_cases hi : t.text ∈ ts.map Ty.text
    · obtain ⟨i, hi⟩ := List.getElem?_of_mem hi
      refine (lay_hit t hv ⟨by omega, h2⟩ B A b bs ts tv mv dv i w hA ht hg hi).mono ?_
      rintro e w' ⟨rfl, hm⟩
      refine ⟨i, [], [], tv, mv, rfl, ?_, LayM.of_memo hm, ?_, Nat.zero_le _, fun u hu => by cases hu⟩
      · rw [List.append_nil, List.append_nil]
        exact hA.memo hm
      · rw [List.append_nil]
        exact hi
    · refine lay_miss t hv ⟨h1, h2⟩ (fun p hp => ?_) B A b bs ts tv mv dv w hA ht hg hf hi
      have h3 : p.nodes < t.nodes := by
        cases t with
        | mk k n nm ps ns ms => exact Ty.part_nodes hp
      exact ih p (by omega) (hv.parts p hp) (by omega) (Ty.namesLe_part h2 p hp)

end Go.Proofs.YtbghpkoimbmijaaGreatDoor

/- Walks: keep, Len, Text. -/
namespace Go.Proofs.YtbghpkoimbmijaaGreatDoor
open Go.RowKit
set_option linter.unusedSimpArgs false

theorem keep_small (A b sz : Nat) (cs : Array Value) (R : Nat → World → Prop) (w : World) (hb : w.heap[b]? = some (.cells cs TyT (0, 0))) (h6 : cs[6]? = some (.int .i64 sz)) (hsz : sz ≤ 500)
    (hlay : Calls Tryz.prog 21 #[.pointer (some ⟨A, 0, none⟩), .pointer (some ⟨b, 0, none⟩)] w fun e w' => ∃ n : Nat, e = .returned (.int .i64 n) ∧ R n w') :
    Calls Tryz.prog 25 #[.pointer (some ⟨A, 0, none⟩), .pointer (some ⟨b, 0, none⟩)] w fun e w' => ∃ n : Nat, e = .returned (.tuple #[.int .i64 n, .int .i64 0]) ∧ R n w' := by
  have a6 := (cell_of hb 6).trans h6
  have a4 := lt_of_heap hb
  have HL := Lib.hid hlay
  have h500 : (sz : Int) ≤ 500 := by omega
  clear hb h6 hlay
  go_enter Tryz.func25, Tryz.ntmps25
  go_wp2_with (first | (go_at_call 21; refine HL.out.mono ?_; rintro e w2 ⟨n, rfl, hR⟩))
  refine bodyPost_ret (v := .tuple #[.int .i64 n, .int .i64 0]) (by simp [results, Tryz.results25, go_sem]) rfl ?_
  exact ⟨n, rfl, hR⟩

theorem Len_any (B A : Nat) (bs : List Nat) (ws : List ByteArray) (tv mv : Value) (w : World) (h : Ar w B A bs ws tv mv) :
    Calls Tryz.prog 18 #[.pointer (some ⟨A, 0, none⟩)] w fun e w' => e = .returned (.int .i64 bs.length) ∧ Up w w' := by
  obtain ⟨ta, tcap, rfl⟩ := ownsRow_form h.row
  have a0 := cell_of h.head 0
  have a4 := lt_of_heap h.head
  simp only [List.getElem?_toArray, List.getElem?_cons_zero] at a0
  clear h
  go_enter Tryz.func18, Tryz.ntmps18
  go_wp2_with fail
  go_ret
  exact ⟨rfl, uq⟩

theorem Text_any (B A : Nat) (bs : List Nat) (ws : List ByteArray) (tv mv : Value) (i : Nat) (s : ByteArray) (w : World) (h : Ar w B A bs ws tv mv) (hi : ws[i]? = some s) :
    Calls Tryz.prog 19 #[.pointer (some ⟨A, 0, none⟩), .int .i64 i] w fun e w' => e = .returned (.string s) ∧ Up w w' := by
  have hil : i < bs.length := by rw [← h.len]; exact (List.getElem?_eq_some_iff.1 hi).1
  obtain ⟨b, hb⟩ : ∃ b, bs[i]? = some b := ⟨_, List.getElem?_eq_getElem hil⟩
  obtain ⟨_, hsd, hne⟩ := h.said i b s hb hi
  obtain ⟨gr, rcap, cur, rfl, hgr, hrc, hcur⟩ := row_cells_gen h.row (by omega)
  have HH := Lib.hid h.head
  have HS := Lib.hid (And.intro hsd hne)
  have y0 : w.cell? ⟨gr, i, none⟩ = some (.pointer (some ⟨b, 0, none⟩)) := by
    have q := (cell_of hgr (0 + i)).trans (hcur i (ptrV b) (by rw [List.getElem?_map, hb]; rfl))
    rw [Nat.zero_add] at q
    exact q
  have yl := lt_of_heap hgr
  have hji : (i : Int) < bs.length := by omega
  clear h hi hb hsd hne hgr hrc hcur
  go_enter Tryz.func19, Tryz.ntmps19
  go_wp2_with (first | (go_at_call 29; refine (has_yes A bs.length rcap _ _ i hil _ HH.out).mono ?_; rintro e w2 ⟨rfl, hu2⟩; have hh := hu2.get HH.out; have a0 := cell_of hh 0; have a4 := lt_of_heap hh; simp only [List.getElem?_toArray, List.getElem?_cons_zero, List.getElem?_cons_succ] at a0; have y0 := (hu2.cells _ _ yl).trans y0; clear hh) | (go_at_call 34; refine (text_said b s HS.out.2 _ (HS.out.1.up hu2).cell).mono ?_; rintro e w3 ⟨rfl, rfl⟩))
  go_ret
  exact ⟨rfl, uq⟩

end Go.Proofs.YtbghpkoimbmijaaGreatDoor

/- Walks: an arena in general: keep, Len, Text. -/
namespace Go.Proofs.YtbghpkoimbmijaaGreatDoor
open Go.RowKit
set_option linter.unusedSimpArgs false

theorem minsum : ∀ (l : List Nat) (a : Nat), a ≤ 1099511627776 → (l.map fun x => min x 1099511627776).foldl (fun a x => min (a + x) 1099511627776) a = min (a + l.sum) 1099511627776
  | [], a, h => by simp; omega
  | x :: r, a, h => by
    rw [List.map_cons, List.foldl_cons, minsum r _ (Nat.min_le_right _ _), List.sum_cons]
    omega
mutual
theorem Ty.size_nodes : ∀ t : Ty, t.size = min t.nodes 1099511627776
  | .mk k n nm ps ns ms => by
    rw [Ty.size, Ty.nodes, Ty.sizes_nodes ps, minsum _ _ (by decide), Ty.nodesL_eq]
theorem Ty.sizes_nodes : ∀ ps : List Ty, Ty.sizes ps = (ps.map Ty.nodes).map fun x => min x 1099511627776
  | [] => rfl
  | p :: r => by rw [Ty.sizes, Ty.size_nodes p, Ty.sizes_nodes r]; rfl
end

/-- what keep answers -/
def KeepR (B A : Nat) (bs : List Nat) (ts : List Ty) (tv mv dv : Value) (w : World) (t : Ty) (e : Ending) (w' : World) : Prop :=
  (t.nodes ≤ 500 ∧ ∃ i : Nat, e = .returned (.tuple #[.int .i64 i, .int .i64 0]) ∧ LayR B A bs ts tv mv dv w t (.returned (.int .i64 i)) w') ∨ (500 < t.nodes ∧ e = .returned (.tuple #[.int .i64 0, .int .i64 9]) ∧ Up w w')

set_option maxHeartbeats 1600000 in
theorem keep_any (t : Ty) (hv : t.Valid) (hn : t.namesLe 2000000) (B A b : Nat) (bs : List Nat) (ts : List Ty) (tv mv dv : Value) (w : World) (hA : Are w B A bs ts tv mv dv) (ht : TyAt (fun x => ¬ arS A tv mv x) B w b t) (hg : GlobB B w) (hf : bs.length + t.nodes ≤ 1000000) :
    Calls Tryz.prog 25 #[.pointer (some ⟨A, 0, none⟩), .pointer (some ⟨b, 0, none⟩)] w (KeepR B A bs ts tv mv dv w t) := by
  have a6 := View.cell6 ht
  have a4 := ht.lt
  have hsz := Ty.size_nodes t
  by_cases h5 : t.nodes ≤ 500
  · have h500 : ((t.size : Nat) : Int) ≤ 500 := by omega
    have HL := Lib.hid (lay_any hv h5 hn B A b bs ts tv mv dv w hA ht hg hf)
    have H5 := Lib.hid h5
    obtain ⟨sz, hszz⟩ : ∃ sz, Hid (t.size = sz) := ⟨_, rfl⟩
    rw [hszz.out] at a6 h500
    clear hA ht hg hf hsz h5
    go_enter Tryz.func25, Tryz.ntmps25
    go_wp2_with (first | (go_at_call 21; refine HL.out.mono ?_; rintro e w2 ⟨i, bs', ts', tv', mv', rfl, h1, h2, h3, h4, h5⟩; have HR := Lib.hid (show LayR B A bs ts tv mv dv w t (.returned (.int .i64 i)) w2 from ⟨i, bs', ts', tv', mv', rfl, h1, h2, h3, h4, h5⟩); clear h1 h2 h3 h4 h5))
    refine bodyPost_ret (v := .tuple #[.int .i64 i, .int .i64 0]) (by simp [results, Tryz.results25, go_sem]) rfl ?_
    exact .inl ⟨H5.out, i, rfl, HR.out⟩
  · have h500 : 500 < ((t.size : Nat) : Int) := by omega
    have H5 := Lib.hid h5
    obtain ⟨sz, hszz⟩ : ∃ sz, Hid (t.size = sz) := ⟨_, rfl⟩
    rw [hszz.out] at a6 h500
    clear hA ht hg hf hsz h5
    go_enter Tryz.func25, Tryz.ntmps25
    go_wp2_with fail
    refine bodyPost_ret (v := .tuple #[.int .i64 0, .int .i64 9]) (by simp [results, Tryz.results25, go_sem]) rfl ?_
    exact .inr ⟨by have := H5.out; omega, rfl, uq⟩

theorem Len_in (dv : Value) (B A : Nat) (bs : List Nat) (ts : List Ty) (tv mv : Value) (w : World) (h : Are w B A bs ts tv mv dv) :
    Calls Tryz.prog 18 #[.pointer (some ⟨A, 0, none⟩)] w fun e w' => e = .returned (.int .i64 bs.length) ∧ Up w w' := by
  obtain ⟨ta, tcap, rfl⟩ := ownsRow_form h.row
  have a0 := cell_of h.head 0
  have a4 := lt_of_heap h.head
  simp only [List.getElem?_toArray, List.getElem?_cons_zero] at a0
  clear h
  go_enter Tryz.func18, Tryz.ntmps18
  go_wp2_with fail
  go_ret
  exact ⟨rfl, uq⟩

/-- a type of an arena -/
theorem Are.at_ {w : World} {B A : Nat} {bs : List Nat} {ts : List Ty} {tv mv dv : Value} (h : Are w B A bs ts tv mv dv) {i : Nat} {t : Ty} (hi : ts[i]? = some t) :
    ∃ b gr rcap, bs[i]? = some b ∧ tv = .slice (some ⟨gr, 0, none⟩) bs.length rcap ∧ w.cell? ⟨gr, i, none⟩ = some (.pointer (some ⟨b, 0, none⟩)) ∧ gr < w.heap.size ∧ i < bs.length ∧ TyAt (fun x => ¬ arS A tv mv x) B w b t := by
  have hil : i < bs.length := by rw [← h.len]; exact (List.getElem?_eq_some_iff.1 hi).1
  obtain ⟨b, hb⟩ : ∃ b, bs[i]? = some b := ⟨_, List.getElem?_eq_getElem hil⟩
  obtain ⟨gr, rcap, cur, rfl, hgr, hrc, hcur⟩ := row_cells_gen h.row (by omega)
  refine ⟨b, gr, rcap, hb, rfl, ?_, lt_of_heap hgr, hil, h.ty i b t hb hi⟩
  have q := (cell_of hgr (0 + i)).trans (hcur i (ptrV b) (by rw [List.getElem?_map, hb]; rfl))
  rw [Nat.zero_add] at q
  exact q

set_option maxHeartbeats 1600000 in
theorem Text_in (dv : Value) (B A : Nat) (bs : List Nat) (ts : List Ty) (tv mv : Value) (i : Nat) (t : Ty) (w : World) (h : Are w B A bs ts tv mv dv) (hi : ts[i]? = some t) (hg : GlobB B w) :
    Calls Tryz.prog 19 #[.pointer (some ⟨A, 0, none⟩), .int .i64 i] w fun e w' => e = .returned (.string t.text) ∧ Memo none1 B w w' := by
  obtain ⟨b, gr, rcap, hb, rfl, y0, yl, hil, hbt⟩ := h.at_ hi
  have HH := Lib.hid h.head
  have hgd := h.good t (List.mem_of_getElem? hi)
  have HT := Lib.hid (fun W (hW : Up w W) => text_all hgd.1 ⟨by have := hgd.2.1; omega, hgd.2.2⟩ _ B b W (hbt.up hW) (hg.glob.up hW))
  obtain ⟨s, hs⟩ : ∃ s, Hid (t.text = s) := ⟨_, rfl⟩
  rw [hs.out] at HT ⊢
  have hji : (i : Int) < bs.length := by omega
  clear h hi hb hbt hg hgd
  go_enter Tryz.func19, Tryz.ntmps19
  go_wp2_with (first | (go_at_call 29; refine (has_in dv A bs.length rcap _ _ i hil _ HH.out).mono ?_; rintro e w2 ⟨rfl, hu2⟩; have hh := hu2.get HH.out; have a0 := cell_of hh 0; have a4 := lt_of_heap hh; simp only [List.getElem?_toArray, List.getElem?_cons_zero, List.getElem?_cons_succ] at a0; have y0 := (hu2.cells _ _ yl).trans y0; clear hh) | (go_at_call 34; refine (HT.out _ (show Up w _ from uq)).mono ?_; rintro e w3 ⟨rfl, hm3⟩; have HM3 := Lib.hid ((Memo.of_up none1 B (show Up w _ from uq)).trans hm3); clear hm3))
  go_ret
  exact ⟨rfl, HM3.out⟩

end Go.Proofs.YtbghpkoimbmijaaGreatDoor

/- Plain law: a union's names and size. -/
namespace Go.Proofs.YtbghpkoimbmijaaGreatDoor
open Go.RowKit
set_option linter.unusedSimpArgs false

mutual
theorem Ty.namesLe_canon {M : Nat} : ∀ t : Ty, t.canon.namesLe M ↔ t.namesLe M
  | .mk k n nm ps ns ms => by rw [Ty.canon, Ty.namesLe, Ty.namesLe, Ty.namesLeL_canons ps]
theorem Ty.namesLeL_canons {M : Nat} : ∀ ps : List Ty, Ty.namesLeL M (Ty.canons ps) ↔ Ty.namesLeL M ps
  | [] => Iff.rfl
  | p :: r => by rw [Ty.canons, Ty.namesLeL, Ty.namesLeL, Ty.namesLe_canon p, Ty.namesLeL_canons r]
end
theorem insU_sum (x : Ty) : ∀ l : List Ty, ((insU x l).map Ty.nodes).sum ≤ x.nodes + (l.map Ty.nodes).sum
  | [] => by simp [insU]
  | y :: r => by
    unfold insU
    have := insU_sum x r
    (repeat' split) <;> (simp only [List.map_cons, List.sum_cons]; omega)
theorem sortU_sum : ∀ l : List Ty, ((sortU l).map Ty.nodes).sum ≤ (l.map Ty.nodes).sum
  | [] => Nat.le_refl _
  | x :: r => by
    have h1 := insU_sum x (sortU r)
    have h2 := sortU_sum r
    simp only [List.map_cons, List.sum_cons]
    show ((insU x (sortU r)).map Ty.nodes).sum ≤ _
    omega
theorem filter_sum (f : Ty → Bool) : ∀ l : List Ty, ((l.filter f).map Ty.nodes).sum ≤ (l.map Ty.nodes).sum
  | [] => Nat.le_refl _
  | x :: r => by
    have := filter_sum f r
    rw [List.filter_cons]
    split <;> (simp only [List.map_cons, List.sum_cons]; omega)
theorem sortU_sub : ∀ (l : List Ty) (z : Ty), z ∈ sortU l → z ∈ l
  | [], z, h => h
  | x :: r, z, h => by
    rcases insU_sub x (sortU r) z h with rfl | q
    · simp
    · exact List.mem_cons_of_mem _ (sortU_sub r z q)
theorem flat_sum (t : Ty) : (t.flat.map Ty.nodes).sum ≤ t.nodes := by
  unfold Ty.flat
  split
  · cases t with
    | mk k n nm ps ns ms => rw [Ty.nodes_mk]; show (ps.map Ty.nodes).sum ≤ _; omega
  · simp
theorem flats_sum : ∀ l : List Ty, ((l.flatMap Ty.flat).map Ty.nodes).sum ≤ (l.map Ty.nodes).sum
  | [] => Nat.le_refl _
  | t :: r => by
    have h1 := flat_sum t
    have h2 := flats_sum r
    simp only [List.flatMap_cons, List.map_append, List.sum_append, List.map_cons, List.sum_cons]
    omega
theorem wrapU_nodes (l : List Ty) : (wrapU l).nodes ≤ 1 + (l.map Ty.nodes).sum := by
  rcases wrapU_cases l with ⟨_, e⟩ | ⟨x, rfl, e⟩ | ⟨_, e⟩
  · rw [e]; unfold basicT; rw [Ty.nodes_mk]; simp
  · rw [e]; simp
  · rw [e, Ty.nodes_mk]
    exact Nat.le_refl _
theorem unionC_nodes (l : List Ty) : (unionC l).nodes ≤ 1 + (l.map Ty.nodes).sum := by
  have hb : ∀ k, (basicT k).nodes = 1 := fun k => by unfold basicT; rw [Ty.nodes_mk]; rfl
  unfold unionC
  rcases unionF_cases (l.flatMap Ty.flat) with ⟨_, e⟩ | ⟨_, _, e⟩ | ⟨_, _, e⟩
  · rw [e, hb]; omega
  · rw [e, hb]; omega
  · rw [e]
    have h1 := wrapU_nodes (sortU (restU (l.flatMap Ty.flat)))
    have h2 := sortU_sum (restU (l.flatMap Ty.flat))
    have h3 : ((restU (l.flatMap Ty.flat)).map Ty.nodes).sum ≤ ((l.flatMap Ty.flat).map Ty.nodes).sum := filter_sum _ _
    have h4 := flats_sum l
    omega
theorem flat_names {M : Nat} {t : Ty} (h : t.namesLe M) : ∀ p ∈ t.flat, p.namesLe M := by
  intro p hp
  unfold Ty.flat at hp
  split at hp
  · cases t with
    | mk k n nm ps ns ms => exact (Ty.namesLe_mk.1 h).2.2 p hp
  · rw [List.mem_singleton.1 hp]; exact h
theorem basicT_names (M : Nat) (k : Int) : (basicT k).namesLe M := Ty.namesLe_mk.2 ⟨Nat.zero_le _, by simp, by simp⟩
theorem unionC_names {M : Nat} {l : List Ty} (h : ∀ t ∈ l, t.namesLe M) : (unionC l).namesLe M := by
  unfold unionC
  rcases unionF_cases (l.flatMap Ty.flat) with ⟨_, e⟩ | ⟨_, _, e⟩ | ⟨_, _, e⟩
  · rw [e]; exact basicT_names _ _
  · rw [e]; exact basicT_names _ _
  · rw [e]
    have hm : ∀ z ∈ sortU (restU (l.flatMap Ty.flat)), z.namesLe M := fun z hz => by
      have h1 := (restU_mem.1 (sortU_sub _ z hz)).1
      obtain ⟨t, ht, hzt⟩ := List.mem_flatMap.1 h1
      exact flat_names (h t ht) z hzt
    rcases wrapU_cases (sortU (restU (l.flatMap Ty.flat))) with ⟨_, e2⟩ | ⟨x, e1, e2⟩ | ⟨_, e2⟩
    · rw [e2]; exact basicT_names _ _
    · rw [e2]; exact hm x (by rw [e1]; simp)
    · rw [e2]
      exact Ty.namesLe_mk.2 ⟨Nat.zero_le _, by simp, hm⟩

end Go.Proofs.YtbghpkoimbmijaaGreatDoor

/- Walks: Arena.Union in general. -/
namespace Go.Proofs.YtbghpkoimbmijaaGreatDoor
open Go.RowKit
set_option linter.unusedSimpArgs false

/-- numbers in a row -/
def IdsAt (w : World) (a : Option Addr) (zs : List Nat) : Prop := ∀ (j z : Nat), zs[j]? = some z → ∃ b off, a = some ⟨b, off, none⟩ ∧ b < w.heap.size ∧ w.cell? ⟨b, off + j, none⟩ = some (.int .i64 z)
theorem IdsAt.up {w w' : World} {a : Option Addr} {zs : List Nat} (h : IdsAt w a zs) (k : Up w w') : IdsAt w' a zs := fun j z hj => by
  obtain ⟨b, off, h1, h2, h3⟩ := h j z hj
  exact ⟨b, off, h1, Nat.lt_of_lt_of_le h2 k.size, (k.cells _ _ h2).trans h3⟩
theorem Are.open_ {w : World} {B A : Nat} {bs : List Nat} {ts : List Ty} {tv mv dv : Value} (h : Are w B A bs ts tv mv dv) : Open (fun x => ¬ arS A tv mv x) w := fun x hx e => by
  rcases e with e | e | e
  · have := lt_of_heap h.head; omega
  · have := (h.row.lt x e).2; omega
  · rcases h.ids with ⟨h9, _⟩ | ⟨g, es, clk, h9, _, hm, _⟩
    · rw [h9] at e; cases e
    · rw [h9] at e
      cases e
      have := lt_of_heap hm
      omega
theorem ownsRow_rowOf {w : World} {v : Value} {n : Nat} {us : List Value} (h : w.ownsRow 0 TpT 1 v n us) (hl : us.length = n) (hn : n ≤ 1000000000) : RowOf TpT (fun _ => True) w v us := by
  subst hl
  rcases Nat.eq_zero_or_pos us.length with h0 | h0
  · rcases h.2 with ⟨hv, _⟩ | ⟨g, cap, cur, hv, _, hg, hc, hu⟩
    · rw [List.length_eq_zero_iff.1 h0, hv]; exact RowOf.nil _ _ _
    · refine ⟨some ⟨g, 0, none⟩, cap, hv, by omega, hn, fun j u hu => ?_⟩
      rw [List.length_eq_zero_iff.1 h0] at hu
      simp at hu
  · obtain ⟨g, cap, cur, hv, hg, hc, hu⟩ := row_cells_gen h h0
    exact ⟨some ⟨g, 0, none⟩, cap, hv, hc, hn, fun j u hj => ⟨g, 0, cur, (0, 0), rfl, trivial, hg, hu j u hj⟩⟩

/-- what Union of numbers answers -/
def UniR (B A : Nat) (bs : List Nat) (ts : List Ty) (tv mv dv : Value) (w : World) (c : Ty) (e : Ending) (w' : World) : Prop :=
  ∃ (u : Ty) (w2 : World), u.Valid ∧ u.canon = c ∧ Memo none1 B w w2 ∧ KeepR B A bs ts tv mv dv w2 u e w'

set_option maxRecDepth 100000 in
set_option maxHeartbeats 3200000 in
theorem Union_in (B A : Nat) (bs : List Nat) (ts : List Ty) (tv mv dv : Value) (zs : List Nat) (us : List Ty) (a : Option Addr) (cap : Nat) (w : World) (hA : Are w B A bs ts tv mv dv) (hz : IdsAt w a zs) (hu : zs.map (fun z => ts[z]?) = us.map some) (hf : Fit us) (hg : GlobB B w) (hb : bs.length ≤ 500000) :
    Calls Tryz.prog 14 #[.pointer (some ⟨A, 0, none⟩), .slice a zs.length cap] w (UniR B A bs ts tv mv dv w (unionC (us.map Ty.canon))) := by
  have hlen : zs.length = us.length := by have := congrArg List.length hu; simpa using this
  have hat : ∀ (j z : Nat) (u : Ty), zs[j]? = some z → us[j]? = some u → ts[z]? = some u := fun j z u h1 h2 => by
    have := congrArg (·[j]?) hu
    simp only [List.getElem?_map, h1, h2, Option.map_some, Option.some.injEq] at this
    exact this
  have hr : ∀ z ∈ zs, z < bs.length := fun z hz' => by
    obtain ⟨j, hj⟩ := List.getElem?_of_mem hz'
    have hjl := (List.getElem?_eq_some_iff.1 hj).1
    obtain ⟨u, hu2⟩ : ∃ u, us[j]? = some u := ⟨_, List.getElem?_eq_getElem (by omega)⟩
    have := (List.getElem?_eq_some_iff.1 (hat j z u hj hu2)).1
    rw [← hA.len]
    exact this
  have hall := Lib.hid (all_in dv A tv mv bs zs a cap w hA.head hA.row hz hr (by have := hf.len; omega))
  have HA := Lib.hid hA
  have HF := Lib.hid (And.intro hf (And.intro hg (And.intro hat (And.intro hlen (And.intro hr hb)))))
  have a4 := lt_of_heap hA.head
  have hun : Hid (∀ (W : World) (v : Value), Up w W → W.ownsRow 0 TpT 1 v zs.length (zs.map fun z => ptrV (bs.getD z 0)) → Calls Tryz.prog 33 #[v] W (DoR (fun x => ¬ arS A tv mv x) B W (unionC (us.map Ty.canon)))) := fun W v hW hv => by
    obtain ⟨va, vcap, rfl⟩ := ownsRow_form hv
    have hrow := ownsRow_rowOf hv (by simp) (by have := HF.out.1.len; have := HF.out.2.2.2.1; omega)
    have e : (zs.map fun z => ptrV (bs.getD z 0)) = (zs.map fun z => bs.getD z 0).map ptrV := by rw [List.map_map]; rfl
    rw [e] at hrow
    have q := union_tree (fun x => ¬ arS A tv mv x) B va vcap (zs.map fun z => bs.getD z 0) us W (by rw [List.length_map]; exact hrow) (by rw [List.length_map]; exact HF.out.2.2.2.1) (fun j b t h1 h2 => by
      rw [List.getElem?_map] at h1
      cases hzj : zs[j]? with
      | none => rw [hzj] at h1; cases h1
      | some z =>
        rw [hzj] at h1
        have h3 := HF.out.2.2.1 j z t hzj h2
        have hzl := HF.out.2.2.2.2.1 z (List.mem_of_getElem? hzj)
        obtain ⟨b', hb'⟩ : ∃ b, bs[z]? = some b := ⟨_, List.getElem?_eq_getElem hzl⟩
        simp only [Option.map_some, Option.some.injEq, List.getD, hb', Option.getD_some] at h1
        subst h1
        exact (HA.out.ty z b' t hb' h3).up hW) HF.out.1 (Nat.le_trans HA.out.lt hW.size) (HF.out.2.1.glob.up hW) ((HA.out.open_).up hW)
    rw [List.length_map] at q
    exact q
  have hkp : Hid (∀ (W : World) (c : Nat) (u : Ty), Memo none1 B w W → TyAt (fun x => ¬ arS A tv mv x) B W c u → u.Valid → u.canon = unionC (us.map Ty.canon) → Calls Tryz.prog 25 #[.pointer (some ⟨A, 0, none⟩), .pointer (some ⟨c, 0, none⟩)] W (KeepR B A bs ts tv mv dv W u)) := fun W c u hm hc hv hcn => by
    refine keep_any u hv ?_ B A c bs ts tv mv dv W (HA.out.memo hm) hc (HF.out.2.1.memo hm) ?_
    · rw [← Ty.namesLe_canon, hcn]
      exact unionC_names fun t ht => by
        obtain ⟨x, hx, rfl⟩ := List.mem_map.1 ht
        exact (Ty.namesLe_canon x).2 (HF.out.1.names x hx)
    · rw [← Ty.nodes_canon, hcn]
      have h1 := unionC_nodes (us.map Ty.canon)
      rw [List.map_map, show (Ty.nodes ∘ Ty.canon) = Ty.nodes from funext Ty.nodes_canon] at h1
      have := HF.out.1.nodes
      have := HF.out.2.2.2.2.2
      omega
  clear hA hz hu hf hg hlen hat hr hb
  go_enter Tryz.func14, Tryz.ntmps14
  go_wp2_with (first
    | (go_at_call 23; refine hall.out.mono ?_; rintro e w2 ⟨v, rfl, h1, h2, hu2⟩; have hun2 := hun.out w2 v hu2 h1; have HU := Lib.hid hun2; have HU2 := Lib.hid hu2; clear h1 h2 hun2)
    | (go_at_call 33; refine HU.out.mono ?_; rintro e w3 ⟨c, u, rfl, hc, hv, hcn, hm3⟩; have HC := Lib.hid (And.intro hc (And.intro hv (And.intro hcn ((Memo.of_up none1 B HU2.out).trans hm3)))); clear hc hv hcn hm3)
    | (go_at_call 25; refine (hkp.out _ c u HC.out.2.2.2 HC.out.1 HC.out.2.1 HC.out.2.2.1).mono ?_; (rintro e w4 (⟨h5, i, rfl, hL⟩ | ⟨h5, rfl, hL⟩) <;> (have HK := Lib.hid (And.intro h5 hL); clear h5 hL))))
  · refine bodyPost_ret (v := .tuple #[.int .i64 i, .int .i64 0]) (by simp [results, Tryz.results14, go_sem]) rfl ?_
    exact ⟨u, w3, HC.out.2.1, HC.out.2.2.1, HC.out.2.2.2, .inl ⟨HK.out.1, i, rfl, HK.out.2⟩⟩
  · refine bodyPost_ret (v := .tuple #[.int .i64 0, .int .i64 9]) (by simp [results, Tryz.results14, go_sem]) rfl ?_
    exact ⟨u, w3, HC.out.2.1, HC.out.2.2.1, HC.out.2.2.2, .inr ⟨HK.out.1, rfl, HK.out.2⟩⟩

end Go.Proofs.YtbghpkoimbmijaaGreatDoor
