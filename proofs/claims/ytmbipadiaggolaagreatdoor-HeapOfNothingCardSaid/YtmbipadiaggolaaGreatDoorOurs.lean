import Derived.Test.YtmbipadiaggolaaGreatDoorHeapW9
import Derived.Test.YtmbipadiaggolaaGreatDoorShowJ
/- A heap that the caller made itself: what each call leaves, in one word. -/
namespace Go.Proofs.YtmbipadiaggolaaGreatDoor
open Go.RowKit
set_option linter.unusedSimpArgs false
attribute [local go_sem] ta_aa ta_ao ta_an ta_oa ta_oo ta_on m_kind_a m_kind_o m_behind_a m_behind_o m_own_a m_own_o

/-- a heap that was made behind w0, at hb -/
def Ours (w0 : World) (hb : Nat) (H : HM) (w : World) : Prop := ∃ tvs own, Rep w hb H tvs own ∧ Up w0 w ∧ ∀ b, b < w0.heap.size → own b = none

theorem Ours.base {w0 w : World} {hb : Nat} {H : HM} (h : Ours w0 hb H w) : Up w0 w := let ⟨_, _, _, h2, _⟩ := h; h2
theorem Ours.up {w0 w w' : World} {hb : Nat} {H : HM} (h : Ours w0 hb H w) (k : Up w w') : Ours w0 hb H w' := let ⟨tvs, own, h1, h2, h3⟩ := h; ⟨tvs, own, h1.up k, h2.trans k, h3⟩
theorem Ours.fresh {w0 w : World} (n : Int) (h : Up w0 w) (h0 : 0 ≤ n) (h1 : n ≤ 1048576) : Ours w0 w.heap.size ⟨n, 0, []⟩ (w.alloc (.cells #[.int .i64 n, .int .i64 0, .slice none 0 0] 46)) :=
  ⟨[], _, Rep.fresh n w h0 h1, (by repeat (first | with_reducible exact Up.refl _ | with_reducible assumption | with_reducible refine Up.drewN ?_ _ | with_reducible refine Up.drew ?_ | with_reducible refine Up.alloc ?_ _ | with_reducible refine Up.setCell ?_ (by first | omega | (simp; done) | (simp; omega)) _ | with_reducible refine Up.trans ?_ (by assumption))), fun b hb => by have := h.size; exact if_neg (by omega)⟩
/-- an old world: a heap that is handed in is as one's own, seen from later -/
theorem Ours.later {w0 w1 w : World} {hb : Nat} {H : HM} (k : Up w0 w1) (h : Ours w1 hb H w) : Ours w0 hb H w := let ⟨tvs, own, h1, h2, h3⟩ := h; ⟨tvs, own, h1, k.trans h2, fun b hb => h3 b (Nat.lt_of_lt_of_le hb k.size)⟩

theorem Mut.base {w0 w w' : World} {own own' : Own} (h : Up w0 w) (hn : ∀ b, b < w0.heap.size → own b = none) (k : Mut own own' w w') : Up w0 w' ∧ ∀ b, b < w0.heap.size → own' b = none :=
  ⟨⟨k.os.trans h.os, k.tape.trans h.tape, k.output.trans h.output, Nat.le_trans h.size k.size, fun b hb => (k.block b (Nat.lt_of_lt_of_le hb h.size) (hn b hb)).trans (h.block b hb)⟩,
   fun b hb => (k.ext b (Nat.lt_of_lt_of_le hb h.size)).trans (hn b hb)⟩

theorem wrote_ours {w0 w : World} {hb : Nat} {H' : HM} {own : Own} {v : Value} (h : Up w0 w) (hn : ∀ b, b < w0.heap.size → own b = none) (e : Ending) (w' : World) (k : Wrote hb H' own w v e w') : e = .returned v ∧ Ours w0 hb H' w' :=
  let ⟨h1, tvs', own', h2, h3⟩ := k
  let ⟨h4, h5⟩ := Mut.base h hn h3
  ⟨h1, tvs', own', h2, h4, h5⟩

theorem Used_ours {w0 w : World} {hb : Nat} {H : HM} (h : Ours w0 hb H w) : Calls Tryz.prog 11 #[.pointer (some ⟨hb, 0, none⟩)] w fun e w' => e = .returned (.int .i64 H.used) ∧ w = w' :=
  let ⟨tvs, own, h1, _, _⟩ := h
  Used_any _ H tvs own w (.some hb _ _ _ h1)

theorem Make_ours {w0 w : World} {hb : Nat} {H : HM} (k p : Int) (h : Ours w0 hb H w) :
    Calls Tryz.prog 19 #[.pointer (some ⟨hb, 0, none⟩), .int .i64 k, .int .i64 p] w fun e w' => e = .returned (.tuple #[.int .i64 (if H.used < H.room then H.things.length else -1), .int .i64 (if H.used < H.room then 0 else 3)]) ∧ Ours w0 hb (H.make k p) w' :=
  let ⟨tvs, own, h1, h2, h3⟩ := h
  (Make_any hb H tvs own k p w h1).mono (wrote_ours h2 h3)

theorem Set_ours {w0 w : World} {hb : Nat} {H : HM} (k n : Int) (s key : ByteArray) (xk xn : Int) (xs : ByteArray) (h : Ours w0 hb H w) :
    Calls Tryz.prog 20 #[.pointer (some ⟨hb, 0, none⟩), .agg #[.int .i64 k, .int .i64 n, .string s], .string key, .agg #[.int .i64 xk, .int .i64 xn, .string xs]] w
      fun e w' => e = .returned (.tuple #[.string (H.set k n key ⟨xk, xn, xs⟩).2.1, .int .i64 (H.set k n key ⟨xk, xn, xs⟩).2.2]) ∧ Ours w0 hb (H.set k n key ⟨xk, xn, xs⟩).1 w' :=
  let ⟨tvs, own, h1, h2, h3⟩ := h
  (Set_any hb H tvs own k n s key ⟨xk, xn, xs⟩ w h1).mono (wrote_ours h2 h3)

theorem Get_ours {w0 w : World} {hb : Nat} {H : HM} (k n : Int) (s key : ByteArray) (h : Ours w0 hb H w) (hl : (plainS H ⟨k, n, s⟩).k = 4 → (key.toList == lengthS) = false) :
    Calls Tryz.prog 22 #[.pointer (some ⟨hb, 0, none⟩), .agg #[.int .i64 k, .int .i64 n, .string s], .string key] w
      fun e w' => e = .returned (.tuple #[.agg #[.int .i64 ((H.get ⟨k, n, s⟩ key 0).1).k, .int .i64 ((H.get ⟨k, n, s⟩ key 0).1).n, .string ((H.get ⟨k, n, s⟩ key 0).1).s], .string (H.get ⟨k, n, s⟩ key 0).2.1, .int .i64 (H.get ⟨k, n, s⟩ key 0).2.2]) ∧ Ours w0 hb H w' :=
  let ⟨tvs, own, h1, h2, h3⟩ := h
  (Get_any _ H tvs own k n s key w (.some hb _ _ _ h1) hl).mono fun _ _ ⟨g1, g2⟩ => ⟨g1, tvs, own, h1.up g2, h2.trans g2, h3⟩

end Go.Proofs.YtmbipadiaggolaaGreatDoor
