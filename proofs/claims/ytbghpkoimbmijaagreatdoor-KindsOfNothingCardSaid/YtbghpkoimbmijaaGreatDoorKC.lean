import Derived.Test.YtbghpkoimbmijaaGreatDoorKB
/- An arena: its types in a row, their numbers in a map; a map within a region. -/
namespace Go.Proofs.YtbghpkoimbmijaaGreatDoor
open Go.RowKit
set_option linter.unusedSimpArgs false

section
variable {P : Program}
theorem step_lookup {w : World} {ops : Array Oper} {o : Oper} {a : Act} {K : Act → World → Prop} {Q : Exit → Act → World → Prop} {E : Prop} {t : TypeId} {x i : Operand} {ok : Bool} {v : Value} (hgd : o.guard = none)
    (ho : o.op = .lookup t x i ok) (hr : (Instr.lookup t (a.eval x) (a.eval i) ok).run P w = .ok v w) (h : K (a.put o.dst v) w) : if Region.wanted o (yielded ops a.tmps) = true then Oper.wp P o a w K Q else E := by
  have hw : Region.wanted o (yielded ops a.tmps) = true := by simp [Region.wanted, hgd]
  rw [if_pos hw]
  unfold Oper.wp execOp
  simp only [ho, Sem.run_bind, Sem.run_pure, Result.andThen_ok, hr]
  exact h
theorem step_update {w : World} {ops : Array Oper} {o : Oper} {a : Act} {K : Act → World → Prop} {Q : Exit → Act → World → Prop} {E : Prop} {t : TypeId} {m k v : Operand} {g : Nat} {pr : Array MapEntry → Prop} (hgd : o.guard = none)
    (ho : o.op = .mapUpdate t m k v) (hr : ∃ es' clk', (Instr.mapUpdate t (a.eval m) (a.eval k) (a.eval v)).run P w = .ok () (putB w g (.map es' clk')) ∧ pr es')
    (h : ∀ es' clk', pr es' → K (a.put o.dst undef) (putB w g (.map es' clk'))) : if Region.wanted o (yielded ops a.tmps) = true then Oper.wp P o a w K Q else E := by
  have hw : Region.wanted o (yielded ops a.tmps) = true := by simp [Region.wanted, hgd]
  rw [if_pos hw]
  obtain ⟨es', clk', hr, hp⟩ := hr
  unfold Oper.wp execOp
  simp only [ho, Sem.run_bind, Sem.run_pure, Result.andThen_ok, hr]
  exact h es' clk' hp
end

abbrev ArT : TypeId := 59
def ptrV (b : Nat) : Value := .pointer (some ⟨b, 0, none⟩)
def numV (i : Nat) : Value := .int .i64 i

/-- a type whose text was asked for -/
def Said (w : World) (b : Nat) (s : ByteArray) : Prop := ∃ cs : Array Value, w.heap[b]? = some (.cells cs TyT (0, 0)) ∧ cs[7]? = some (.string s)
theorem Leaf.said {w : World} {b : Nat} {k : Int} {s : ByteArray} (h : Leaf w b k s) : Said w b s := ⟨_, h, rfl⟩
theorem Said.cell {w : World} {b : Nat} {s : ByteArray} (h : Said w b s) : w.cell? ⟨b, 7, none⟩ = some (.string s) := by
  obtain ⟨cs, h1, h2⟩ := h
  rw [cell_of h1, h2]
theorem Said.up {w w' : World} {b : Nat} {s : ByteArray} (h : Said w b s) (k : Up w w') : Said w' b s := let ⟨cs, h1, h2⟩ := h; ⟨cs, k.get h1, h2⟩

/-- an arena at A, all of it behind B: its types at bs, their texts ws -/
structure Ar (w : World) (B A : Nat) (bs : List Nat) (ws : List ByteArray) (tv mv : Value) : Prop where
  base : B ≤ A
  head : w.heap[A]? = some (.cells #[tv, mv, .map none] ArT (0, 0))
  row : w.ownsRow 0 TpT 1 tv bs.length (bs.map ptrV)
  rowB : ∀ g, tv.ownBlock = some g → B ≤ g
  ids : (mv = .map none ∧ ws = []) ∨ ∃ g es clk, mv = .map (some g) ∧ B ≤ g ∧ w.heap[g]? = some (.map es clk) ∧ Entries es Value.string numV (ws.zipIdx)
  len : ws.length = bs.length
  nodup : ws.Nodup
  few : bs.length ≤ 1000
  said : ∀ (i b : Nat) (s : ByteArray), bs[i]? = some b → ws[i]? = some s → B ≤ b ∧ Said w b s ∧ (s.toList == []) = false

theorem Ar.up {w w' : World} {B A : Nat} {bs : List Nat} {ws : List ByteArray} {tv mv : Value} (h : Ar w B A bs ws tv mv) (k : Up w w') : Ar w' B A bs ws tv mv where
  base := h.base
  head := k.get h.head
  row := ownsRow_up h.row k
  rowB := h.rowB
  ids := h.ids.imp id fun ⟨g, es, clk, h1, h2, h3, h4⟩ => ⟨g, es, clk, h1, h2, k.get h3, h4⟩
  len := h.len
  nodup := h.nodup
  few := h.few
  said i b s h1 h2 := let ⟨h3, h4, h5⟩ := h.said i b s h1 h2; ⟨h3, h4.up k, h5⟩

/-- another type's text was asked for -/
theorem Ar.texted {w w' : World} {B A : Nat} {bs : List Nat} {ws : List ByteArray} {tv mv : Value} (h : Ar w B A bs ws tv mv) {b : Nat} {cs : Array Value} (hb : w.heap[b]? = some (.cells cs TyT (0, 0))) (hn : b ∉ bs) (k : Kept (fun x => x = b) w w') : Ar w' B A bs ws tv mv where
  base := h.base
  head := k.get h.head (fun e => by
    have h9 := h.head
    rw [show A = b from e, hb] at h9
    injection h9 with h9
    injection h9 with _ h9 _
    exact absurd h9 (by decide))
  row := ownsRow_keep h.row fun g hg => k.block g (h.row.lt g hg).2 (fun e => by
    obtain ⟨cur, hc⟩ : ∃ cur, w.heap[g]? = some (.cells cur TpT (0, 0)) := by
      rcases h.row.2 with ⟨hv, _⟩ | ⟨g', cap, cur, hv, _, hg', _⟩
      · rw [hv] at hg; cases hg
      · rw [hv] at hg; cases hg; exact ⟨cur, hg'⟩
    rw [show g = b from e, hb] at hc
    injection hc with hc
    injection hc with _ hc _
    exact absurd hc (by decide))
  rowB := h.rowB
  ids := h.ids.imp id fun ⟨g, es, clk, h1, h2, h3, h4⟩ => ⟨g, es, clk, h1, h2, k.get h3 (fun e => by subst e; rw [hb] at h3; cases h3), h4⟩
  len := h.len
  nodup := h.nodup
  few := h.few
  said i c s h1 h2 := by
    obtain ⟨h3, ⟨cs, h4, h5⟩, h6⟩ := h.said i c s h1 h2
    exact ⟨h3, ⟨cs, k.get h4 (fun e => by subst e; exact hn (List.mem_of_getElem? h1)), h5⟩, h6⟩

end Go.Proofs.YtbghpkoimbmijaaGreatDoor
