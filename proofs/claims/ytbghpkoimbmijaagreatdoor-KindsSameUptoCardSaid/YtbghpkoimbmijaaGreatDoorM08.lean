import Derived.Lib.ItoaNum
import Derived.Lib.Join
import Derived.Shelf.Strings.Builder1
import Derived.Shelf.Strings.Builder2
import Derived.Shelf.Strings.OnBuilder
import Derived.Shelf.Strings.BuilderF
import Derived.Shelf.Strings.BuilderK
import Derived.Shelf.Strings.BuilderRune
import Derived.Shelf.Utf8.AppendRunePlain
import Derived.Shelf.Strings.Builder2Cap
import Derived.Shelf.Strconv.Itoa0
import Derived.Shelf.Strconv.Itoa1
import Derived.Shelf.LaysM
import Derived.Shelf.Strconv.Itoa2
import Derived.Shelf.Strconv.Itoa3
import Derived.Shelf.Strconv.Itoa4
import Derived.Shelf.Strings.Search1
import Derived.Shelf.Strings.Search2
import Derived.Shelf.Strings.Search3
import Derived.Shelf.Strings.Shaped
import Derived.Shelf.Strings.BuilderCap
import Derived.Shelf.Slices.Turned
import Derived.Ground.Names2Prog
import Derived.Shelf.Slices.Clone
import Derived.Ground.SlgnProg
import Derived.Shelf.SlicesE.Clone
import Derived.Test.YtbghpkoimbmijaaGreatDoorProg
import Derived.Test.YtbghpkoimbmijaaGreatDoorM07
/- YtbghpkoimbmijaaGreatDoorM08: lemmas of the proof, in order: TY, TM, Shelf. -/
/- Types as trees; how they lie in memory. -/
namespace Go.Proofs.YtbghpkoimbmijaaGreatDoor
open Go.RowKit
set_option linter.unusedSimpArgs false

abbrev StrT : TypeId := 9
abbrev BooT : TypeId := 4

inductive Ty where
  | mk (k n : Int) (nm : ByteArray) (ps : List Ty) (ns : List ByteArray) (ms : List Bool)
def Ty.kind : Ty → Int | .mk k _ _ _ _ _ => k
def Ty.num : Ty → Int | .mk _ n _ _ _ _ => n
def Ty.name : Ty → ByteArray | .mk _ _ nm _ _ _ => nm
def Ty.parts : Ty → List Ty | .mk _ _ _ ps _ _ => ps
def Ty.names : Ty → List ByteArray | .mk _ _ _ _ ns _ => ns
def Ty.marks : Ty → List Bool | .mk _ _ _ _ _ ms => ms

def numS (n : Int) : ByteArray := ⟨(Lib.itoa n).toArray⟩
def joinB (sep : ByteArray) (l : List ByteArray) : ByteArray := ⟨(Lib.join (l.map (·.data.toList)) sep.data.toList).toArray⟩
def markS (m : Bool) : ByteArray := if m = true then ⟨#[63]⟩ else ⟨#[]⟩
/-- members of an object -/
def membersL : List (Int × ByteArray) → List ByteArray → List Bool → List ByteArray
  | x :: r, nm :: ns, m :: ms => (nm ++ markS m ++ ⟨#[58, 32]⟩ ++ x.2) :: membersL r ns ms
  | _, _, _ => []
/-- parameters of a function -/
def paramsL : List (Int × ByteArray) → List Bool → List ByteArray
  | x :: r, m :: ms => (if m = true then roundS [15, 16] x.1 x.2 ++ ⟨#[63]⟩ else x.2) :: paramsL r ms
  | _, _ => []
def hashS (nm : ByteArray) (n : Int) : ByteArray := nm ++ ⟨#[35]⟩ ++ numS n

/-- a type's text, of its parts' kinds and texts -/
def textK (k n : Int) (nm : ByteArray) (ts : List (Int × ByteArray)) (ns : List ByteArray) (ms : List Bool) : ByteArray :=
  if k = 11 then numS n
  else if k = 12 then quoteS nm
  else if k = 13 then roundS [15, 16] (ts.headD (0, ⟨#[]⟩)).1 (ts.headD (0, ⟨#[]⟩)).2 ++ ⟨#[91, 93]⟩
  else if k = 14 then ⟨#[123]⟩ ++ joinB ⟨#[59, 32]⟩ (membersL ts ns ms) ++ ⟨#[125]⟩
  else if k = 15 then ⟨#[40]⟩ ++ joinB ⟨#[44, 32]⟩ (paramsL ts.dropLast ms) ++ ⟨#[41, 32, 61, 62, 32]⟩ ++ (ts.getLastD (0, ⟨#[]⟩)).2
  else if k = 16 then joinB ⟨#[32, 124, 32]⟩ (ts.map fun x => partS x.1 x.2)
  else if k = 17 then (if ts = [] then hashS nm n else hashS nm n ++ ⟨#[60]⟩ ++ joinB ⟨#[44, 32]⟩ (ts.map (·.2)) ++ ⟨#[62]⟩)
  else if k = 18 then nm ++ ⟨#[39]⟩ ++ numS n
  else if k = 19 then nm ++ ⟨#[64]⟩ ++ numS n
  else if k = 20 then (ts.headD (0, ⟨#[]⟩)).2 ++ ⟨#[46]⟩ ++ nm
  else if k = 21 then ⟨#[99, 108, 97, 115, 115, 32]⟩ ++ hashS nm n
  else if k = 22 then ⟨#[101, 110, 117, 109, 32]⟩ ++ hashS nm n
  else if k = 23 then ⟨#[110, 97, 109, 101, 115, 112, 97, 99, 101, 32]⟩ ++ hashS nm n
  else wordS k

mutual
def Ty.text : Ty → ByteArray
  | .mk k n nm ps ns ms => textK k n nm (Ty.texts ps) ns ms
def Ty.texts : List Ty → List (Int × ByteArray)
  | [] => []
  | p :: r => (p.kind, p.text) :: Ty.texts r
end
theorem Ty.texts_eq : ∀ ps : List Ty, Ty.texts ps = ps.map fun p => (p.kind, p.text)
  | [] => rfl
  | p :: r => by rw [Ty.texts, Ty.texts_eq r]; rfl
theorem Ty.text_mk (k n : Int) (nm : ByteArray) (ps : List Ty) (ns : List ByteArray) (ms : List Bool) : (Ty.mk k n nm ps ns ms).text = textK k n nm (ps.map fun p => (p.kind, p.text)) ns ms := by rw [Ty.text, Ty.texts_eq]

mutual
def Ty.size : Ty → Nat
  | .mk _ _ _ ps _ _ => (Ty.sizes ps).foldl (fun a x => min (a + x) 1099511627776) 1
def Ty.sizes : List Ty → List Nat
  | [] => []
  | p :: r => p.size :: Ty.sizes r
end
theorem Ty.sizes_eq : ∀ ps : List Ty, Ty.sizes ps = ps.map Ty.size
  | [] => rfl
  | p :: r => by rw [Ty.sizes, Ty.sizes_eq r]; rfl

/-- a slice of values, in blocks of a kind -/
def RowOf (T : TypeId) (N : Nat → Prop) (w : World) (v : Value) (us : List Value) : Prop :=
  ∃ a cap, v = .slice a us.length cap ∧ us.length ≤ cap ∧ us.length ≤ 1000000000 ∧ ∀ (j : Nat) (u : Value), us[j]? = some u → ∃ (g off : Nat) (cs : Array Value) (fz : Nat × Nat), a = some ⟨g, off, none⟩ ∧ N g ∧ w.heap[g]? = some (.cells cs T fz) ∧ cs[off + j]? = some u
theorem RowOf.keep {T : TypeId} {N N' : Nat → Prop} {w w' : World} {v : Value} {us : List Value} (h : RowOf T N w v us) (hk : ∀ g cs fz, N g → w.heap[g]? = some (.cells cs T fz) → N' g ∧ w'.heap[g]? = some (.cells cs T fz)) : RowOf T N' w' v us := by
  obtain ⟨a, cap, h1, h2, h2', h3⟩ := h
  refine ⟨a, cap, h1, h2, h2', fun j u hu => ?_⟩
  obtain ⟨g, off, cs, fz, q1, q2, q3, q4⟩ := h3 j u hu
  obtain ⟨k1, k2⟩ := hk g cs fz q2 q3
  exact ⟨g, off, cs, fz, q1, k1, k2, q4⟩
theorem RowOf.unique {T : TypeId} {N N' : Nat → Prop} {w : World} {v : Value} {us us' : List Value} (h : RowOf T N w v us) (h' : RowOf T N' w v us') : us = us' := by
  obtain ⟨a, cap, h1, _, _, h3⟩ := h
  obtain ⟨a', cap', h1', _, _, h3'⟩ := h'
  rw [h1] at h1'
  injection h1' with e1 e2 _
  apply List.ext_getElem?
  intro j
  rcases Nat.lt_or_ge j us.length with hj | hj
  · obtain ⟨u, hu⟩ : ∃ u, us[j]? = some u := ⟨_, List.getElem?_eq_getElem hj⟩
    obtain ⟨u', hu'⟩ : ∃ u, us'[j]? = some u := ⟨_, List.getElem?_eq_getElem (by omega)⟩
    obtain ⟨g, off, cs, fz, q1, _, q3, q4⟩ := h3 j u hu
    obtain ⟨g', off', cs', fz', r1, _, r3, r4⟩ := h3' j u' hu'
    subst e1
    rw [q1] at r1
    injection r1 with r1
    injection r1 with r1 r2 _
    subst r1 r2
    rw [q3] at r3
    injection r3 with r3
    injection r3 with r3 _ _
    subst r3
    rw [q4] at r4
    rw [hu, hu']
    exact r4
  · rw [List.getElem?_eq_none hj, List.getElem?_eq_none (by omega)]
theorem RowOf.nil (T : TypeId) (N : Nat → Prop) (w : World) : RowOf T N w (.slice none 0 0) [] := ⟨none, 0, rfl, Nat.le_refl _, by simp, fun j u hu => by simp at hu⟩

/-- the cells of a type -/
abbrev tyC (k n : Int) (nm : ByteArray) (pv nv mv : Value) (sz : Nat) (said : ByteArray) : Array Value := #[.int .i64 k, .int .i64 n, .string nm, pv, nv, mv, .int .i64 sz, .string said]

/-- block b reads as a type; the rows of parts that it uses are in N; its text was asked for or not -/
inductive TyAt (N : Nat → Prop) (B : Nat) (w : World) : Nat → Ty → Prop
  | mk {b : Nat} {k n : Int} {nm : ByteArray} {ps : List Ty} {ns : List ByteArray} {ms : List Bool} (said : ByteArray) (pv nv mv : Value) (qs : List Nat) (hB : B ≤ b)
      (h : w.heap[b]? = some (.cells (tyC k n nm pv nv mv (Ty.mk k n nm ps ns ms).size said) TyT (0, 0))) (hs : said = ⟨#[]⟩ ∨ said = (Ty.mk k n nm ps ns ms).text)
      (hp : RowOf TpT N w pv (qs.map ptrV)) (hn : RowOf StrT N w nv (ns.map .string)) (hm : RowOf BooT N w mv (ms.map .bool)) (hl : qs.length = ps.length)
      (hq : ∀ (j q : Nat) (p : Ty), qs[j]? = some q → ps[j]? = some p → TyAt N B w q p) : TyAt N B w b (.mk k n nm ps ns ms)

theorem TyAt.lt {N : Nat → Prop} {B : Nat} {w : World} {b : Nat} {t : Ty} (h : TyAt N B w b t) : b < w.heap.size := by
  cases h with
  | mk _ _ _ _ _ _ h => exact lt_of_heap h
theorem TyAt.ge {N : Nat → Prop} {B : Nat} {w : World} {b : Nat} {t : Ty} (h : TyAt N B w b t) : B ≤ b := by
  cases h with
  | mk _ _ _ _ _ hB => exact hB
theorem ptrs_inj {qs qs' : List Nat} (h : qs.map ptrV = qs'.map ptrV) : qs = qs' := by
  refine List.map_inj_right (f := ptrV) (fun a b e => ?_) |>.1 h
  unfold ptrV at e
  injection e with e
  injection e with e
  injection e with e _ _

theorem TyAt.unique {N N' : Nat → Prop} {B B' : Nat} {w : World} {b : Nat} {t t' : Ty} (h : TyAt N B w b t) (h' : TyAt N' B' w b t') : t = t' := by
  induction h generalizing t' with
  | @mk b k n nm ps ns ms said pv nv mv qs hB hh hs hp hn hm hl hq ih =>
    cases h' with
    | @mk _ k' n' nm' ps' ns' ms' said' pv' nv' mv' qs' hB' hh' hs' hp' hn' hm' hl' hq' =>
      rw [hh] at hh'
      injection hh' with e
      injection e with e _ _
      have e := congrArg Array.toList e
      simp only [List.cons.injEq, and_true, Value.int.injEq, Value.string.injEq, true_and] at e
      obtain ⟨e1, e2, e3, e4, e5, e6, _, _⟩ := e
      subst e1 e2 e3 e4 e5 e6
      have q1 := ptrs_inj (hp.unique hp')
      have q2 := hn.unique hn'
      have q3 := hm.unique hm'
      subst q1
      have q2 := (List.map_inj_right (f := Value.string) (fun a b e => by injection e)).1 q2
      have q3 := (List.map_inj_right (f := Value.bool) (fun a b e => by injection e)).1 q3
      subst q2 q3
      congr 1
      apply List.ext_getElem?
      intro j
      rcases Nat.lt_or_ge j ps.length with hj | hj
      · obtain ⟨p, hp1⟩ : ∃ p, ps[j]? = some p := ⟨_, List.getElem?_eq_getElem hj⟩
        obtain ⟨p', hp2⟩ : ∃ p, ps'[j]? = some p := ⟨_, List.getElem?_eq_getElem (by omega)⟩
        obtain ⟨q, hq1⟩ : ∃ q, qs[j]? = some q := ⟨_, List.getElem?_eq_getElem (by omega)⟩
        rw [hp1, hp2, ih j q p hq1 hp1 (hq' j q p' hq1 hp2)]
      · rw [List.getElem?_eq_none hj, List.getElem?_eq_none (by omega)]

end Go.Proofs.YtbghpkoimbmijaaGreatDoor

/- Worlds in which only texts of types were filled in, beside new blocks and rows of one's own. -/
namespace Go.Proofs.YtbghpkoimbmijaaGreatDoor
open Go.RowKit
set_option linter.unusedSimpArgs false

theorem TyAt.keep {N : Nat → Prop} {B : Nat} {w w' : World} (hrow : ∀ (g : Nat) (cs : Array Value) (T : TypeId) (f : Nat × Nat), T ≠ TyT → N g → w.heap[g]? = some (.cells cs T f) → w'.heap[g]? = some (.cells cs T f))
    (htyp : ∀ (b : Nat) (t : Ty) (k n : Int) (nm : ByteArray) (pv nv mv : Value) (sz : Nat) (said : ByteArray), TyAt N B w b t → w.heap[b]? = some (.cells (tyC k n nm pv nv mv sz said) TyT (0, 0)) → ∃ said', w'.heap[b]? = some (.cells (tyC k n nm pv nv mv sz said') TyT (0, 0)) ∧ (said' = said ∨ said' = t.text))
    {b : Nat} {t : Ty} (h : TyAt N B w b t) : TyAt N B w' b t := by
  induction h with
  | @mk b k n nm ps ns ms said pv nv mv qs hB hh hs hp hn hm hl hq ih =>
    obtain ⟨said', h1, h2⟩ := htyp b _ k n nm pv nv mv _ said (TyAt.mk said pv nv mv qs hB hh hs hp hn hm hl hq) hh
    refine TyAt.mk said' pv nv mv qs hB h1 ?_ (hp.keep fun g cs fz q1 q2 => ⟨q1, hrow g cs _ fz (by decide) q1 q2⟩) (hn.keep fun g cs fz q1 q2 => ⟨q1, hrow g cs _ fz (by decide) q1 q2⟩) (hm.keep fun g cs fz q1 q2 => ⟨q1, hrow g cs _ fz (by decide) q1 q2⟩) hl ih
    rcases h2 with rfl | rfl
    · exact hs
    · exact .inr rfl

theorem TyAt.weaken {N N' : Nat → Prop} {B : Nat} {w : World} {b : Nat} {t : Ty} (h : TyAt N B w b t) (hN : ∀ g, N g → g < w.heap.size → N' g) : TyAt N' B w b t := by
  induction h with
  | mk said pv nv mv qs hB hh hs hp hn hm hl hq ih => exact TyAt.mk said pv nv mv qs hB hh hs (hp.keep fun g cs fz q1 q2 => ⟨hN g q1 (lt_of_heap q2), q2⟩) (hn.keep fun g cs fz q1 q2 => ⟨hN g q1 (lt_of_heap q2), q2⟩) (hm.keep fun g cs fz q1 q2 => ⟨hN g q1 (lt_of_heap q2), q2⟩) hl ih
theorem TyAt.there {N : Nat → Prop} {B : Nat} {w : World} {b : Nat} {t : Ty} (h : TyAt N B w b t) : TyAt (fun g => N g ∧ g < w.heap.size) B w b t := h.weaken fun _ h1 h2 => ⟨h1, h2⟩

structure Memo (S : Nat → Prop) (B : Nat) (w w' : World) : Prop where
  os : w'.os = w.os
  tape : w'.tape = w.tape
  output : w'.output = w.output
  size : w.heap.size ≤ w'.heap.size
  obj : ∀ (b : Nat) (o : Obj), w.heap[b]? = some o → (∀ (cs : Array Value) (f : Nat × Nat), o ≠ .cells cs TyT f) → ¬ S b → w'.heap[b]? = some o
  low : ∀ b, b < B → b < w.heap.size → w'.heap[b]? = w.heap[b]?
  ty : ∀ (N : Nat → Prop) (b : Nat) (t : Ty), (∀ x, N x → ¬ S x) → TyAt N B w b t → TyAt N B w' b t
  fld : ∀ (b : Nat) (cs : Array Value) (f : Nat × Nat), w.heap[b]? = some (.cells cs TyT f) → ∃ cs', w'.heap[b]? = some (.cells cs' TyT f) ∧ ∀ i, i ≠ 7 → cs'[i]? = cs[i]?
abbrev none1 : Nat → Prop := fun _ => False

theorem Memo.refl (S : Nat → Prop) (B : Nat) (w : World) : Memo S B w w := ⟨rfl, rfl, rfl, Nat.le_refl _, fun _ _ h _ _ => h, fun _ _ _ => rfl, fun _ _ _ _ h => h, fun _ cs _ h => ⟨cs, h, fun _ _ => rfl⟩⟩
theorem Memo.trans {S : Nat → Prop} {B : Nat} {a b c : World} (h : Memo S B a b) (k : Memo S B b c) : Memo S B a c where
  os := k.os.trans h.os
  tape := k.tape.trans h.tape
  output := k.output.trans h.output
  size := Nat.le_trans h.size k.size
  obj x o h1 h2 h3 := k.obj x o (h.obj x o h1 h2 h3) h2 h3
  low x h1 h2 := (k.low x h1 (Nat.lt_of_lt_of_le h2 h.size)).trans (h.low x h1 h2)
  ty N x t h1 h2 := k.ty N x t h1 (h.ty N x t h1 h2)
  fld x cs f h1 := let ⟨cs1, q1, q2⟩ := h.fld x cs f h1; let ⟨cs2, r1, r2⟩ := k.fld x cs1 f q1; ⟨cs2, r1, fun i hi => (r2 i hi).trans (q2 i hi)⟩
theorem Memo.of_up (S : Nat → Prop) (B : Nat) {w w' : World} (h : Up w w') : Memo S B w w' where
  os := h.os
  tape := h.tape
  output := h.output
  size := h.size
  obj _ _ h1 _ _ := h.get h1
  low b _ h2 := h.block b h2
  ty _ _ _ _ ht := ht.keep (fun _ _ _ _ _ _ q => h.get q) (fun _ _ _ _ _ _ _ _ _ said _ q => ⟨said, h.get q, .inl rfl⟩)
  fld _ cs _ q := ⟨cs, h.get q, fun _ _ => rfl⟩
theorem Memo.up {S : Nat → Prop} {B : Nat} {a b c : World} (h : Memo S B a b) (k : Up b c) : Memo S B a c := h.trans (.of_up S B k)
theorem Memo.mono {S T : Nat → Prop} {B : Nat} {w w' : World} (h : Memo S B w w') (hs : ∀ x, S x → T x) : Memo T B w w' :=
  { h with obj := fun b o h1 h2 h3 => h.obj b o h1 h2 (fun q => h3 (hs _ q)), ty := fun N b t h1 h2 => h.ty N b t (fun x hx q => h1 x hx (hs _ q)) h2 }
/-- what was written was not there -/
theorem Memo.fresh {S : Nat → Prop} {B : Nat} {w w' : World} (h : Memo S B w w') (hs : ∀ x, S x → w.heap.size ≤ x) : Memo none1 B w w' :=
  { h with
    obj := fun b o h1 h2 _ => h.obj b o h1 h2 (fun q => by have := hs b q; have := lt_of_heap h1; omega)
    ty := fun N b t _ h2 => (h.ty _ b t (fun x hx q => by have := hs x q; have := hx.2; omega) h2.there).weaken fun _ q _ => q.1 }

theorem cells_ne {w : World} {a b : Nat} {cs cs' : Array Value} {T T' : TypeId} {f f' : Nat × Nat} (h : w.heap[a]? = some (.cells cs T f)) (h' : w.heap[b]? = some (.cells cs' T' f')) (hT : T ≠ T') : a ≠ b := fun e => by
  subst e
  rw [h] at h'
  injection h' with h'
  injection h' with _ h' _
  exact hT h'

/-- a row of one's own is written -/
theorem Memo.row {S : Nat → Prop} {B : Nat} {w : World} {g i : Nat} {cs : Array Value} {f : Nat × Nat} (h : w.heap[g]? = some (.cells cs TpT f)) (hs : S g) (hB : B ≤ g) (v : Value) : Memo S B w (w.setCell ⟨g, i, none⟩ v) where
  os := rfl
  tape := rfl
  output := rfl
  size := by rw [setCell_size]; exact Nat.le_refl _
  obj b o h1 _ h3 := by rw [setCell_other (fun e => h3 (by rw [e]; exact hs))]; exact h1
  low b h1 _ := setCell_other (by omega) _
  ty N b t hN ht := ht.keep (fun g' cs' T f' _ hn q => by
      rw [setCell_other (fun e => hN g' hn (by rw [e]; exact hs))]
      exact q) (fun b' t' k n nm pv nv mv sz said _ q => ⟨said, by rw [setCell_other (cells_ne q h (by decide))]; exact q, .inl rfl⟩)
  fld x cs' f' q := ⟨cs', by rw [setCell_other (cells_ne q h (by decide))]; exact q, fun _ _ => rfl⟩

/-- a text is filled in -/
theorem Memo.said {S N : Nat → Prop} {B : Nat} {w : World} {b : Nat} {t : Ty} (h : TyAt N B w b t) : Memo S B w (w.setCell ⟨b, 7, none⟩ (.string t.text)) := by
  have hge := h.ge
  have h0 := h
  cases h with
  | @mk _ k n nm ps ns ms said pv nv mv qs hB hh hs hp hn hm hl hq =>
    have hset : (w.setCell ⟨b, 7, none⟩ (.string (Ty.mk k n nm ps ns ms).text)).heap[b]? = some (.cells (tyC k n nm pv nv mv (Ty.mk k n nm ps ns ms).size (Ty.mk k n nm ps ns ms).text) TyT (0, 0)) := setCell_block (i := 7) hh _
    exact {
      os := rfl
      tape := rfl
      output := rfl
      size := by rw [setCell_size]; exact Nat.le_refl _
      obj := fun x o h1 h2 _ => by
        rw [setCell_other (fun e => ?_)]
        · exact h1
        · subst e
          rw [hh] at h1
          injection h1 with h1
          exact h2 _ _ h1.symm
      low := fun x h1 _ => setCell_other (by omega) _
      ty := fun N' x t' hN ht => ht.keep (fun g cs T f hT _ q => by rw [setCell_other (cells_ne q hh hT)]; exact q) (fun x' t'' k' n' nm' pv' nv' mv' sz' said' ht' q => by
        by_cases e : x' = b
        · subst e
          have e2 := ht'.unique h0
          subst e2
          rw [hh] at q
          injection q with q
          injection q with q _ _
          have q := congrArg Array.toList q
          simp only [List.cons.injEq, and_true, Value.int.injEq, Value.string.injEq, true_and] at q
          obtain ⟨e1, e2, e3, e4, e5, e6, e7, _⟩ := q
          subst e1 e2 e3 e4 e5 e6
          have e7 : (Ty.mk k n nm ps ns ms).size = sz' := by omega
          subst e7
          exact ⟨_, hset, .inr rfl⟩
        · exact ⟨said', by rw [setCell_other e]; exact q, .inl rfl⟩)
      fld := fun x cs f q => by
        by_cases e : x = b
        · subst e
          refine ⟨_, setCell_block (i := 7) q _, fun i hi => ?_⟩
          rw [Array.getElem?_setIfInBounds_ne (by omega)]
        · exact ⟨cs, by rw [setCell_other e]; exact q, fun _ _ => rfl⟩ }

/-- a row of one's own grew -/
theorem Memo.grown {S : Nat → Prop} {B : Nat} {w w' : World} {row : Option Nat} (hg : w.grownBy w' row) (hr : ∀ r, row = some r → S r ∧ B ≤ r ∧ ∃ (cs : Array Value) (T : TypeId) (f : Nat × Nat), w.heap[r]? = some (.cells cs T f) ∧ T ≠ TyT) : Memo S B w w' where
  os := hg.os
  tape := hg.tape
  output := hg.output
  size := hg.size
  obj b o h1 _ h3 := grown_get hg h1 (fun e => h3 (hr b e).1)
  low b h1 h2 := hg.block b h2 (fun e => by have := (hr b e.symm).2.1; omega)
  ty N b t hN ht := ht.keep (fun g' cs' T f' _ hn q => grown_get hg q (fun e => hN g' hn (hr g' e).1)) (fun b' t' k n nm pv nv mv sz said _ q => ⟨said, grown_get hg q (fun e => by
    obtain ⟨_, _, cs, T, f, h1, h2⟩ := hr b' e
    exact cells_ne q h1 (fun e2 => h2 e2.symm) rfl), .inl rfl⟩)
  fld x cs' f' q := ⟨cs', grown_get hg q (fun e => by
    obtain ⟨_, _, cs, T, f, h1, h2⟩ := hr x e
    exact cells_ne q h1 (fun e2 => h2 e2.symm) rfl), fun _ _ => rfl⟩

theorem Memo.cell {S : Nat → Prop} {B : Nat} {w w' : World} (h : Memo S B w w') {b : Nat} {cs : Array Value} {f : Nat × Nat} (hb : w.heap[b]? = some (.cells cs TyT f)) {i : Nat} (hi : i ≠ 7) : w'.cell? ⟨b, i, none⟩ = w.cell? ⟨b, i, none⟩ := by
  obtain ⟨cs', h1, h2⟩ := h.fld b cs f hb
  rw [cell_of h1, cell_of hb, h2 i hi]
theorem Memo.lt {S : Nat → Prop} {B : Nat} {w w' : World} (h : Memo S B w w') {b : Nat} (hb : b < w.heap.size) : b < w'.heap.size := Nat.lt_of_lt_of_le hb h.size
/-- a row of something else than types -/
theorem Memo.cells {S : Nat → Prop} {B : Nat} {w w' : World} (h : Memo S B w w') {g : Nat} {cs : Array Value} {T : TypeId} {f : Nat × Nat} (hg : w.heap[g]? = some (.cells cs T f)) (hT : T ≠ TyT) (hs : ¬ S g) : w'.heap[g]? = some (.cells cs T f) :=
  h.obj g _ hg (fun cs' f' e => by injection e with _ e _; exact hT e) hs

end Go.Proofs.YtbghpkoimbmijaaGreatDoor

/- Contracts of the library at this dump, in plain words (printed by the kit's lay-shelf.mjs, lay-plain.mjs; those that are used). -/
namespace Go.Proofs
open Go.Shelf
def Tryz.lays156_ren : Go.Shelf.Ren := ⟨fun | 156 => 74 | 165 => 93 | 166 => 90 | 169 => 92 | 240 => 100 | 241 => 103 | 276 => 111 | 277 => 113 | n => n, fun | 31 => 23 | 9 => 9 | 3 => 3 | 4 => 4 | 0 => 0 | 20 => 20 | 72 => 141 | 76 => 148 | 70 => 139 | 37 => 119 | 75 => 143 | 127 => 160 | 164 => 167 | 5 => 5 | 80 => 82 | n => n, fun | n => n⟩
theorem Tryz.lays156 : Go.Proofs.Lays.n156 Tryz.prog Tryz.lays156_ren := {
  mixed := by kernel_rfl
  f156 := Tryz.func74.trans (congrArg some (by kernel_rfl))
  f165 := Tryz.func93.trans (congrArg some (by kernel_rfl))
  f166 := Tryz.func90.trans (congrArg some (by kernel_rfl))
  f169 := Tryz.func92.trans (congrArg some (by kernel_rfl))
  f240 := Tryz.func100.trans (congrArg some (by kernel_rfl))
  f241 := Tryz.func103.trans (congrArg some (by kernel_rfl))
  f276 := Tryz.func111.trans (congrArg some (by kernel_rfl))
  f277 := Tryz.func113.trans (congrArg some (by kernel_rfl))
  t0 := Tryz.underlying0
  a0 := Tryz.isAgg0
  z0 := Tryz.sizeOf0
  v0 := Tryz.zeroValue0
  t3 := Tryz.underlying3
  a3 := Tryz.isAgg3
  z3 := Tryz.sizeOf3
  v3 := Tryz.zeroValue3
  t4 := Tryz.underlying4
  a4 := Tryz.isAgg4
  z4 := Tryz.sizeOf4
  v4 := Tryz.zeroValue4
  t9 := Tryz.underlying9
  a9 := Tryz.isAgg9
  z9 := Tryz.sizeOf9
  v9 := Tryz.zeroValue9
  t20 := Tryz.underlying20
  a20 := Tryz.isAgg20
  z20 := Tryz.sizeOf20
  v20 := Tryz.zeroValue20
  t31 := Tryz.underlying23
  a31 := Tryz.isAgg23
  z31 := Tryz.sizeOf23
  v31 := Tryz.zeroValue23
  t37 := Tryz.underlying119
  a37 := Tryz.isAgg119
  z37 := Tryz.sizeOf119
  v37 := Tryz.zeroValue119
  t70 := Tryz.underlying139
  a70 := Tryz.isAgg139
  z70 := Tryz.sizeOf139
  v70 := Tryz.zeroValue139
  t72 := Tryz.underlying141
  a72 := Tryz.isAgg141
  z72 := Tryz.sizeOf141
  v72 := Tryz.zeroValue141
  t75 := Tryz.underlying143
  a75 := Tryz.isAgg143
  z75 := Tryz.sizeOf143
  v75 := Tryz.zeroValue143
  t76 := Tryz.underlying148
  a76 := Tryz.isAgg148
  z76 := Tryz.sizeOf148
  v76 := Tryz.zeroValue148
  t127 := Tryz.underlying160
  a127 := Tryz.isAgg160
  z127 := Tryz.sizeOf160
  v127 := Tryz.zeroValue160
  t164 := Tryz.underlying167
  a164 := Tryz.isAgg167
  z164 := Tryz.sizeOf167
  v164 := Tryz.zeroValue167 }
theorem Tryz.Builder_Extra_156 : Builder.Extra Tryz.prog Tryz.lays156_ren := {
  sizeBuilder := by kernel_rfl
  liesBuilder := by kernel_rfl
  t5 := Tryz.underlying5
  a5 := Tryz.isAgg5
  z5 := Tryz.sizeOf5
  v5 := Tryz.zeroValue5
  infoByte := by kernel_rfl
  cellsByte := by kernel_rfl
  sizeByte := by kernel_rfl
  neB5 := by decide }
open Go.RowKit in
/-- No element: the empty string; the world is as it was. (Whatever the slice's address and capacity: a nil slice too.) (LAID: no walk: one application.) -/
theorem Tryz.strings_Join_none (a : Option Addr) (c : Nat) (sep : ByteArray) (w : World) :
    Calls Tryz.prog 74 #[.slice a 0 c, .string sep] w fun e w' => e = .returned (.string ⟨#[]⟩) ∧ w' = w := Any.strings_Join_none Tryz.lays156 Tryz.Builder_Extra_156 a c sep w
open Go.RowKit in
/-- strings.Join: "Join concatenates the elements of its first argument to create a single string. The separator string sep is placed between elements in the resulting string.": HOWEVER MANY ELEMENTS. Below the heap's end the world is as it was. (LAID: no walk: one application.) -/
theorem Tryz.strings_Join (bk o c : Nat) (xs : List ByteArray) (sep : ByteArray) (w : World) (hcells : ∀ (j : Nat) x, xs[j]? = some x → w.cell? ⟨bk, o + j, none⟩ = some (.string x)) (hbk : bk < w.heap.size) (hN : xs.length ≤ 140737488355328) (hcap : xs.length ≤ c) (hlen : (Lib.join (xs.map (·.data.toList)) sep.data.toList).length ≤ 140737488355328) :
    Calls Tryz.prog 74 #[.slice (some ⟨bk, o, none⟩) xs.length c, .string sep] w fun e w' => e = .returned (.string ⟨(Lib.join (xs.map (·.data.toList)) sep.data.toList).toArray⟩) ∧ Below w.heap.size w w' := Any.strings_Join Tryz.lays156 Tryz.Builder_Extra_156 bk o c xs sep w hcells hbk hN hcap hlen
def Tryz.laysM171_ren : Go.Shelf.Ren := ⟨fun | 171 => 71 | 243 => 86 | 246 => 99 | 283 => 107 | 284 => 108 | 285 => 109 | 286 => 110 | 129 => 121 | 317 => 120 | 318 => 122 | 319 => 123 | 320 => 124 | 337 => 127 | 338 => 128 | n => n, fun | 3 => 3 | 9 => 9 | 2 => 2 | 4 => 4 | 171 => 161 | 0 => 0 | 53 => 162 | 37 => 119 | 5 => 5 | 173 => 165 | 212 => 174 | 51 => 169 | 20 => 20 | 213 => 175 | 46 => 135 | 232 => 180 | 233 => 181 | n => n, fun | 17 => 1 | 18 => 2 | 19 => 3 | n => n⟩
theorem Tryz.laysM171 : Go.Proofs.LaysM.n171 Tryz.prog Tryz.laysM171_ren := {
  mixed := by kernel_rfl
  f129 := Tryz.func121.trans (congrArg some (by kernel_rfl))
  f171 := Tryz.func71.trans (congrArg some (by kernel_rfl))
  f243 := Tryz.func86.trans (congrArg some (by kernel_rfl))
  f246 := Tryz.func99.trans (congrArg some (by kernel_rfl))
  f283 := Tryz.func107.trans (congrArg some (by kernel_rfl))
  f284 := Tryz.func108.trans (congrArg some (by kernel_rfl))
  f285 := Tryz.func109.trans (congrArg some (by kernel_rfl))
  f286 := Tryz.func110.trans (congrArg some (by kernel_rfl))
  f317 := Tryz.func120.trans (congrArg some (by kernel_rfl))
  f318 := Tryz.func122.trans (congrArg some (by kernel_rfl))
  f319 := Tryz.func123.trans (congrArg some (by kernel_rfl))
  f320 := Tryz.func124.trans (congrArg some (by kernel_rfl))
  f337 := Tryz.func127.trans (congrArg some (by kernel_rfl))
  f338 := Tryz.func128.trans (congrArg some (by kernel_rfl))
  t0 := Tryz.underlying0
  a0 := Tryz.isAgg0
  z0 := Tryz.sizeOf0
  v0 := Tryz.zeroValue0
  t2 := Tryz.underlying2
  a2 := Tryz.isAgg2
  z2 := Tryz.sizeOf2
  v2 := Tryz.zeroValue2
  t3 := Tryz.underlying3
  a3 := Tryz.isAgg3
  z3 := Tryz.sizeOf3
  v3 := Tryz.zeroValue3
  t4 := Tryz.underlying4
  a4 := Tryz.isAgg4
  z4 := Tryz.sizeOf4
  v4 := Tryz.zeroValue4
  t5 := Tryz.underlying5
  a5 := Tryz.isAgg5
  z5 := Tryz.sizeOf5
  v5 := Tryz.zeroValue5
  t9 := Tryz.underlying9
  a9 := Tryz.isAgg9
  z9 := Tryz.sizeOf9
  v9 := Tryz.zeroValue9
  t20 := Tryz.underlying20
  a20 := Tryz.isAgg20
  z20 := Tryz.sizeOf20
  v20 := Tryz.zeroValue20
  t37 := Tryz.underlying119
  a37 := Tryz.isAgg119
  z37 := Tryz.sizeOf119
  v37 := Tryz.zeroValue119
  t46 := Tryz.underlying135
  a46 := Tryz.isAgg135
  z46 := Tryz.sizeOf135
  v46 := Tryz.zeroValue135
  t51 := Tryz.underlying169
  a51 := Tryz.isAgg169
  z51 := Tryz.sizeOf169
  v51 := Tryz.zeroValue169
  t53 := Tryz.underlying162
  a53 := Tryz.isAgg162
  z53 := Tryz.sizeOf162
  v53 := Tryz.zeroValue162
  t171 := Tryz.underlying161
  a171 := Tryz.isAgg161
  z171 := Tryz.sizeOf161
  v171 := Tryz.zeroValue161
  t173 := Tryz.underlying165
  a173 := Tryz.isAgg165
  z173 := Tryz.sizeOf165
  v173 := Tryz.zeroValue165
  t212 := Tryz.underlying174
  a212 := Tryz.isAgg174
  z212 := Tryz.sizeOf174
  v212 := Tryz.zeroValue174
  t213 := Tryz.underlying175
  a213 := Tryz.isAgg175
  z213 := Tryz.sizeOf175
  t232 := Tryz.underlying180
  a232 := Tryz.isAgg180
  z232 := Tryz.sizeOf180
  v232 := Tryz.zeroValue180
  t233 := Tryz.underlying181
  a233 := Tryz.isAgg181
  z233 := Tryz.sizeOf181
  v233 := Tryz.zeroValue181
  g17 := by kernel_rfl
  g18 := by kernel_rfl
  g19 := by kernel_rfl
  i0 := by kernel_rfl
  i2 := by kernel_rfl
  i3 := by kernel_rfl
  i4 := by kernel_rfl
  i5 := by kernel_rfl
  i9 := by kernel_rfl
  i20 := by kernel_rfl
  i37 := by kernel_rfl
  i46 := by kernel_rfl
  i51 := by kernel_rfl
  i53 := by kernel_rfl
  i171 := by kernel_rfl
  i173 := by kernel_rfl
  i212 := by kernel_rfl
  i232 := by kernel_rfl
  i233 := by kernel_rfl
  m17 := by kernel_rfl
  m18 := by kernel_rfl
  m19 := by kernel_rfl }
open Go.RowKit Go.Sort Go.Lib in
/-- strconv.Itoa: "Itoa is equivalent to FormatInt(int64(i), 10).": i's DECIMAL NUMERAL ('Lib.itoa': a '-' where i is negative, then the digits), FOR EVERY int. The world behind the call: the world before it, new blocks behind the heap (the library's 'var a [24]byte'), draws. (LAID: no walk: one application.) -/
theorem Tryz.strconv_Itoa (n : Int) (h0 : -9223372036854775808 ≤ n) (h1 : n ≤ 9223372036854775807) (w : World) (htab : Lib.TabIs Tryz.prog w "internal/strconv.uint64pow10" .u64 Lib.pow10Tab) :
    Calls Tryz.prog 71 #[.int .i64 n] w fun e w' => e = .returned (.string ⟨(Lib.itoa n).toArray⟩) ∧ ∃ k os, w' = grow (w.drewN k) os := Any.strconv_Itoa Tryz.laysM171 n h0 h1 w htab
def Tryz.lays144_ren : Go.Shelf.Ren := ⟨fun | 144 => 78 | 143 => 94 | 219 => 104 | 217 => 114 | 225 => 115 | 224 => 116 | 267 => 117 | 266 => 125 | 314 => 126 | n => n, fun | 9 => 9 | 4 => 4 | 3 => 3 | 5 => 5 | 46 => 135 | 146 => 177 | 51 => 169 | n => n, fun | 1 => 0 | n => n⟩
theorem Tryz.lays144 : Go.Proofs.Lays.n144 Tryz.prog Tryz.lays144_ren := {
  mixed := by kernel_rfl
  f143 := Tryz.func94.trans (congrArg some (by kernel_rfl))
  f144 := Tryz.func78.trans (congrArg some (by kernel_rfl))
  f217 := Tryz.func114.trans (congrArg some (by kernel_rfl))
  f219 := Tryz.func104.trans (congrArg some (by kernel_rfl))
  f224 := Tryz.func116.trans (congrArg some (by kernel_rfl))
  f225 := Tryz.func115.trans (congrArg some (by kernel_rfl))
  f266 := Tryz.func125.trans (congrArg some (by kernel_rfl))
  f267 := Tryz.func117.trans (congrArg some (by kernel_rfl))
  f314 := Tryz.func126.trans (congrArg some (by kernel_rfl))
  t3 := Tryz.underlying3
  a3 := Tryz.isAgg3
  z3 := Tryz.sizeOf3
  v3 := Tryz.zeroValue3
  t4 := Tryz.underlying4
  a4 := Tryz.isAgg4
  z4 := Tryz.sizeOf4
  v4 := Tryz.zeroValue4
  t5 := Tryz.underlying5
  a5 := Tryz.isAgg5
  z5 := Tryz.sizeOf5
  v5 := Tryz.zeroValue5
  t9 := Tryz.underlying9
  a9 := Tryz.isAgg9
  z9 := Tryz.sizeOf9
  v9 := Tryz.zeroValue9
  t46 := Tryz.underlying135
  a46 := Tryz.isAgg135
  z46 := Tryz.sizeOf135
  v46 := Tryz.zeroValue135
  t51 := Tryz.underlying169
  a51 := Tryz.isAgg169
  z51 := Tryz.sizeOf169
  v51 := Tryz.zeroValue169
  t146 := Tryz.underlying177
  a146 := Tryz.isAgg177
  z146 := Tryz.sizeOf177
  v146 := Tryz.zeroValue177
  g1 := by kernel_rfl }
open Go.RowKit Go.Lib in
/-- strings.Contains: "Contains reports whether substr is within s.": IT RETURNS 'Lib.contains s substr'; the world is as it was. (LAID: no walk: one application.) -/
theorem Tryz.strings_Contains (s sub : ByteArray) (m : Int) (w : World) (hs : s.size < 4294967281) (hm : w.cell? ⟨0, 0, none⟩ = some (.int .i64 m)) :
    Calls Tryz.prog 78 #[.string s, .string sub] w fun e w' => e = .returned (.bool (Lib.contains s.data.toList sub.data.toList)) ∧ w' = w := Any.strings_Contains Tryz.lays144 s sub m w hs hm
def Tryz.laysNm216_ren : Go.Shelf.Ren := ⟨fun | 16 => 27 | n => n, fun | 24 => 23 | 9 => 9 | 4 => 4 | n => n, fun | n => n⟩
theorem Tryz.laysNm216 : Go.Proofs.Lays2.n16 Tryz.prog Tryz.laysNm216_ren := {
  mixed := by kernel_rfl
  f16 := Tryz.func27.trans (congrArg some (by kernel_rfl))
  t4 := Tryz.underlying4
  a4 := Tryz.isAgg4
  z4 := Tryz.sizeOf4
  v4 := Tryz.zeroValue4
  t9 := Tryz.underlying9
  a9 := Tryz.isAgg9
  z9 := Tryz.sizeOf9
  v9 := Tryz.zeroValue9
  t24 := Tryz.underlying23
  a24 := Tryz.isAgg23
  z24 := Tryz.sizeOf23
  v24 := Tryz.zeroValue23
  i9 := by kernel_rfl }
open Go.RowKit Go.Lib in
/-- slices.Clone at []string: "Clone returns a copy of the slice. The elements are copied using assignment, so this is a shallow clone. The result may have additional unused capacity. The result preserves the nilness of s.": OF A SLICE THAT IS NOT nil IT RETURNS A SLICE THAT IS NOT nil, OF THE SAME ELEMENTS, IN MEMORY OF THE CALL's OWN: in the how-to's words (6f): 'w'.ownsRow B e 1 v' n cells': v' begins at the head of a row among the blocks from B on (B: the heap's size at the call), not frozen, whose first cells are the elements · 'Below B w w'': below B all is as it was. The capacity is whatever the run-time gives. 'zs': what the cells behind the slice's address hold; 'zs.take n': its elements. (LAID: no walk: one application.) -/
theorem Tryz.slices_Clone_string (b off n c : Nat) (zs : List ByteArray) (w : World) (hz : n ≤ zs.length) (hbig : n * 16 ≤ 140737488355328) (hc : ∀ j, j < zs.length → w.cell? ⟨b, off + j, none⟩ = some (.string (zs.getD j ByteArray.empty))) :
    Calls Tryz.prog 27 #[.slice (some ⟨b, off, none⟩) n c] w fun e w' => ∃ v', e = .returned v' ∧ w'.ownsRow w.heap.size 9 1 v' n ((zs.take n).map (Value.string)) ∧ v' ≠ .slice none 0 0 ∧ Below w.heap.size w w' := Any.slices_Clone_string Tryz.laysNm216 b off n c zs w hz hbig hc
open Go.RowKit Go.Lib in
/-- The same at nil: nil comes back; the world is as it was. (LAID: no walk: one application.) -/
theorem Tryz.slices_Clone_string_nil (n c : Nat) (w : World) :
    Calls Tryz.prog 27 #[.slice none n c] w fun e w' => e = .returned (.slice none 0 0) ∧ w' = w := Any.slices_Clone_string_nil Tryz.laysNm216 n c w
open Go.RowKit Go.Lib in
/-- The same at a slice of length 0 that is not nil, WHATEVER ITS ADDRESS (no cell is asked for): a slice that is not nil and owns nothing comes back. (LAID: no walk: one application.) -/
theorem Tryz.slices_Clone_string_zero (a : Addr) (c : Nat) (w : World) :
    Calls Tryz.prog 27 #[.slice (some a) 0 c] w fun e w' => ∃ v', e = .returned v' ∧ w'.ownsRow w.heap.size 9 1 v' 0 [] ∧ v' ≠ .slice none 0 0 ∧ Below w.heap.size w w' := Any.slices_Clone_string_zero Tryz.laysNm216 a c w
def Tryz.laysSlE041_f27_ren : Go.Shelf.Ren := ⟨fun | 41 => 27 | n => n, fun | 22 => 23 | 23 => 9 | 4 => 4 | n => n, fun | n => n⟩
theorem Tryz.laysSlE041_f27 : Go.Proofs.SlLaysE0.n41 Tryz.prog Tryz.laysSlE041_f27_ren := {
  mixed := by kernel_rfl
  f41 := ⟨Tryz.f27.name, by decide, Tryz.func27.trans (congrArg some (by kernel_rfl))⟩
  t4 := Tryz.underlying4
  a4 := Tryz.isAgg4
  z4 := Tryz.sizeOf4
  v4 := Tryz.zeroValue4
  t22 := Tryz.underlying23
  a22 := Tryz.isAgg23
  z22 := Tryz.sizeOf23
  v22 := Tryz.zeroValue23 }
open Go.RowKit Go.Lib in
/-- slices.Clone: "Clone returns a copy of the slice. The elements are copied using assignment, so this is a shallow clone. The result may have additional unused capacity. The result preserves the nilness of s.": OF A SLICE THAT IS NOT nil IT RETURNS A SLICE THAT IS NOT nil, OF THE SAME CELLS, IN MEMORY OF THE CALL's OWN ('ownsRow': the how-to's 6f); below the heap's size at the call all is as it was. (LAID AT THE INSTANCE 'slices.Clone[[]string,string]': no walk: one application.) -/
theorem Tryz.slices_Clone_f27 (i0 : TypeInfo) (z : Value) (size bytes : Nat) (hi : Tryz.prog.info? 9 = some i0) (hz0 : i0.zero = some z) (hz1 : i0.size = size) (hz2 : i0.bytes = bytes) (hzs : z.cells.size = size) (hsz : 0 < size) (z23 : ∀ w, (Go.sizeOf 9).run Tryz.prog w = .ok size w) (b off n c : Nat) (news : List Value) (w : World) (hl : news.length = n * size) (hn : n ≤ maxLen) (hbig : n * bytes ≤ 140737488355328) (hc : ∀ j u, news[j]? = some u → w.cell? ⟨b, off + j, none⟩ = some u) (h1 : ∀ u ∈ news, u.oneCell' = true) :
    Calls Tryz.prog 27 #[.slice (some ⟨b, off, none⟩) n c] w fun e w' => ∃ v', e = .returned v' ∧ w'.ownsRow w.heap.size 9 size v' n news ∧ v' ≠ .slice none 0 0 ∧ Below w.heap.size w w' := AnyE.slices_Clone Tryz.laysSlE041_f27 i0 z size bytes hi hz0 hz1 hz2 hzs hsz z23 b off n c news w hl hn hbig hc h1
def Tryz.laysSlE041_f28_ren : Go.Shelf.Ren := ⟨fun | 41 => 28 | n => n, fun | 22 => 24 | 23 => 4 | 4 => 4 | n => n, fun | n => n⟩
theorem Tryz.laysSlE041_f28 : Go.Proofs.SlLaysE0.n41 Tryz.prog Tryz.laysSlE041_f28_ren := {
  mixed := by kernel_rfl
  f41 := ⟨Tryz.f28.name, by decide, Tryz.func28.trans (congrArg some (by kernel_rfl))⟩
  t4 := Tryz.underlying4
  a4 := Tryz.isAgg4
  z4 := Tryz.sizeOf4
  v4 := Tryz.zeroValue4
  t22 := Tryz.underlying24
  a22 := Tryz.isAgg24
  z22 := Tryz.sizeOf24
  v22 := Tryz.zeroValue24 }
open Go.RowKit Go.Lib in
/-- slices.Clone: "Clone returns a copy of the slice. The elements are copied using assignment, so this is a shallow clone. The result may have additional unused capacity. The result preserves the nilness of s.": OF A SLICE THAT IS NOT nil IT RETURNS A SLICE THAT IS NOT nil, OF THE SAME CELLS, IN MEMORY OF THE CALL's OWN ('ownsRow': the how-to's 6f); below the heap's size at the call all is as it was. (LAID AT THE INSTANCE 'slices.Clone[[]bool,bool]': no walk: one application.) -/
theorem Tryz.slices_Clone_f28 (i0 : TypeInfo) (z : Value) (size bytes : Nat) (hi : Tryz.prog.info? 4 = some i0) (hz0 : i0.zero = some z) (hz1 : i0.size = size) (hz2 : i0.bytes = bytes) (hzs : z.cells.size = size) (hsz : 0 < size) (z23 : ∀ w, (Go.sizeOf 4).run Tryz.prog w = .ok size w) (b off n c : Nat) (news : List Value) (w : World) (hl : news.length = n * size) (hn : n ≤ maxLen) (hbig : n * bytes ≤ 140737488355328) (hc : ∀ j u, news[j]? = some u → w.cell? ⟨b, off + j, none⟩ = some u) (h1 : ∀ u ∈ news, u.oneCell' = true) :
    Calls Tryz.prog 28 #[.slice (some ⟨b, off, none⟩) n c] w fun e w' => ∃ v', e = .returned v' ∧ w'.ownsRow w.heap.size 4 size v' n news ∧ v' ≠ .slice none 0 0 ∧ Below w.heap.size w w' := AnyE.slices_Clone Tryz.laysSlE041_f28 i0 z size bytes hi hz0 hz1 hz2 hzs hsz z23 b off n c news w hl hn hbig hc h1
def Tryz.laysSlE041_f38_ren : Go.Shelf.Ren := ⟨fun | 41 => 38 | n => n, fun | 22 => 36 | 23 => 3 | 4 => 4 | n => n, fun | n => n⟩
theorem Tryz.laysSlE041_f38 : Go.Proofs.SlLaysE0.n41 Tryz.prog Tryz.laysSlE041_f38_ren := {
  mixed := by kernel_rfl
  f41 := ⟨Tryz.f38.name, by decide, Tryz.func38.trans (congrArg some (by kernel_rfl))⟩
  t4 := Tryz.underlying4
  a4 := Tryz.isAgg4
  z4 := Tryz.sizeOf4
  v4 := Tryz.zeroValue4
  t22 := Tryz.underlying36
  a22 := Tryz.isAgg36
  z22 := Tryz.sizeOf36
  v22 := Tryz.zeroValue36 }
open Go.RowKit Go.Lib in
/-- slices.Clone: "Clone returns a copy of the slice. The elements are copied using assignment, so this is a shallow clone. The result may have additional unused capacity. The result preserves the nilness of s.": OF A SLICE THAT IS NOT nil IT RETURNS A SLICE THAT IS NOT nil, OF THE SAME CELLS, IN MEMORY OF THE CALL's OWN ('ownsRow': the how-to's 6f); below the heap's size at the call all is as it was. (LAID AT THE INSTANCE 'slices.Clone[[]int,int]': no walk: one application.) -/
theorem Tryz.slices_Clone_f38 (i0 : TypeInfo) (z : Value) (size bytes : Nat) (hi : Tryz.prog.info? 3 = some i0) (hz0 : i0.zero = some z) (hz1 : i0.size = size) (hz2 : i0.bytes = bytes) (hzs : z.cells.size = size) (hsz : 0 < size) (z23 : ∀ w, (Go.sizeOf 3).run Tryz.prog w = .ok size w) (b off n c : Nat) (news : List Value) (w : World) (hl : news.length = n * size) (hn : n ≤ maxLen) (hbig : n * bytes ≤ 140737488355328) (hc : ∀ j u, news[j]? = some u → w.cell? ⟨b, off + j, none⟩ = some u) (h1 : ∀ u ∈ news, u.oneCell' = true) :
    Calls Tryz.prog 38 #[.slice (some ⟨b, off, none⟩) n c] w fun e w' => ∃ v', e = .returned v' ∧ w'.ownsRow w.heap.size 3 size v' n news ∧ v' ≠ .slice none 0 0 ∧ Below w.heap.size w w' := AnyE.slices_Clone Tryz.laysSlE041_f38 i0 z size bytes hi hz0 hz1 hz2 hzs hsz z23 b off n c news w hl hn hbig hc h1
open Go.RowKit Go.Lib in
/-- The same at nil: nil comes back; the world is as it was; nothing is asked of the element's type. (LAID AT THE INSTANCE 'slices.Clone[[]string,string]': no walk: one application.) -/
theorem Tryz.slices_Clone_nil_f27 (n c : Nat) (w : World) :
    Calls Tryz.prog 27 #[.slice none n c] w fun e w' => e = .returned (.slice none 0 0) ∧ w' = w := AnyE.slices_Clone_nil Tryz.laysSlE041_f27 n c w
open Go.RowKit Go.Lib in
/-- The same at nil: nil comes back; the world is as it was; nothing is asked of the element's type. (LAID AT THE INSTANCE 'slices.Clone[[]bool,bool]': no walk: one application.) -/
theorem Tryz.slices_Clone_nil_f28 (n c : Nat) (w : World) :
    Calls Tryz.prog 28 #[.slice none n c] w fun e w' => e = .returned (.slice none 0 0) ∧ w' = w := AnyE.slices_Clone_nil Tryz.laysSlE041_f28 n c w
open Go.RowKit Go.Lib in
/-- The same at nil: nil comes back; the world is as it was; nothing is asked of the element's type. (LAID AT THE INSTANCE 'slices.Clone[[]int,int]': no walk: one application.) -/
theorem Tryz.slices_Clone_nil_f38 (n c : Nat) (w : World) :
    Calls Tryz.prog 38 #[.slice none n c] w fun e w' => e = .returned (.slice none 0 0) ∧ w' = w := AnyE.slices_Clone_nil Tryz.laysSlE041_f38 n c w
end Go.Proofs
