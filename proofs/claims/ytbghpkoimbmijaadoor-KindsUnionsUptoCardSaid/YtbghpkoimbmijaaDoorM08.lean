import Derived.Lib.ItoaNum
import Derived.Lib.Join
import Derived.Shelf.Strings.Builder1
import Derived.Shelf.Strings.Builder2
import Derived.Shelf.Strings.OnBuilder
import Derived.Shelf.Strings.BuilderF
import Derived.Shelf.Strings.BuilderK
import Derived.Shelf.Strings.BuilderRune
import Derived.Shelf.Utf8.AppendRunePlain
import Derived.Shelf.Strings.Builder2Cap
import Derived.Shelf.Strconv.Itoa0
import Derived.Shelf.Strconv.Itoa1
import Derived.Shelf.LaysM
import Derived.Shelf.Strconv.Itoa2
import Derived.Shelf.Strconv.Itoa3
import Derived.Shelf.Strconv.Itoa4
import Derived.Shelf.Strings.Search1
import Derived.Shelf.Strings.Search2
import Derived.Shelf.Strings.Search3
import Derived.Shelf.Strings.Shaped
import Derived.Shelf.Strings.BuilderCap
import Derived.Shelf.Slices.Turned
import Derived.Ground.Names2Prog
import Derived.Shelf.Slices.Clone
import Derived.Ground.SlgnProg
import Derived.Shelf.SlicesE.Clone
import Derived.Test.YtbghpkoimbmijaaDoorProg
import Derived.Lib.LaidTab
import Derived.Test.YtbghpkoimbmijaaDoorM07
/- YtbghpkoimbmijaaDoorM08: lemmas of the proof, in order: TY, TM, Shelf, TX. -/
/- Types as trees; how they lie in memory. -/
namespace Go.Proofs.YtbghpkoimbmijaaDoor
open Go.RowKit
set_option linter.unusedSimpArgs false

abbrev StrT : TypeId := 9
abbrev BooT : TypeId := 4

inductive Ty where
  | mk (k n : Int) (nm : ByteArray) (ps : List Ty) (ns : List ByteArray) (ms : List Bool)
def Ty.kind : Ty → Int | .mk k _ _ _ _ _ => k
def Ty.num : Ty → Int | .mk _ n _ _ _ _ => n
def Ty.name : Ty → ByteArray | .mk _ _ nm _ _ _ => nm
def Ty.parts : Ty → List Ty | .mk _ _ _ ps _ _ => ps
def Ty.names : Ty → List ByteArray | .mk _ _ _ _ ns _ => ns
def Ty.marks : Ty → List Bool | .mk _ _ _ _ _ ms => ms

def numS (n : Int) : ByteArray := ⟨(Lib.itoa n).toArray⟩
def joinB (sep : ByteArray) (l : List ByteArray) : ByteArray := ⟨(Lib.join (l.map (·.data.toList)) sep.data.toList).toArray⟩
def markS (m : Bool) : ByteArray := if m = true then ⟨#[63]⟩ else ⟨#[]⟩
/-- members of an object -/
def membersL : List (Int × ByteArray) → List ByteArray → List Bool → List ByteArray
  | x :: r, nm :: ns, m :: ms => (nm ++ markS m ++ ⟨#[58, 32]⟩ ++ x.2) :: membersL r ns ms
  | _, _, _ => []
/-- parameters of a function -/
def paramsL : List (Int × ByteArray) → List Bool → List ByteArray
  | x :: r, m :: ms => (if m = true then roundS [15, 16] x.1 x.2 ++ ⟨#[63]⟩ else x.2) :: paramsL r ms
  | _, _ => []
def hashS (nm : ByteArray) (n : Int) : ByteArray := nm ++ ⟨#[35]⟩ ++ numS n

/-- a type's text, of its parts' kinds and texts -/
def textK (k n : Int) (nm : ByteArray) (ts : List (Int × ByteArray)) (ns : List ByteArray) (ms : List Bool) : ByteArray :=
  if k = 11 then numS n
  else if k = 12 then quoteS nm
  else if k = 13 then roundS [15, 16] (ts.headD (0, ⟨#[]⟩)).1 (ts.headD (0, ⟨#[]⟩)).2 ++ ⟨#[91, 93]⟩
  else if k = 14 then ⟨#[123]⟩ ++ joinB ⟨#[59, 32]⟩ (membersL ts ns ms) ++ ⟨#[125]⟩
  else if k = 15 then ⟨#[40]⟩ ++ joinB ⟨#[44, 32]⟩ (paramsL ts.dropLast ms) ++ ⟨#[41, 32, 61, 62, 32]⟩ ++ (ts.getLastD (0, ⟨#[]⟩)).2
  else if k = 16 then joinB ⟨#[32, 124, 32]⟩ (ts.map fun x => partS x.1 x.2)
  else if k = 17 then (if ts = [] then hashS nm n else hashS nm n ++ ⟨#[60]⟩ ++ joinB ⟨#[44, 32]⟩ (ts.map (·.2)) ++ ⟨#[62]⟩)
  else if k = 18 then nm ++ ⟨#[39]⟩ ++ numS n
  else if k = 19 then nm ++ ⟨#[64]⟩ ++ numS n
  else if k = 20 then (ts.headD (0, ⟨#[]⟩)).2 ++ ⟨#[46]⟩ ++ nm
  else if k = 21 then ⟨#[99, 108, 97, 115, 115, 32]⟩ ++ hashS nm n
  else if k = 22 then ⟨#[101, 110, 117, 109, 32]⟩ ++ hashS nm n
  else if k = 23 then ⟨#[110, 97, 109, 101, 115, 112, 97, 99, 101, 32]⟩ ++ hashS nm n
  else wordS k

mutual
def Ty.text : Ty → ByteArray
  | .mk k n nm ps ns ms => textK k n nm (Ty.texts ps) ns ms
def Ty.texts : List Ty → List (Int × ByteArray)
  | [] => []
  | p :: r => (p.kind, p.text) :: Ty.texts r
end
theorem Ty.texts_eq : ∀ ps : List Ty, Ty.texts ps = ps.map fun p => (p.kind, p.text)
  | [] => rfl
  | p :: r => by rw [Ty.texts, Ty.texts_eq r]; rfl
theorem Ty.text_mk (k n : Int) (nm : ByteArray) (ps : List Ty) (ns : List ByteArray) (ms : List Bool) : (Ty.mk k n nm ps ns ms).text = textK k n nm (ps.map fun p => (p.kind, p.text)) ns ms := by rw [Ty.text, Ty.texts_eq]

mutual
def Ty.size : Ty → Nat
  | .mk _ _ _ ps _ _ => (Ty.sizes ps).foldl (fun a x => min (a + x) 1099511627776) 1
def Ty.sizes : List Ty → List Nat
  | [] => []
  | p :: r => p.size :: Ty.sizes r
end
theorem Ty.sizes_eq : ∀ ps : List Ty, Ty.sizes ps = ps.map Ty.size
  | [] => rfl
  | p :: r => by rw [Ty.sizes, Ty.sizes_eq r]; rfl

/-- a slice of values, in blocks of a kind -/
def RowOf (T : TypeId) (N : Nat → Prop) (w : World) (v : Value) (us : List Value) : Prop :=
  ∃ a cap, v = .slice a us.length cap ∧ us.length ≤ cap ∧ us.length ≤ 1000000000 ∧ ∀ (j : Nat) (u : Value), us[j]? = some u → ∃ (g off : Nat) (cs : Array Value) (fz : Nat × Nat), a = some ⟨g, off, none⟩ ∧ N g ∧ w.heap[g]? = some (.cells cs T fz) ∧ cs[off + j]? = some u
theorem RowOf.keep {T : TypeId} {N N' : Nat → Prop} {w w' : World} {v : Value} {us : List Value} (h : RowOf T N w v us) (hk : ∀ g cs fz, N g → w.heap[g]? = some (.cells cs T fz) → N' g ∧ w'.heap[g]? = some (.cells cs T fz)) : RowOf T N' w' v us := by
  obtain ⟨a, cap, h1, h2, h2', h3⟩ := h
  refine ⟨a, cap, h1, h2, h2', fun j u hu => ?_⟩
  obtain ⟨g, off, cs, fz, q1, q2, q3, q4⟩ := h3 j u hu
  obtain ⟨k1, k2⟩ := hk g cs fz q2 q3
  exact ⟨g, off, cs, fz, q1, k1, k2, q4⟩
theorem RowOf.unique {T : TypeId} {N N' : Nat → Prop} {w : World} {v : Value} {us us' : List Value} (h : RowOf T N w v us) (h' : RowOf T N' w v us') : us = us' := by
  obtain ⟨a, cap, h1, _, _, h3⟩ := h
  obtain ⟨a', cap', h1', _, _, h3'⟩ := h'
  rw [h1] at h1'
  injection h1' with e1 e2 _
  apply List.ext_getElem?
  intro j
  rcases Nat.lt_or_ge j us.length with hj | hj
  · obtain ⟨u, hu⟩ : ∃ u, us[j]? = some u := ⟨_, List.getElem?_eq_getElem hj⟩
    obtain ⟨u', hu'⟩ : ∃ u, us'[j]? = some u := ⟨_, List.getElem?_eq_getElem (by omega)⟩
    obtain ⟨g, off, cs, fz, q1, _, q3, q4⟩ := h3 j u hu
    obtain ⟨g', off', cs', fz', r1, _, r3, r4⟩ := h3' j u' hu'
    subst e1
    rw [q1] at r1
    injection r1 with r1
    injection r1 with r1 r2 _
    subst r1 r2
    rw [q3] at r3
    injection r3 with r3
    injection r3 with r3 _ _
    subst r3
    rw [q4] at r4
    rw [hu, hu']
    exact r4
  · rw [List.getElem?_eq_none hj, List.getElem?_eq_none (by omega)]
theorem RowOf.nil (T : TypeId) (N : Nat → Prop) (w : World) : RowOf T N w (.slice none 0 0) [] := ⟨none, 0, rfl, Nat.le_refl _, by simp, fun j u hu => by simp at hu⟩

/-- the cells of a type -/
abbrev tyC (k n : Int) (nm : ByteArray) (pv nv mv : Value) (sz : Nat) (said : ByteArray) : Array Value := #[.int .i64 k, .int .i64 n, .string nm, pv, nv, mv, .int .i64 sz, .string said]

/-- block b reads as a type; the rows of parts that it uses are in N; its text was asked for or not -/
inductive TyAt (N : Nat → Prop) (B : Nat) (w : World) : Nat → Ty → Prop
  | mk {b : Nat} {k n : Int} {nm : ByteArray} {ps : List Ty} {ns : List ByteArray} {ms : List Bool} (said : ByteArray) (pv nv mv : Value) (qs : List Nat) (hB : B ≤ b)
      (h : w.heap[b]? = some (.cells (tyC k n nm pv nv mv (Ty.mk k n nm ps ns ms).size said) TyT (0, 0))) (hs : said = ⟨#[]⟩ ∨ said = (Ty.mk k n nm ps ns ms).text)
      (hp : RowOf TpT N w pv (qs.map ptrV)) (hn : RowOf StrT N w nv (ns.map .string)) (hm : RowOf BooT N w mv (ms.map .bool)) (hl : qs.length = ps.length)
      (hq : ∀ (j q : Nat) (p : Ty), qs[j]? = some q → ps[j]? = some p → TyAt N B w q p) : TyAt N B w b (.mk k n nm ps ns ms)

theorem TyAt.lt {N : Nat → Prop} {B : Nat} {w : World} {b : Nat} {t : Ty} (h : TyAt N B w b t) : b < w.heap.size := by
  cases h with
  | mk _ _ _ _ _ _ h => exact lt_of_heap h
theorem TyAt.ge {N : Nat → Prop} {B : Nat} {w : World} {b : Nat} {t : Ty} (h : TyAt N B w b t) : B ≤ b := by
  cases h with
  | mk _ _ _ _ _ hB => exact hB
theorem ptrs_inj {qs qs' : List Nat} (h : qs.map ptrV = qs'.map ptrV) : qs = qs' := by
  refine List.map_inj_right (f := ptrV) (fun a b e => ?_) |>.1 h
  unfold ptrV at e
  injection e with e
  injection e with e
  injection e with e _ _

theorem TyAt.unique {N N' : Nat → Prop} {B B' : Nat} {w : World} {b : Nat} {t t' : Ty} (h : TyAt N B w b t) (h' : TyAt N' B' w b t') : t = t' := by
  induction h generalizing t' with
  | @mk b k n nm ps ns ms said pv nv mv qs hB hh hs hp hn hm hl hq ih =>
    cases h' with
    | @mk _ k' n' nm' ps' ns' ms' said' pv' nv' mv' qs' hB' hh' hs' hp' hn' hm' hl' hq' =>
      rw [hh] at hh'
      injection hh' with e
      injection e with e _ _
      have e := congrArg Array.toList e
      simp only [List.cons.injEq, and_true, Value.int.injEq, Value.string.injEq, true_and] at e
      obtain ⟨e1, e2, e3, e4, e5, e6, _, _⟩ := e
      subst e1 e2 e3 e4 e5 e6
      have q1 := ptrs_inj (hp.unique hp')
      have q2 := hn.unique hn'
      have q3 := hm.unique hm'
      subst q1
      have q2 := (List.map_inj_right (f := Value.string) (fun a b e => by injection e)).1 q2
      have q3 := (List.map_inj_right (f := Value.bool) (fun a b e => by injection e)).1 q3
      subst q2 q3
      congr 1
      apply List.ext_getElem?
      intro j
      rcases Nat.lt_or_ge j ps.length with hj | hj
      · obtain ⟨p, hp1⟩ : ∃ p, ps[j]? = some p := ⟨_, List.getElem?_eq_getElem hj⟩
        obtain ⟨p', hp2⟩ : ∃ p, ps'[j]? = some p := ⟨_, List.getElem?_eq_getElem (by omega)⟩
        obtain ⟨q, hq1⟩ : ∃ q, qs[j]? = some q := ⟨_, List.getElem?_eq_getElem (by omega)⟩
        rw [hp1, hp2, ih j q p hq1 hp1 (hq' j q p' hq1 hp2)]
      · rw [List.getElem?_eq_none hj, List.getElem?_eq_none (by omega)]

end Go.Proofs.YtbghpkoimbmijaaDoor

/- Worlds in which only texts of types were filled in, beside new blocks and rows of one's own. -/
namespace Go.Proofs.YtbghpkoimbmijaaDoor
open Go.RowKit
set_option linter.unusedSimpArgs false

theorem TyAt.keep {N : Nat → Prop} {B : Nat} {w w' : World} (hrow : ∀ (g : Nat) (cs : Array Value) (T : TypeId) (f : Nat × Nat), T ≠ TyT → N g → w.heap[g]? = some (.cells cs T f) → w'.heap[g]? = some (.cells cs T f))
    (htyp : ∀ (b : Nat) (t : Ty) (k n : Int) (nm : ByteArray) (pv nv mv : Value) (sz : Nat) (said : ByteArray), TyAt N B w b t → w.heap[b]? = some (.cells (tyC k n nm pv nv mv sz said) TyT (0, 0)) → ∃ said', w'.heap[b]? = some (.cells (tyC k n nm pv nv mv sz said') TyT (0, 0)) ∧ (said' = said ∨ said' = t.text))
    {b : Nat} {t : Ty} (h : TyAt N B w b t) : TyAt N B w' b t := by
  induction h with
  | @mk b k n nm ps ns ms said pv nv mv qs hB hh hs hp hn hm hl hq ih =>
    obtain ⟨said', h1, h2⟩ := htyp b _ k n nm pv nv mv _ said (TyAt.mk said pv nv mv qs hB hh hs hp hn hm hl hq) hh
    refine TyAt.mk said' pv nv mv qs hB h1 ?_ (hp.keep fun g cs fz q1 q2 => ⟨q1, hrow g cs _ fz (by decide) q1 q2⟩) (hn.keep fun g cs fz q1 q2 => ⟨q1, hrow g cs _ fz (by decide) q1 q2⟩) (hm.keep fun g cs fz q1 q2 => ⟨q1, hrow g cs _ fz (by decide) q1 q2⟩) hl ih
    rcases h2 with rfl | rfl
    · exact hs
    · exact .inr rfl

theorem TyAt.weaken {N N' : Nat → Prop} {B : Nat} {w : World} {b : Nat} {t : Ty} (h : TyAt N B w b t) (hN : ∀ g, N g → g < w.heap.size → N' g) : TyAt N' B w b t := by
  induction h with
  | mk said pv nv mv qs hB hh hs hp hn hm hl hq ih => exact TyAt.mk said pv nv mv qs hB hh hs (hp.keep fun g cs fz q1 q2 => ⟨hN g q1 (lt_of_heap q2), q2⟩) (hn.keep fun g cs fz q1 q2 => ⟨hN g q1 (lt_of_heap q2), q2⟩) (hm.keep fun g cs fz q1 q2 => ⟨hN g q1 (lt_of_heap q2), q2⟩) hl ih
theorem TyAt.there {N : Nat → Prop} {B : Nat} {w : World} {b : Nat} {t : Ty} (h : TyAt N B w b t) : TyAt (fun g => N g ∧ g < w.heap.size) B w b t := h.weaken fun _ h1 h2 => ⟨h1, h2⟩

structure Memo (S : Nat → Prop) (B : Nat) (w w' : World) : Prop where
  os : w'.os = w.os
  tape : w'.tape = w.tape
  output : w'.output = w.output
  size : w.heap.size ≤ w'.heap.size
  obj : ∀ (b : Nat) (o : Obj), w.heap[b]? = some o → (∀ (cs : Array Value) (f : Nat × Nat), o ≠ .cells cs TyT f) → ¬ S b → w'.heap[b]? = some o
  low : ∀ b, b < B → b < w.heap.size → w'.heap[b]? = w.heap[b]?
  ty : ∀ (N : Nat → Prop) (b : Nat) (t : Ty), (∀ x, N x → ¬ S x) → TyAt N B w b t → TyAt N B w' b t
  fld : ∀ (b : Nat) (cs : Array Value) (f : Nat × Nat), w.heap[b]? = some (.cells cs TyT f) → ∃ cs', w'.heap[b]? = some (.cells cs' TyT f) ∧ ∀ i, i ≠ 7 → cs'[i]? = cs[i]?
abbrev none1 : Nat → Prop := fun _ => False

theorem Memo.refl (S : Nat → Prop) (B : Nat) (w : World) : Memo S B w w := ⟨rfl, rfl, rfl, Nat.le_refl _, fun _ _ h _ _ => h, fun _ _ _ => rfl, fun _ _ _ _ h => h, fun _ cs _ h => ⟨cs, h, fun _ _ => rfl⟩⟩
theorem Memo.trans {S : Nat → Prop} {B : Nat} {a b c : World} (h : Memo S B a b) (k : Memo S B b c) : Memo S B a c where
  os := k.os.trans h.os
  tape := k.tape.trans h.tape
  output := k.output.trans h.output
  size := Nat.le_trans h.size k.size
  obj x o h1 h2 h3 := k.obj x o (h.obj x o h1 h2 h3) h2 h3
  low x h1 h2 := (k.low x h1 (Nat.lt_of_lt_of_le h2 h.size)).trans (h.low x h1 h2)
  ty N x t h1 h2 := k.ty N x t h1 (h.ty N x t h1 h2)
  fld x cs f h1 := let ⟨cs1, q1, q2⟩ := h.fld x cs f h1; let ⟨cs2, r1, r2⟩ := k.fld x cs1 f q1; ⟨cs2, r1, fun i hi => (r2 i hi).trans (q2 i hi)⟩
theorem Memo.of_up (S : Nat → Prop) (B : Nat) {w w' : World} (h : Up w w') : Memo S B w w' where
  os := h.os
  tape := h.tape
  output := h.output
  size := h.size
  obj _ _ h1 _ _ := h.get h1
  low b _ h2 := h.block b h2
  ty _ _ _ _ ht := ht.keep (fun _ _ _ _ _ _ q => h.get q) (fun _ _ _ _ _ _ _ _ _ said _ q => ⟨said, h.get q, .inl rfl⟩)
  fld _ cs _ q := ⟨cs, h.get q, fun _ _ => rfl⟩
theorem Memo.up {S : Nat → Prop} {B : Nat} {a b c : World} (h : Memo S B a b) (k : Up b c) : Memo S B a c := h.trans (.of_up S B k)
theorem Memo.mono {S T : Nat → Prop} {B : Nat} {w w' : World} (h : Memo S B w w') (hs : ∀ x, S x → T x) : Memo T B w w' :=
  { h with obj := fun b o h1 h2 h3 => h.obj b o h1 h2 (fun q => h3 (hs _ q)), ty := fun N b t h1 h2 => h.ty N b t (fun x hx q => h1 x hx (hs _ q)) h2 }
/-- what was written was not there -/
theorem Memo.fresh {S : Nat → Prop} {B : Nat} {w w' : World} (h : Memo S B w w') (hs : ∀ x, S x → w.heap.size ≤ x) : Memo none1 B w w' :=
  { h with
    obj := fun b o h1 h2 _ => h.obj b o h1 h2 (fun q => by have := hs b q; have := lt_of_heap h1; omega)
    ty := fun N b t _ h2 => (h.ty _ b t (fun x hx q => by have := hs x q; have := hx.2; omega) h2.there).weaken fun _ q _ => q.1 }

theorem cells_ne {w : World} {a b : Nat} {cs cs' : Array Value} {T T' : TypeId} {f f' : Nat × Nat} (h : w.heap[a]? = some (.cells cs T f)) (h' : w.heap[b]? = some (.cells cs' T' f')) (hT : T ≠ T') : a ≠ b := fun e => by
  subst e
  rw [h] at h'
  injection h' with h'
  injection h' with _ h' _
  exact hT h'

/-- a row of one's own is written -/
theorem Memo.row {S : Nat → Prop} {B : Nat} {w : World} {g i : Nat} {cs : Array Value} {f : Nat × Nat} (h : w.heap[g]? = some (.cells cs TpT f)) (hs : S g) (hB : B ≤ g) (v : Value) : Memo S B w (w.setCell ⟨g, i, none⟩ v) where
  os := rfl
  tape := rfl
  output := rfl
  size := by rw [setCell_size]; exact Nat.le_refl _
  obj b o h1 _ h3 := by rw [setCell_other (fun e => h3 (by rw [e]; exact hs))]; exact h1
  low b h1 _ := setCell_other (by omega) _
  ty N b t hN ht := ht.keep (fun g' cs' T f' _ hn q => by
      rw [setCell_other (fun e => hN g' hn (by rw [e]; exact hs))]
      exact q) (fun b' t' k n nm pv nv mv sz said _ q => ⟨said, by rw [setCell_other (cells_ne q h (by decide))]; exact q, .inl rfl⟩)
  fld x cs' f' q := ⟨cs', by rw [setCell_other (cells_ne q h (by decide))]; exact q, fun _ _ => rfl⟩

/-- a text is filled in -/
theorem Memo.said {S N : Nat → Prop} {B : Nat} {w : World} {b : Nat} {t : Ty} (h : TyAt N B w b t) : Memo S B w (w.setCell ⟨b, 7, none⟩ (.string t.text)) := by
  have hge := h.ge
  have h0 := h
  cases h with
  | @mk _ k n nm ps ns ms said pv nv mv qs hB hh hs hp hn hm hl hq =>
    have hset : (w.setCell ⟨b, 7, none⟩ (.string (Ty.mk k n nm ps ns ms).text)).heap[b]? = some (.cells (tyC k n nm pv nv mv (Ty.mk k n nm ps ns ms).size (Ty.mk k n nm ps ns ms).text) TyT (0, 0)) := setCell_block (i := 7) hh _
    exact {
      os := rfl
      tape := rfl
      output := rfl
      size := by rw [setCell_size]; exact Nat.le_refl _
      obj := fun x o h1 h2 _ => by
        rw [setCell_other (fun e => ?_)]
        · exact h1
        · subst e
          rw [hh] at h1
          injection h1 with h1
          exact h2 _ _ h1.symm
      low := fun x h1 _ => setCell_other (by omega) _
      ty := fun N' x t' hN ht => ht.keep (fun g cs T f hT _ q => by rw [setCell_other (cells_ne q hh hT)]; exact q) (fun x' t'' k' n' nm' pv' nv' mv' sz' said' ht' q => by
        by_cases e : x' = b
        · subst e
          have e2 := ht'.unique h0
          subst e2
          rw [hh] at q
          injection q with q
          injection q with q _ _
          have q := congrArg Array.toList q
          simp only [List.cons.injEq, and_true, Value.int.injEq, Value.string.injEq, true_and] at q
          obtain ⟨e1, e2, e3, e4, e5, e6, e7, _⟩ := q
          subst e1 e2 e3 e4 e5 e6
          have e7 : (Ty.mk k n nm ps ns ms).size = sz' := by omega
          subst e7
          exact ⟨_, hset, .inr rfl⟩
        · exact ⟨said', by rw [setCell_other e]; exact q, .inl rfl⟩)
      fld := fun x cs f q => by
        by_cases e : x = b
        · subst e
          refine ⟨_, setCell_block (i := 7) q _, fun i hi => ?_⟩
          rw [Array.getElem?_setIfInBounds_ne (by omega)]
        · exact ⟨cs, by rw [setCell_other e]; exact q, fun _ _ => rfl⟩ }

/-- a row of one's own grew -/
theorem Memo.grown {S : Nat → Prop} {B : Nat} {w w' : World} {row : Option Nat} (hg : w.grownBy w' row) (hr : ∀ r, row = some r → S r ∧ B ≤ r ∧ ∃ (cs : Array Value) (T : TypeId) (f : Nat × Nat), w.heap[r]? = some (.cells cs T f) ∧ T ≠ TyT) : Memo S B w w' where
  os := hg.os
  tape := hg.tape
  output := hg.output
  size := hg.size
  obj b o h1 _ h3 := grown_get hg h1 (fun e => h3 (hr b e).1)
  low b h1 h2 := hg.block b h2 (fun e => by have := (hr b e.symm).2.1; omega)
  ty N b t hN ht := ht.keep (fun g' cs' T f' _ hn q => grown_get hg q (fun e => hN g' hn (hr g' e).1)) (fun b' t' k n nm pv nv mv sz said _ q => ⟨said, grown_get hg q (fun e => by
    obtain ⟨_, _, cs, T, f, h1, h2⟩ := hr b' e
    exact cells_ne q h1 (fun e2 => h2 e2.symm) rfl), .inl rfl⟩)
  fld x cs' f' q := ⟨cs', grown_get hg q (fun e => by
    obtain ⟨_, _, cs, T, f, h1, h2⟩ := hr x e
    exact cells_ne q h1 (fun e2 => h2 e2.symm) rfl), fun _ _ => rfl⟩

theorem Memo.cell {S : Nat → Prop} {B : Nat} {w w' : World} (h : Memo S B w w') {b : Nat} {cs : Array Value} {f : Nat × Nat} (hb : w.heap[b]? = some (.cells cs TyT f)) {i : Nat} (hi : i ≠ 7) : w'.cell? ⟨b, i, none⟩ = w.cell? ⟨b, i, none⟩ := by
  obtain ⟨cs', h1, h2⟩ := h.fld b cs f hb
  rw [cell_of h1, cell_of hb, h2 i hi]
theorem Memo.lt {S : Nat → Prop} {B : Nat} {w w' : World} (h : Memo S B w w') {b : Nat} (hb : b < w.heap.size) : b < w'.heap.size := Nat.lt_of_lt_of_le hb h.size
/-- a row of something else than types -/
theorem Memo.cells {S : Nat → Prop} {B : Nat} {w w' : World} (h : Memo S B w w') {g : Nat} {cs : Array Value} {T : TypeId} {f : Nat × Nat} (hg : w.heap[g]? = some (.cells cs T f)) (hT : T ≠ TyT) (hs : ¬ S g) : w'.heap[g]? = some (.cells cs T f) :=
  h.obj g _ hg (fun cs' f' e => by injection e with _ e _; exact hT e) hs

end Go.Proofs.YtbghpkoimbmijaaDoor

/- Contracts of the library at this dump, in plain words (printed by the kit's lay-shelf.mjs, lay-plain.mjs; those that are used). -/
namespace Go.Proofs
open Go.Shelf
def Tryd.lays156_ren : Go.Shelf.Ren := ⟨fun | 156 => 47 | 165 => 66 | 166 => 63 | 169 => 65 | 240 => 73 | 241 => 76 | 276 => 83 | 277 => 85 | n => n, fun | 31 => 23 | 9 => 9 | 3 => 3 | 4 => 4 | 0 => 0 | 20 => 20 | 72 => 98 | 76 => 105 | 70 => 96 | 37 => 92 | 75 => 100 | 127 => 120 | 164 => 127 | 5 => 5 | 80 => 57 | n => n, fun | n => n⟩
theorem Tryd.lays156 : Go.Proofs.Lays.n156 Tryd.prog Tryd.lays156_ren := {
  mixed := by kernel_rfl
  f156 := Tryd.func47.trans (congrArg some (by kernel_rfl))
  f165 := Tryd.func66.trans (congrArg some (by kernel_rfl))
  f166 := Tryd.func63.trans (congrArg some (by kernel_rfl))
  f169 := Tryd.func65.trans (congrArg some (by kernel_rfl))
  f240 := Tryd.func73.trans (congrArg some (by kernel_rfl))
  f241 := Tryd.func76.trans (congrArg some (by kernel_rfl))
  f276 := Tryd.func83.trans (congrArg some (by kernel_rfl))
  f277 := Tryd.func85.trans (congrArg some (by kernel_rfl))
  t0 := Tryd.underlying0
  a0 := Tryd.isAgg0
  z0 := Tryd.sizeOf0
  v0 := Tryd.zeroValue0
  t3 := Tryd.underlying3
  a3 := Tryd.isAgg3
  z3 := Tryd.sizeOf3
  v3 := Tryd.zeroValue3
  t4 := Tryd.underlying4
  a4 := Tryd.isAgg4
  z4 := Tryd.sizeOf4
  v4 := Tryd.zeroValue4
  t9 := Tryd.underlying9
  a9 := Tryd.isAgg9
  z9 := Tryd.sizeOf9
  v9 := Tryd.zeroValue9
  t20 := Tryd.underlying20
  a20 := Tryd.isAgg20
  z20 := Tryd.sizeOf20
  v20 := Tryd.zeroValue20
  t31 := Tryd.underlying23
  a31 := Tryd.isAgg23
  z31 := Tryd.sizeOf23
  v31 := Tryd.zeroValue23
  t37 := Tryd.underlying92
  a37 := Tryd.isAgg92
  z37 := Tryd.sizeOf92
  v37 := Tryd.zeroValue92
  t70 := Tryd.underlying96
  a70 := Tryd.isAgg96
  z70 := Tryd.sizeOf96
  v70 := Tryd.zeroValue96
  t72 := Tryd.underlying98
  a72 := Tryd.isAgg98
  z72 := Tryd.sizeOf98
  v72 := Tryd.zeroValue98
  t75 := Tryd.underlying100
  a75 := Tryd.isAgg100
  z75 := Tryd.sizeOf100
  v75 := Tryd.zeroValue100
  t76 := Tryd.underlying105
  a76 := Tryd.isAgg105
  z76 := Tryd.sizeOf105
  v76 := Tryd.zeroValue105
  t127 := Tryd.underlying120
  a127 := Tryd.isAgg120
  z127 := Tryd.sizeOf120
  v127 := Tryd.zeroValue120
  t164 := Tryd.underlying127
  a164 := Tryd.isAgg127
  z164 := Tryd.sizeOf127
  v164 := Tryd.zeroValue127 }
theorem Tryd.Builder_Extra_156 : Builder.Extra Tryd.prog Tryd.lays156_ren := {
  sizeBuilder := by kernel_rfl
  liesBuilder := by kernel_rfl
  t5 := Tryd.underlying5
  a5 := Tryd.isAgg5
  z5 := Tryd.sizeOf5
  v5 := Tryd.zeroValue5
  infoByte := by kernel_rfl
  cellsByte := by kernel_rfl
  sizeByte := by kernel_rfl
  neB5 := by decide }
open Go.RowKit in
/-- No element: the empty string; the world is as it was. (Whatever the slice's address and capacity: a nil slice too.) (LAID: no walk: one application.) -/
theorem Tryd.strings_Join_none (a : Option Addr) (c : Nat) (sep : ByteArray) (w : World) :
    Calls Tryd.prog 47 #[.slice a 0 c, .string sep] w fun e w' => e = .returned (.string ⟨#[]⟩) ∧ w' = w := Any.strings_Join_none Tryd.lays156 Tryd.Builder_Extra_156 a c sep w
open Go.RowKit in
/-- strings.Join: "Join concatenates the elements of its first argument to create a single string. The separator string sep is placed between elements in the resulting string.": HOWEVER MANY ELEMENTS. Below the heap's end the world is as it was. (LAID: no walk: one application.) -/
theorem Tryd.strings_Join (bk o c : Nat) (xs : List ByteArray) (sep : ByteArray) (w : World) (hcells : ∀ (j : Nat) x, xs[j]? = some x → w.cell? ⟨bk, o + j, none⟩ = some (.string x)) (hbk : bk < w.heap.size) (hN : xs.length ≤ 140737488355328) (hcap : xs.length ≤ c) (hlen : (Lib.join (xs.map (·.data.toList)) sep.data.toList).length ≤ 140737488355328) :
    Calls Tryd.prog 47 #[.slice (some ⟨bk, o, none⟩) xs.length c, .string sep] w fun e w' => e = .returned (.string ⟨(Lib.join (xs.map (·.data.toList)) sep.data.toList).toArray⟩) ∧ Below w.heap.size w w' := Any.strings_Join Tryd.lays156 Tryd.Builder_Extra_156 bk o c xs sep w hcells hbk hN hcap hlen
def Tryd.laysM171_ren : Go.Shelf.Ren := ⟨fun | 171 => 44 | 243 => 59 | 246 => 72 | 283 => 79 | 284 => 80 | 285 => 81 | 286 => 82 | 129 => 89 | 317 => 88 | 318 => 90 | 319 => 91 | 320 => 92 | 337 => 97 | 338 => 98 | n => n, fun | 3 => 3 | 9 => 9 | 2 => 2 | 4 => 4 | 171 => 121 | 0 => 0 | 53 => 122 | 37 => 92 | 5 => 5 | 173 => 125 | 212 => 133 | 51 => 129 | 20 => 20 | 213 => 134 | 46 => 113 | 232 => 140 | 233 => 141 | n => n, fun | 17 => 0 | 18 => 2 | 19 => 3 | n => n⟩
theorem Tryd.laysM171 : Go.Proofs.LaysM.n171 Tryd.prog Tryd.laysM171_ren := {
  mixed := by kernel_rfl
  f129 := Tryd.func89.trans (congrArg some (by kernel_rfl))
  f171 := Tryd.func44.trans (congrArg some (by kernel_rfl))
  f243 := Tryd.func59.trans (congrArg some (by kernel_rfl))
  f246 := Tryd.func72.trans (congrArg some (by kernel_rfl))
  f283 := Tryd.func79.trans (congrArg some (by kernel_rfl))
  f284 := Tryd.func80.trans (congrArg some (by kernel_rfl))
  f285 := Tryd.func81.trans (congrArg some (by kernel_rfl))
  f286 := Tryd.func82.trans (congrArg some (by kernel_rfl))
  f317 := Tryd.func88.trans (congrArg some (by kernel_rfl))
  f318 := Tryd.func90.trans (congrArg some (by kernel_rfl))
  f319 := Tryd.func91.trans (congrArg some (by kernel_rfl))
  f320 := Tryd.func92.trans (congrArg some (by kernel_rfl))
  f337 := Tryd.func97.trans (congrArg some (by kernel_rfl))
  f338 := Tryd.func98.trans (congrArg some (by kernel_rfl))
  t0 := Tryd.underlying0
  a0 := Tryd.isAgg0
  z0 := Tryd.sizeOf0
  v0 := Tryd.zeroValue0
  t2 := Tryd.underlying2
  a2 := Tryd.isAgg2
  z2 := Tryd.sizeOf2
  v2 := Tryd.zeroValue2
  t3 := Tryd.underlying3
  a3 := Tryd.isAgg3
  z3 := Tryd.sizeOf3
  v3 := Tryd.zeroValue3
  t4 := Tryd.underlying4
  a4 := Tryd.isAgg4
  z4 := Tryd.sizeOf4
  v4 := Tryd.zeroValue4
  t5 := Tryd.underlying5
  a5 := Tryd.isAgg5
  z5 := Tryd.sizeOf5
  v5 := Tryd.zeroValue5
  t9 := Tryd.underlying9
  a9 := Tryd.isAgg9
  z9 := Tryd.sizeOf9
  v9 := Tryd.zeroValue9
  t20 := Tryd.underlying20
  a20 := Tryd.isAgg20
  z20 := Tryd.sizeOf20
  v20 := Tryd.zeroValue20
  t37 := Tryd.underlying92
  a37 := Tryd.isAgg92
  z37 := Tryd.sizeOf92
  v37 := Tryd.zeroValue92
  t46 := Tryd.underlying113
  a46 := Tryd.isAgg113
  z46 := Tryd.sizeOf113
  v46 := Tryd.zeroValue113
  t51 := Tryd.underlying129
  a51 := Tryd.isAgg129
  z51 := Tryd.sizeOf129
  v51 := Tryd.zeroValue129
  t53 := Tryd.underlying122
  a53 := Tryd.isAgg122
  z53 := Tryd.sizeOf122
  v53 := Tryd.zeroValue122
  t171 := Tryd.underlying121
  a171 := Tryd.isAgg121
  z171 := Tryd.sizeOf121
  v171 := Tryd.zeroValue121
  t173 := Tryd.underlying125
  a173 := Tryd.isAgg125
  z173 := Tryd.sizeOf125
  v173 := Tryd.zeroValue125
  t212 := Tryd.underlying133
  a212 := Tryd.isAgg133
  z212 := Tryd.sizeOf133
  v212 := Tryd.zeroValue133
  t213 := Tryd.underlying134
  a213 := Tryd.isAgg134
  z213 := Tryd.sizeOf134
  t232 := Tryd.underlying140
  a232 := Tryd.isAgg140
  z232 := Tryd.sizeOf140
  v232 := Tryd.zeroValue140
  t233 := Tryd.underlying141
  a233 := Tryd.isAgg141
  z233 := Tryd.sizeOf141
  v233 := Tryd.zeroValue141
  g17 := by kernel_rfl
  g18 := by kernel_rfl
  g19 := by kernel_rfl
  i0 := by kernel_rfl
  i2 := by kernel_rfl
  i3 := by kernel_rfl
  i4 := by kernel_rfl
  i5 := by kernel_rfl
  i9 := by kernel_rfl
  i20 := by kernel_rfl
  i37 := by kernel_rfl
  i46 := by kernel_rfl
  i51 := by kernel_rfl
  i53 := by kernel_rfl
  i171 := by kernel_rfl
  i173 := by kernel_rfl
  i212 := by kernel_rfl
  i232 := by kernel_rfl
  i233 := by kernel_rfl
  m17 := by kernel_rfl
  m18 := by kernel_rfl
  m19 := by kernel_rfl }
open Go.RowKit Go.Sort Go.Lib in
/-- strconv.Itoa: "Itoa is equivalent to FormatInt(int64(i), 10).": i's DECIMAL NUMERAL ('Lib.itoa': a '-' where i is negative, then the digits), FOR EVERY int. The world behind the call: the world before it, new blocks behind the heap (the library's 'var a [24]byte'), draws. (LAID: no walk: one application.) -/
theorem Tryd.strconv_Itoa (n : Int) (h0 : -9223372036854775808 ≤ n) (h1 : n ≤ 9223372036854775807) (w : World) (htab : Lib.TabIs Tryd.prog w "internal/strconv.uint64pow10" .u64 Lib.pow10Tab) :
    Calls Tryd.prog 44 #[.int .i64 n] w fun e w' => e = .returned (.string ⟨(Lib.itoa n).toArray⟩) ∧ ∃ k os, w' = grow (w.drewN k) os := Any.strconv_Itoa Tryd.laysM171 n h0 h1 w htab
def Tryd.lays144_ren : Go.Shelf.Ren := ⟨fun | 144 => 69 | 143 => 77 | 219 => 86 | 217 => 93 | 225 => 94 | 224 => 95 | 267 => 96 | 266 => 99 | 314 => 100 | n => n, fun | 9 => 9 | 4 => 4 | 3 => 3 | 5 => 5 | 46 => 113 | 146 => 138 | 51 => 129 | n => n, fun | 1 => 1 | n => n⟩
theorem Tryd.lays144 : Go.Proofs.Lays.n144 Tryd.prog Tryd.lays144_ren := {
  mixed := by kernel_rfl
  f143 := Tryd.func77.trans (congrArg some (by kernel_rfl))
  f144 := Tryd.func69.trans (congrArg some (by kernel_rfl))
  f217 := Tryd.func93.trans (congrArg some (by kernel_rfl))
  f219 := Tryd.func86.trans (congrArg some (by kernel_rfl))
  f224 := Tryd.func95.trans (congrArg some (by kernel_rfl))
  f225 := Tryd.func94.trans (congrArg some (by kernel_rfl))
  f266 := Tryd.func99.trans (congrArg some (by kernel_rfl))
  f267 := Tryd.func96.trans (congrArg some (by kernel_rfl))
  f314 := Tryd.func100.trans (congrArg some (by kernel_rfl))
  t3 := Tryd.underlying3
  a3 := Tryd.isAgg3
  z3 := Tryd.sizeOf3
  v3 := Tryd.zeroValue3
  t4 := Tryd.underlying4
  a4 := Tryd.isAgg4
  z4 := Tryd.sizeOf4
  v4 := Tryd.zeroValue4
  t5 := Tryd.underlying5
  a5 := Tryd.isAgg5
  z5 := Tryd.sizeOf5
  v5 := Tryd.zeroValue5
  t9 := Tryd.underlying9
  a9 := Tryd.isAgg9
  z9 := Tryd.sizeOf9
  v9 := Tryd.zeroValue9
  t46 := Tryd.underlying113
  a46 := Tryd.isAgg113
  z46 := Tryd.sizeOf113
  v46 := Tryd.zeroValue113
  t51 := Tryd.underlying129
  a51 := Tryd.isAgg129
  z51 := Tryd.sizeOf129
  v51 := Tryd.zeroValue129
  t146 := Tryd.underlying138
  a146 := Tryd.isAgg138
  z146 := Tryd.sizeOf138
  v146 := Tryd.zeroValue138
  g1 := by kernel_rfl }
open Go.RowKit Go.Lib in
/-- strings.Contains: "Contains reports whether substr is within s.": IT RETURNS 'Lib.contains s substr'; the world is as it was. (LAID: no walk: one application.) -/
theorem Tryd.strings_Contains (s sub : ByteArray) (m : Int) (w : World) (hs : s.size < 4294967281) (hm : w.cell? ⟨1, 0, none⟩ = some (.int .i64 m)) :
    Calls Tryd.prog 69 #[.string s, .string sub] w fun e w' => e = .returned (.bool (Lib.contains s.data.toList sub.data.toList)) ∧ w' = w := Any.strings_Contains Tryd.lays144 s sub m w hs hm
def Tryd.laysNm216_ren : Go.Shelf.Ren := ⟨fun | 16 => 22 | n => n, fun | 24 => 23 | 9 => 9 | 4 => 4 | n => n, fun | n => n⟩
theorem Tryd.laysNm216 : Go.Proofs.Lays2.n16 Tryd.prog Tryd.laysNm216_ren := {
  mixed := by kernel_rfl
  f16 := Tryd.func22.trans (congrArg some (by kernel_rfl))
  t4 := Tryd.underlying4
  a4 := Tryd.isAgg4
  z4 := Tryd.sizeOf4
  v4 := Tryd.zeroValue4
  t9 := Tryd.underlying9
  a9 := Tryd.isAgg9
  z9 := Tryd.sizeOf9
  v9 := Tryd.zeroValue9
  t24 := Tryd.underlying23
  a24 := Tryd.isAgg23
  z24 := Tryd.sizeOf23
  v24 := Tryd.zeroValue23
  i9 := by kernel_rfl }
open Go.RowKit Go.Lib in
/-- slices.Clone at []string: "Clone returns a copy of the slice. The elements are copied using assignment, so this is a shallow clone. The result may have additional unused capacity. The result preserves the nilness of s.": OF A SLICE THAT IS NOT nil IT RETURNS A SLICE THAT IS NOT nil, OF THE SAME ELEMENTS, IN MEMORY OF THE CALL's OWN: in the how-to's words (6f): 'w'.ownsRow B e 1 v' n cells': v' begins at the head of a row among the blocks from B on (B: the heap's size at the call), not frozen, whose first cells are the elements · 'Below B w w'': below B all is as it was. The capacity is whatever the run-time gives. 'zs': what the cells behind the slice's address hold; 'zs.take n': its elements. (LAID: no walk: one application.) -/
theorem Tryd.slices_Clone_string (b off n c : Nat) (zs : List ByteArray) (w : World) (hz : n ≤ zs.length) (hbig : n * 16 ≤ 140737488355328) (hc : ∀ j, j < zs.length → w.cell? ⟨b, off + j, none⟩ = some (.string (zs.getD j ByteArray.empty))) :
    Calls Tryd.prog 22 #[.slice (some ⟨b, off, none⟩) n c] w fun e w' => ∃ v', e = .returned v' ∧ w'.ownsRow w.heap.size 9 1 v' n ((zs.take n).map (Value.string)) ∧ v' ≠ .slice none 0 0 ∧ Below w.heap.size w w' := Any.slices_Clone_string Tryd.laysNm216 b off n c zs w hz hbig hc
open Go.RowKit Go.Lib in
/-- The same at nil: nil comes back; the world is as it was. (LAID: no walk: one application.) -/
theorem Tryd.slices_Clone_string_nil (n c : Nat) (w : World) :
    Calls Tryd.prog 22 #[.slice none n c] w fun e w' => e = .returned (.slice none 0 0) ∧ w' = w := Any.slices_Clone_string_nil Tryd.laysNm216 n c w
open Go.RowKit Go.Lib in
/-- The same at a slice of length 0 that is not nil, WHATEVER ITS ADDRESS (no cell is asked for): a slice that is not nil and owns nothing comes back. (LAID: no walk: one application.) -/
theorem Tryd.slices_Clone_string_zero (a : Addr) (c : Nat) (w : World) :
    Calls Tryd.prog 22 #[.slice (some a) 0 c] w fun e w' => ∃ v', e = .returned v' ∧ w'.ownsRow w.heap.size 9 1 v' 0 [] ∧ v' ≠ .slice none 0 0 ∧ Below w.heap.size w w' := Any.slices_Clone_string_zero Tryd.laysNm216 a c w
def Tryd.laysSlE041_f22_ren : Go.Shelf.Ren := ⟨fun | 41 => 22 | n => n, fun | 22 => 23 | 23 => 9 | 4 => 4 | n => n, fun | n => n⟩
theorem Tryd.laysSlE041_f22 : Go.Proofs.SlLaysE0.n41 Tryd.prog Tryd.laysSlE041_f22_ren := {
  mixed := by kernel_rfl
  f41 := ⟨Tryd.f22.name, by decide, Tryd.func22.trans (congrArg some (by kernel_rfl))⟩
  t4 := Tryd.underlying4
  a4 := Tryd.isAgg4
  z4 := Tryd.sizeOf4
  v4 := Tryd.zeroValue4
  t22 := Tryd.underlying23
  a22 := Tryd.isAgg23
  z22 := Tryd.sizeOf23
  v22 := Tryd.zeroValue23 }
open Go.RowKit Go.Lib in
/-- slices.Clone: "Clone returns a copy of the slice. The elements are copied using assignment, so this is a shallow clone. The result may have additional unused capacity. The result preserves the nilness of s.": OF A SLICE THAT IS NOT nil IT RETURNS A SLICE THAT IS NOT nil, OF THE SAME CELLS, IN MEMORY OF THE CALL's OWN ('ownsRow': the how-to's 6f); below the heap's size at the call all is as it was. (LAID AT THE INSTANCE 'slices.Clone[[]string,string]': no walk: one application.) -/
theorem Tryd.slices_Clone_f22 (i0 : TypeInfo) (z : Value) (size bytes : Nat) (hi : Tryd.prog.info? 9 = some i0) (hz0 : i0.zero = some z) (hz1 : i0.size = size) (hz2 : i0.bytes = bytes) (hzs : z.cells.size = size) (hsz : 0 < size) (z23 : ∀ w, (Go.sizeOf 9).run Tryd.prog w = .ok size w) (b off n c : Nat) (news : List Value) (w : World) (hl : news.length = n * size) (hn : n ≤ maxLen) (hbig : n * bytes ≤ 140737488355328) (hc : ∀ j u, news[j]? = some u → w.cell? ⟨b, off + j, none⟩ = some u) (h1 : ∀ u ∈ news, u.oneCell' = true) :
    Calls Tryd.prog 22 #[.slice (some ⟨b, off, none⟩) n c] w fun e w' => ∃ v', e = .returned v' ∧ w'.ownsRow w.heap.size 9 size v' n news ∧ v' ≠ .slice none 0 0 ∧ Below w.heap.size w w' := AnyE.slices_Clone Tryd.laysSlE041_f22 i0 z size bytes hi hz0 hz1 hz2 hzs hsz z23 b off n c news w hl hn hbig hc h1
def Tryd.laysSlE041_f23_ren : Go.Shelf.Ren := ⟨fun | 41 => 23 | n => n, fun | 22 => 24 | 23 => 4 | 4 => 4 | n => n, fun | n => n⟩
theorem Tryd.laysSlE041_f23 : Go.Proofs.SlLaysE0.n41 Tryd.prog Tryd.laysSlE041_f23_ren := {
  mixed := by kernel_rfl
  f41 := ⟨Tryd.f23.name, by decide, Tryd.func23.trans (congrArg some (by kernel_rfl))⟩
  t4 := Tryd.underlying4
  a4 := Tryd.isAgg4
  z4 := Tryd.sizeOf4
  v4 := Tryd.zeroValue4
  t22 := Tryd.underlying24
  a22 := Tryd.isAgg24
  z22 := Tryd.sizeOf24
  v22 := Tryd.zeroValue24 }
open Go.RowKit Go.Lib in
/-- slices.Clone: "Clone returns a copy of the slice. The elements are copied using assignment, so this is a shallow clone. The result may have additional unused capacity. The result preserves the nilness of s.": OF A SLICE THAT IS NOT nil IT RETURNS A SLICE THAT IS NOT nil, OF THE SAME CELLS, IN MEMORY OF THE CALL's OWN ('ownsRow': the how-to's 6f); below the heap's size at the call all is as it was. (LAID AT THE INSTANCE 'slices.Clone[[]bool,bool]': no walk: one application.) -/
theorem Tryd.slices_Clone_f23 (i0 : TypeInfo) (z : Value) (size bytes : Nat) (hi : Tryd.prog.info? 4 = some i0) (hz0 : i0.zero = some z) (hz1 : i0.size = size) (hz2 : i0.bytes = bytes) (hzs : z.cells.size = size) (hsz : 0 < size) (z23 : ∀ w, (Go.sizeOf 4).run Tryd.prog w = .ok size w) (b off n c : Nat) (news : List Value) (w : World) (hl : news.length = n * size) (hn : n ≤ maxLen) (hbig : n * bytes ≤ 140737488355328) (hc : ∀ j u, news[j]? = some u → w.cell? ⟨b, off + j, none⟩ = some u) (h1 : ∀ u ∈ news, u.oneCell' = true) :
    Calls Tryd.prog 23 #[.slice (some ⟨b, off, none⟩) n c] w fun e w' => ∃ v', e = .returned v' ∧ w'.ownsRow w.heap.size 4 size v' n news ∧ v' ≠ .slice none 0 0 ∧ Below w.heap.size w w' := AnyE.slices_Clone Tryd.laysSlE041_f23 i0 z size bytes hi hz0 hz1 hz2 hzs hsz z23 b off n c news w hl hn hbig hc h1
open Go.RowKit Go.Lib in
/-- The same at nil: nil comes back; the world is as it was; nothing is asked of the element's type. (LAID AT THE INSTANCE 'slices.Clone[[]string,string]': no walk: one application.) -/
theorem Tryd.slices_Clone_nil_f22 (n c : Nat) (w : World) :
    Calls Tryd.prog 22 #[.slice none n c] w fun e w' => e = .returned (.slice none 0 0) ∧ w' = w := AnyE.slices_Clone_nil Tryd.laysSlE041_f22 n c w
open Go.RowKit Go.Lib in
/-- The same at nil: nil comes back; the world is as it was; nothing is asked of the element's type. (LAID AT THE INSTANCE 'slices.Clone[[]bool,bool]': no walk: one application.) -/
theorem Tryd.slices_Clone_nil_f23 (n c : Nat) (w : World) :
    Calls Tryd.prog 23 #[.slice none n c] w fun e w' => e = .returned (.slice none 0 0) ∧ w' = w := AnyE.slices_Clone_nil Tryd.laysSlE041_f23 n c w
end Go.Proofs

/- Walks: the text of a type: round, text; kinds without parts. -/
namespace Go.Proofs.YtbghpkoimbmijaaDoor
open Go.RowKit
set_option linter.unusedSimpArgs false

/-- strconv's table, and a cell of math/bits's -/
def Tab (w : World) : Prop := Lib.TabIs Tryd.prog w "internal/strconv.uint64pow10" .u64 Lib.pow10Tab
def Bru (w : World) : Prop := w.cell? ⟨3, 15, none⟩ = some (.int .u8 4)
/-- what is no type and no row of types -/
def Plain (o : Obj) : Prop := ∀ (cs : Array Value) (f : Nat × Nat), o ≠ .cells cs TyT f ∧ o ≠ .cells cs TpT f
/-- the tables, whatever types are made and filled in -/
def Glob (w : World) : Prop := ∀ w' : World, (∀ (b : Nat) (o : Obj), w.heap[b]? = some o → Plain o → w'.heap[b]? = some o) → Tab w' ∧ Bru w'
theorem Glob.now {w : World} (h : Glob w) : Tab w ∧ Bru w := h w fun _ _ q _ => q
theorem Glob.step {w w' : World} (h : Glob w) (k : ∀ (b : Nat) (o : Obj), w.heap[b]? = some o → Plain o → w'.heap[b]? = some o) : Glob w' := fun w2 h2 => h w2 fun b o q p => h2 b o (k b o q p) p
theorem Glob.up {w w' : World} (h : Glob w) (k : Up w w') : Glob w' := h.step fun _ _ q _ => k.get q
theorem Glob.memo {B : Nat} {w w' : World} (h : Glob w) (k : Memo none1 B w w') : Glob w' := h.step fun b o q p => k.obj b o q (fun cs f e => (p cs f).1 e) (fun e => e)
theorem Glob.row {w : World} {g i : Nat} {cs : Array Value} {f : Nat × Nat} (h : Glob w) (hg : w.heap[g]? = some (.cells cs TpT f)) (v : Value) : Glob (w.setCell ⟨g, i, none⟩ v) := h.step fun b o q p => by
  rw [setCell_other (fun e => ?_)]
  · exact q
  · subst e
    rw [hg] at q
    injection q with q
    exact (p cs f).2 q.symm

/-- how many bytes a type's text takes, at most -/
def wideL (l : List Nat) : Nat := (l.map (· + 32)).sum
mutual
def Ty.wide : Ty → Nat
  | .mk _ _ nm ps ns _ => 128 + 6 * nm.size + wideL (ns.map (·.size)) + wideL (Ty.wides ps)
def Ty.wides : List Ty → List Nat
  | [] => []
  | p :: r => p.wide :: Ty.wides r
end
theorem Ty.wides_eq : ∀ ps : List Ty, Ty.wides ps = ps.map Ty.wide
  | [] => rfl
  | p :: r => by rw [Ty.wides, Ty.wides_eq r]; rfl
theorem Ty.wide_mk (k n : Int) (nm : ByteArray) (ps : List Ty) (ns : List ByteArray) (ms : List Bool) : (Ty.mk k n nm ps ns ms).wide = 128 + 6 * nm.size + wideL (ns.map (·.size)) + wideL (ps.map Ty.wide) := by rw [Ty.wide, Ty.wides_eq]

/-- as many parts, names and marks as a kind asks for -/
structure Shape (k : Int) (np nn nm : Nat) : Prop where
  lo : 1 ≤ k
  hi : k ≤ 23
  arr : k = 13 → 1 ≤ np
  obj : k = 14 → nn = np ∧ nm = np
  fn : k = 15 → 1 ≤ np ∧ nm + 1 = np
  case_ : k = 20 → 1 ≤ np
inductive Ty.Ok : Ty → Prop
  | mk {k n : Int} {nm : ByteArray} {ps : List Ty} {ns : List ByteArray} {ms : List Bool} (sh : Shape k ps.length ns.length ms.length) (lo : -9223372036854775808 ≤ n) (hi : n ≤ 9223372036854775807) (hp : ∀ p ∈ ps, Ty.Ok p) : Ty.Ok (.mk k n nm ps ns ms)

/-- the text of a type is told, wherever it lies -/
def TextAny (t : Ty) : Prop := ∀ (N : Nat → Prop) (B b : Nat) (W : World), TyAt N B W b t → Glob W → Calls Tryd.prog 19 #[.pointer (some ⟨b, 0, none⟩)] W fun e W' => e = .returned (.string t.text) ∧ Memo none1 B W W'
def SpellAny (t : Ty) : Prop := ∀ (N : Nat → Prop) (B b : Nat) (W : World), TyAt N B W b t → Glob W → Calls Tryd.prog 31 #[.pointer (some ⟨b, 0, none⟩)] W fun e W' => e = .returned (.string t.text) ∧ Memo none1 B W W'

set_option maxHeartbeats 1600000 in
theorem text_of_spelled {t : Ty} (h : SpellAny t) : TextAny t := by
  intro N B b W ht hg
  have HT := Lib.hid ht
  have HS := Lib.hid (h N B b W ht hg)
  cases ht with
  | @mk _ k n nm ps ns ms said pv nv mv qs hB hh hs hp hn hm hl hq =>
    have HH := Lib.hid hh
    have a7 := cell_of hh 7
    have al := lt_of_heap hh
    simp only [List.getElem?_toArray, List.getElem?_cons_zero, List.getElem?_cons_succ] at a7
    obtain ⟨tx, htx⟩ : ∃ tx, Hid ((Ty.mk k n nm ps ns ms).text = tx) := ⟨_, rfl⟩
    rw [htx.out] at HS hs ⊢
    have HE := Lib.hid hs
    by_cases he : said.toList = []
    · have he2 : (said.toList == []) = true := by simp [he]
      clear hh hs hp hn hm hl hq hg
      go_enter Tryd.func19, Tryd.ntmps19
      go_wp2_with fail
      refine HS.out.mono ?_
      rintro e w2 ⟨rfl, hm2⟩
      obtain ⟨cs', h1, h2⟩ := hm2.fld b _ _ HH.out
      have x7 : ∃ v7, cs'[7]? = some v7 := by
        have q := hm2.ty N b _ (fun _ _ e => e) HT.out
        cases q with
        | mk said' pv' nv' mv' qs' hB' hh' =>
          rw [h1] at hh'
          injection hh' with e
          injection e with e _ _
          exact ⟨_, by rw [e]; rfl⟩
      obtain ⟨v7, hv7⟩ := x7
      have a7 := (cell_of h1 7).trans hv7
      have f7 := ice_of h1 7
      have al := lt_of_heap h1
      have M2 := Lib.hid hm2
      have T2 := Lib.hid (hm2.ty N b _ (fun _ _ e => e) HT.out)
      clear h1 h2 hv7 hm2 he
      go_wp2_with fail
      go_ret
      refine ⟨rfl, M2.out.trans ?_⟩
      have q := Memo.said (S := none1) T2.out
      rw [htx.out] at q
      exact q
    · have he2 : (said.toList == []) = false := by simp [he]
      clear hh hs hp hn hm hl hq hg
      go_enter Tryd.func19, Tryd.ntmps19
      go_wp2_with fail
      go_ret
      refine ⟨?_, Memo.refl _ _ _⟩
      rcases HE.out with q | q
      · subst q
        exact absurd (by rw [ByteArray.toList_eq]) he
      · subst q
        rfl

end Go.Proofs.YtbghpkoimbmijaaDoor
