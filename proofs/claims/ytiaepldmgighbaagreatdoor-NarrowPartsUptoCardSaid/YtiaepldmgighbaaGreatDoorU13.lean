import Derived.Laws.Externs
import Derived.Lib.UnsafeStr
import Derived.Lib.AppendStr
import Derived.Lib.Builder
import Derived.Lib.OthersKept
import Derived.Lib.OwnKind
import Derived.Lib.RuneBytes
import Derived.Test.YtiaepldmgighbaaGreatDoorU12
import Derived.Test.YtiaepldmgighbaaGreatDoorU11
namespace Go.Proofs.YtiaepldmgighbaaGreatDoor
open Go.RowKit
set_option linter.unusedSimpArgs false
abbrev ByT : TypeId:=5
abbrev BuT : TypeId:=237
theorem infoByte : (Tryz.prog.info? ByT).map (fun i => (i.zero,i.size,i.bytes)) = some (some (.int .u8 0),1,1):=by kernel_rfl
theorem infoB : (Tryz.prog.info? 237).map (·.size) = some 2:=by kernel_rfl
theorem liesBu : liesAt Tryz.prog Tryz.prog.depth BuT (2 / Tryz.prog.cellsOf BuT) 0 BuT 1 = true:=by kernel_rfl
structure Built (b : Nat) (bs : List UInt8) (w w' : World) : Prop where
 at_ : Lib.BuilderAt BuT ByT b b (.pointer (some ⟨b,0,none⟩)) (Lib.byteCells bs) w'
 low : Below b w w'
 others : Lib.OthersKept ByT (some b) w w'
abbrev IsB (b : Nat) (bs : List UInt8) (w : World) : Prop:=Lib.IsBuilder BuT ByT b b (Lib.byteCells bs) w
theorem Built.is {b : Nat} {bs : List UInt8} {w w' : World} (h : Built b bs w w') : IsB b bs w' := .inr h.at_
theorem IsB.lt {b : Nat} {bs : List UInt8} {w : World} (h : IsB b bs w) : b < w.heap.size:=by
 rcases h with h | h
 ·exact h.lt
 ·exact h.lt
theorem BuilderAt.kept {b : Nat} {p : Value} {bs : List Value} {w w' : World} (h : Lib.BuilderAt BuT ByT b b p bs w) (hk : ∀ (x : Nat) (cs : Array Value) (t : TypeId) (fz : Nat × Nat),w.heap[x]? = some (.cells cs t fz) → w'.heap[x]? = some (.cells cs t fz)) : Lib.BuilderAt BuT ByT b b p bs w':=by
 obtain ⟨hB,v,h1,h2,h3⟩:=h
 refine ⟨hB,v,hk _ _ _ _ h1,⟨h2.1,?_⟩,h3⟩
 rcases h2.2 with h5 | ⟨g,cap,cur,hv,hg,hc,r⟩
 ·exact .inl h5
 ·exact .inr ⟨g,cap,cur,hv,hg,hk _ _ _ _ hc,r⟩
theorem IsB.kept {b : Nat} {bs : List UInt8} {w w' : World} (h : IsB b bs w) (hk : ∀ (x : Nat) (cs : Array Value) (t : TypeId) (fz : Nat × Nat),w.heap[x]? = some (.cells cs t fz) → w'.heap[x]? = some (.cells cs t fz)) : IsB b bs w':=by
 rcases h with h | h
 ·exact .inl (BuilderAt.kept h hk)
 ·exact .inr (BuilderAt.kept h hk)
theorem IsB.up {b : Nat} {bs : List UInt8} {w w' : World} (h : IsB b bs w) (k : Up w w')   : IsB b bs w':=IsB.kept h fun _ _ _ _ hx => k.get hx
theorem IsB.new (w : World) : IsB w.heap.size [] (w.alloc (.cells #[.pointer none, .slice none 0 0] BuT)) :=
 .inl ⟨Nat.le_refl _,_,ja9 _ _,⟨rfl, .inl ⟨rfl,rfl⟩⟩,by simp [Value.ownBlock]⟩
set_option maxRecDepth 100000
set_option maxHeartbeats 1000000
theorem jop (b : Nat) (w : World) (h0 : w.cell? ⟨b,0,none⟩ = some (.pointer (some ⟨b,0,none⟩))) :
  Calls Tryz.prog 198 #[.pointer (some ⟨b,0,none⟩)] w fun e w' => e = .returned (.tuple #[]) ∧ w' = w:=by
 obtain ⟨j,hj,_⟩:=Option.map_eq_some_iff.1 infoB
 go_enter Tryz.func198,Tryz.ntmps198
 go_wp2
 rw [Lib.run_neq_ptr_same w _ Tryz.underlying235 hj]
 go_wp2
 go_end0
 exact ⟨rfl,rfl⟩
theorem jmW (b : Nat) (w : World) (h0 : w.cell? ⟨b,0,none⟩ = some (.pointer none)) (hsh : w.shape? b = some (BuT,2)) (hfz : w.frozen? ⟨b,0,none⟩ = false) :
  Calls Tryz.prog 198 #[.pointer (some ⟨b,0,none⟩)] w fun e w' => e = .returned (.tuple #[]) ∧ w' = w.setCell ⟨b,0,none⟩ (.pointer (some ⟨b,0,none⟩)):=by
 obtain ⟨j,hj,hjs⟩:=Option.map_eq_some_iff.1 infoB
 go_enter Tryz.func198,Tryz.ntmps198
 go_wp2
 rw [Lib.run_to_unsafe w ⟨b,0,none⟩ Tryz.underlying235 Tryz.underlying273 hj (by rw [hjs];decide) hsh (by simp)]
 simp only [Result.andThen]
 rw [Oper.upon_value]
 go_wp2
 rw [run_callFunc_extern Tryz.func211 (by kernel_rfl) (by kernel_rfl) (by kernel_rfl) (e:=Extern.AbiNoEscape.same) (by kernel_rfl)]
 rw [Lib.run_noEscape]
 simp only [Result.andThen]
 rw [Oper.upon_value]
 go_wp2
 rw [Lib.run_from_unsafe w ⟨b,0,none⟩ Tryz.underlying273 Tryz.underlying235 hj hsh liesBu]
 simp only [Result.andThen]
 rw [Oper.upon_value]
 go_wp2
 go_end0
 exact ⟨rfl,rfl⟩
theorem jlO (b : Nat) (bs : List UInt8) (w : World) (h : IsB b bs w) :
  Calls Tryz.prog 198 #[.pointer (some ⟨b,0,none⟩)] w fun e w' => e = .returned (.tuple #[]) ∧ Built b bs w w':=by
 rcases h with h | h
 ·refine (jmW b w h.cell0 h.shape h.frozen0).mono ?_
  rintro e w' ⟨rfl,rfl⟩
  exact ⟨rfl,h.used _,(Below.refl b w).setCell (p:=⟨b,0,none⟩) h.1 _,(Lib.OthersKept.refl _ _ w).setCell ⟨b,0,none⟩ rfl _⟩
 ·refine (jop b w h.cell0).mono ?_
  rintro e w' ⟨rfl,rfl⟩
  exact ⟨rfl,h,Below.refl b _,Lib.OthersKept.refl _ _ _⟩
theorem neBu : BuT ≠ ByT:=by decide
set_option maxHeartbeats 2000000
theorem jir (b : Nat) (bs : List UInt8) (c : UInt8) (w : World) (h : IsB b bs w) (hlen : bs.length + 1 ≤ 140737488355328) :
  Calls Tryz.prog 178 #[.pointer (some ⟨b,0,none⟩), .int .u8 c.toNat] w fun e w' => e = .returned .nilIface ∧ Built b (bs ++ [c]) w w':=by
 obtain ⟨i0,hi,hz0,hz1,hz2⟩:=info_parts infoByte
 have hh:=Lib.hid h
 have hL:=Lib.hid hlen
 have hbw:=Nat.le_of_lt h.lt
 clear h hlen
 go_enter Tryz.func178,Tryz.ntmps178
 go_wp2_with (go_at_call 198;refine (jlO b bs _ hh.out).mono ?_)
 rintro e w1 ⟨rfl,h1,hb1,hk1⟩
 obtain ⟨hB,v,hbk,hown,hne⟩:=h1
 have c0:=ja1 hbk 0
 have c1:=ja1 hbk 1
 simp only [gQa,gQz,gQs] at c0 c1
 rw [Lib.byteCells_length] at hown
 have HX:=Lib.hid (And.intro hb1 (And.intro hbk (And.intro hown (And.intro hne hk1))))
 clear hb1 hbk hown hne hk1
 go_wp2_with (at_builtin;refine wpList_append_own _ rfl _ _ 193 rfl b ByT i0 (.int .u8 0) 1 1 Tryz.underlying193 hi hz0 hz1 hz2 rfl (by decide) _ _ _ rfl (HX.out.2.2.1.alloc _) ⟨w1.heap.size,0,none⟩ 1 1 [.int .u8 c.toNat] rfl rfl ?c1 ?c2 ?c3 ?c4 ?c5 ?_)
 case c1 =>
  intro j u hj
  match j,hj with
  | 0,hj => simp at hj;subst hj;simp [Addr.add]
 case c2 => intro u hu;simp at hu;subst hu;rfl
 case c3 => have:=hL.out;unfold maxLen;omega
 case c4 => have:=hL.out;omega
 case c5 => have:=HX.out.1.size;simp;omega
 intro v' w2 hown' hgrow _
 obtain ⟨hb1,hbk,hown,hne,hk1⟩:=HX.out
 have hlt:=ja0 hbk
 have hb2 : w2.heap[b]? = some (.cells #[.pointer (some ⟨b,0,none⟩),v] BuT (0,0)):=by
  rw [hgrow.block b (by simp;omega) (fun e => hne e.symm)]
  exact jah hbk
 obtain ⟨ao,cap,rfl⟩:=jcO hown'
 have d0:=ja1 hb2 0
 have d1:=ja1 hb2 1
 have f1:=jab hb2 1
 simp only [gQa,gQz,gQs] at d0 d1
 have HY:=Lib.hid (And.intro hown' (And.intro hgrow hb2))
 clear hown' hgrow hb2 hb1 hbk hown hne hk1
 go_wp2
 go_ret
 obtain ⟨hb1,hbk,hown,hne,hk1⟩:=HX.out
 obtain ⟨hown',hgrow,hb2⟩:=HY.out
 refine ⟨rfl,?_,?_,?_⟩
 ·exact Lib.BuilderAt.put (T:=BuT) (e:=ByT) hB hb2 (bs':=Lib.byteCells (bs ++ [c])) (by simpa [Lib.byteCells] using hown') neBu
 ·exact ((hb1.alloc (by have:=hb1.size;omega) _).grown hgrow (by have:=hb1.size;simp;omega) (fun k hk => (hown.lt k hk).1)).setCell (p:=⟨b,1,none⟩) hB _
 ·exact ((hk1.alloc _).grown hgrow (Lib.ownsRow_kind (hown.alloc _))).setCell ⟨b,1,none⟩ rfl _
theorem jbp (b : Nat) (bs : List UInt8) (s : ByteArray) (w : World) (h : IsB b bs w) (hlen : bs.length + s.size ≤ 140737488355328) :
  Calls Tryz.prog 181 #[.pointer (some ⟨b,0,none⟩), .string s] w fun e w' => e = .returned (.tuple #[.int .i64 s.size, .nilIface]) ∧ Built b (bs ++ s.data.toList) w w':=by
 obtain ⟨i0,hi,hz0,hz1,hz2⟩:=info_parts infoByte
 have hh:=Lib.hid h
 have hL:=Lib.hid hlen
 have hbw:=Nat.le_of_lt h.lt
 clear h hlen
 go_enter Tryz.func181,Tryz.ntmps181
 go_wp2_with (go_at_call 198;refine (jlO b bs _ hh.out).mono ?_)
 rintro e w1 ⟨rfl,h1,hb1,hk1⟩
 obtain ⟨hB,v,hbk,hown,hne⟩:=h1
 have c0:=ja1 hbk 0
 have c1:=ja1 hbk 1
 simp only [gQa,gQz,gQs] at c0 c1
 rw [Lib.byteCells_length] at hown
 have HX:=Lib.hid (And.intro hb1 (And.intro hbk (And.intro hown (And.intro hne hk1))))
 clear hb1 hbk hown hne hk1
 go_wp2_with (at_builtin;refine Lib.wpList_append_own_string _ rfl _ _ 193 9 rfl b ByT i0 Tryz.underlying193 Tryz.underlying9 hi hz0 hz1 hz2 _ _ _ rfl HX.out.2.2.1 s rfl ?c3 ?c4 ?c5 ?_)
 case c3 => have:=hL.out;unfold maxLen;omega
 case c4 => have:=hL.out;omega
 case c5 => have:=HX.out.1.size;omega
 intro v' w2 hown' hgrow _
 obtain ⟨hb1,hbk,hown,hne,hk1⟩:=HX.out
 have hlt:=ja0 hbk
 have hb2 : w2.heap[b]? = some (.cells #[.pointer (some ⟨b,0,none⟩),v] BuT (0,0)):=by
  rw [hgrow.block b hlt (fun e => hne e.symm)]
  exact hbk
 obtain ⟨ao,cap,rfl⟩:=jcO hown'
 have d0:=ja1 hb2 0
 have d1:=ja1 hb2 1
 have f1:=jab hb2 1
 simp only [gQa,gQz,gQs] at d0 d1
 have HY:=Lib.hid (And.intro hown' (And.intro hgrow hb2))
 clear hown' hgrow hb2 hb1 hbk hown hne hk1
 go_wp2
 go_ret2
 obtain ⟨hb1,hbk,hown,hne,hk1⟩:=HX.out
 obtain ⟨hown',hgrow,hb2⟩:=HY.out
 refine ⟨rfl,?_,?_,?_⟩
 ·exact Lib.BuilderAt.put (T:=BuT) (e:=ByT) hB hb2 (bs':=Lib.byteCells (bs ++ s.data.toList)) (by simpa [Lib.byteCells,Lib.strCells] using hown') neBu
 ·exact (hb1.grown hgrow (by have:=hb1.size;omega) (fun k hk => (hown.lt k hk).1)).setCell (p:=⟨b,1,none⟩) hB _
 ·exact (hk1.grown hgrow (Lib.ownsRow_kind hown)).setCell ⟨b,1,none⟩ rfl _
theorem enc_eq (r : Nat) (h : r ≤ 1114111) : Lib.encodeRune (r : Int) = (Utf8.encode r).data.toList:=by
 unfold Lib.encodeRune Utf8.encode
 by_cases h1 : r ≤ 127
 ·rw [Lib.encodeRuneZ_one (by omega) (by omega)]
  have hv : Utf8.valid (r : Int) = true:=by unfold Utf8.valid;simp;omega
  simp only [hv,if_true,Int.toNat_natCast]
  rw [if_pos (by omega)]
  rfl
 by_cases h2 : r ≤ 2047
 ·rw [Lib.encodeRuneZ_two (by omega) (by omega)]
  have hv : Utf8.valid (r : Int) = true:=by unfold Utf8.valid;simp;omega
  simp only [hv,if_true,Int.toNat_natCast]
  rw [if_neg (by omega),if_pos (by omega)]
  have e1 : ((192 : Int) + (r : Int) / 64).toNat = 0xC0 + r / 64:=by omega
  have e2 : ((128 : Int) + (r : Int) % 64).toNat = 0x80 + r % 64:=by omega
  simp only [List.map_cons,List.map_nil,e1,e2]
 by_cases h3 : r < 55296 ∨ (57343 < r ∧ r ≤ 65535)
 ·rw [Lib.encodeRuneZ_three (by omega)]
  have hv : Utf8.valid (r : Int) = true:=by unfold Utf8.valid;simp;omega
  simp only [hv,if_true,Int.toNat_natCast]
  rw [if_neg (by omega),if_neg (by omega),if_pos (by omega)]
  have e1 : ((224 : Int) + (r : Int) / 4096).toNat = 0xE0 + r / 4096:=by omega
  have e2 : ((128 : Int) + (r : Int) / 64 % 64).toNat = 0x80 + r / 64 % 64:=by omega
  have e3 : ((128 : Int) + (r : Int) % 64).toNat = 0x80 + r % 64:=by omega
  simp only [List.map_cons,List.map_nil,e1,e2,e3]
 by_cases h4 : 65536 ≤ r
 ·rw [Lib.encodeRuneZ_four (by omega) (by omega)]
  have hv : Utf8.valid (r : Int) = true:=by unfold Utf8.valid;simp;omega
  simp only [hv,if_true,Int.toNat_natCast]
  rw [if_neg (by omega),if_neg (by omega),if_neg (by omega)]
  have e1 : ((240 : Int) + (r : Int) / 262144).toNat = 0xF0 + r / 262144:=by omega
  have e4 : ((128 : Int) + (r : Int) / 4096 % 64).toNat = 0x80 + r / 4096 % 64:=by omega
  have e2 : ((128 : Int) + (r : Int) / 64 % 64).toNat = 0x80 + r / 64 % 64:=by omega
  have e3 : ((128 : Int) + (r : Int) % 64).toNat = 0x80 + r % 64:=by omega
  simp only [List.map_cons,List.map_nil,e1,e2,e3,e4]
 ·rw [Lib.encodeRuneZ_bad (by omega)]
  have hv : Utf8.valid (r : Int) = false:=by unfold Utf8.valid;simp;omega
  simp only [hv,Bool.false_eq_true,if_false]
  decide
theorem jiq (b : Nat) (bs : List UInt8) (r : Nat) (hr : r ≤ 1114111) (w : World) (h : IsB b bs w) (hlen : bs.length + 4 ≤ 140737488355328) :
  Calls Tryz.prog 180 #[.pointer (some ⟨b,0,none⟩), .int .i32 r] w fun e w' => (∃ n,e = .returned (.tuple #[.int .i64 n, .nilIface])) ∧ Built b (bs ++ (Utf8.encode r).data.toList) w w':=by
 have hh:=Lib.hid h
 have hL:=Lib.hid hlen
 have hbw:=Nat.le_of_lt h.lt
 have hk4:=Lib.runeCells_le (r : Int)
 have hre : Lib.runeCells (r : Int) = Lib.byteCells (Utf8.encode r).data.toList:=by rw [← Lib.byteCells_encodeRune,enc_eq r hr]
 have hll : (Lib.runeCells (r : Int)).length = (Utf8.encode r).data.toList.length:=by rw [hre,Lib.byteCells_length]
 have HE:=Lib.hid hre
 clear h hlen hre
 go_enter Tryz.func180,Tryz.ntmps180
 go_wp2_with (go_at_call 198;refine (jlO b bs _ hh.out).mono ?_)
 rintro e w1 ⟨rfl,h1,hb1,hk1⟩
 obtain ⟨hB,v,hbk,hown,hne⟩:=h1
 rw [Lib.byteCells_length] at hown
 obtain ⟨ao,cap,rfl⟩:=jcO hown
 have c0:=ja1 hbk 0
 have c1:=ja1 hbk 1
 simp only [gQa,gQz,gQs] at c0 c1
 have HX:=Lib.hid (And.intro hb1 (And.intro hbk (And.intro hown (And.intro hne hk1))))
 clear hb1 hbk hown hne hk1
 go_wp2_with (go_at_call 200;refine (Tryz.utf8_AppendRune_plain b _ bs.length _ r (by omega) (by omega) _ HX.out.2.2.1 hL.out (by have:=HX.out.1.size;omega)).mono ?_)
 rintro e w2 ⟨v',rfl,hown',o,hgrow⟩
 obtain ⟨hb1,hbk,hown,hne,hk1⟩:=HX.out
 have hlt:=ja0 hbk
 have hb2 : w2.heap[b]? = some (.cells #[.pointer (some ⟨b,0,none⟩), .slice ao bs.length cap] BuT (0,0)):=by
  rw [hgrow.block b (by simp;omega) (fun e => hne e.symm)]
  exact jah hbk
 obtain ⟨g,cap',rfl⟩:=jcO hown'
 have d0:=ja1 hb2 0
 have d1:=ja1 hb2 1
 have f1:=jab hb2 1
 simp only [gQa,gQz,gQs] at d0 d1
 have HY:=Lib.hid (And.intro hown' (And.intro hgrow hb2))
 clear hown' hgrow hb2 hb1 hbk hown hne hk1
 have hL2:=hL.out
 have hL3 : (bs.length : Int) ≤ 140737488355328:=by omega
 have hL4 : ((Lib.runeCells (r : Int)).length : Int) ≤ 4:=by omega
 go_wp2
 go_ret2
 obtain ⟨hb1,hbk,hown,hne,hk1⟩:=HX.out
 obtain ⟨hown',hgrow,hb2⟩:=HY.out
 refine ⟨⟨_,rfl⟩,?_,?_,?_⟩
 ·refine Lib.BuilderAt.put (T:=BuT) (e:=ByT) hB hb2 (bs':=Lib.byteCells (bs ++ (Utf8.encode r).data.toList)) ?_ neBu
  have e3 : Lib.byteCells (bs ++ (Utf8.encode r).data.toList) = Lib.byteCells bs ++ Lib.runeCells (r : Int):=by rw [Lib.byteCells_append,HE.out]
  have e4 : (Lib.byteCells bs ++ Lib.runeCells (r : Int)).length = bs.length + (Lib.runeCells (r : Int)).length:=by rw [List.length_append,Lib.byteCells_length]
  have e5 : (Lib.runeCells (r : Int)).length = (Utf8.encode (r : Int)).size:=by rw [hll];simp
  rw [e5] at hown'
  rw [e3,e4,e5]
  exact hown'
 ·exact ((hb1.alloc (by have:=hb1.size;omega) _).grown hgrow (by have:=hb1.size;simp;omega) (fun k hk => (hown.lt k hk).1)).setCell (p:=⟨b,1,none⟩) hB _
 ·exact ((hk1.alloc _).grown hgrow (Lib.ownsRow_kind (hown.alloc _))).setCell ⟨b,1,none⟩ rfl _
end Go.Proofs.YtiaepldmgighbaaGreatDoor
