/- Plain: the library's cut and split at one byte. Strings for the polynomials' texts: what .. -/
import Derived.Test.YtgnlebnpnpjfmaaGreatDoorUPl
import Derived.Lib.SplitLaws
import Derived.Lib.IndexMore
import Derived.Test.YtgnlebnpnpjfmaaGreatDoorUNG
import Derived.Test.YtgnlebnpnpjfmaaGreatDoorUSh
import Derived.Lib.AppendIntMem
import Derived.Shelf.Strconv.AtoiAll
import Derived.Shelf.Strings.Split
set_option linter.all false
namespace Go.Pal
open Go Go.RowKit
theorem index1_no {c : UInt8} : ∀ {s : List UInt8}, (∀ x ∈ s, x ≠ c) → Lib.index s [c] = -1
 | [], _ => rfl
 | b :: l, h => by
   have hb : ([c] : List UInt8).isPrefixOf (b :: l) = false := by
     have := (h b (by simp)).symm
     simp [List.isPrefixOf, this]
   have ih := index1_no (s := l) fun x hx => h x (by simp [hx])
   rw [Lib.index, hb, ih]
   rfl
theorem index1_at {c : UInt8} : ∀ {p : List UInt8} (r : List UInt8), (∀ x ∈ p, x ≠ c) → Lib.index (p ++ c :: r) [c] = (p.length : Int)
 | [], r, _ => by
   rw [List.nil_append, Lib.index, if_pos (by simp [List.isPrefixOf])]
   rfl
 | b :: l, r, h => by
   have hb : ([c] : List UInt8).isPrefixOf (b :: (l ++ c :: r)) = false := by
     have := (h b (by simp)).symm
     simp [List.isPrefixOf, this]
   have ih := index1_at (p := l) r fun x hx => h x (by simp [hx])
   have hne : ¬ ((l.length : Int) == -1) = true := by
     intro e
     have := beq_iff_eq.1 e
     omega
   rw [List.cons_append, Lib.index, hb, ih, if_neg (by simp), if_neg hne, List.length_cons]
   omega
theorem first_of (c : UInt8) : ∀ s : List UInt8, (∀ x ∈ s, x ≠ c) ∨ ∃ p r, s = p ++ c :: r ∧ ∀ x ∈ p, x ≠ c
 | [] => .inl (by simp)
 | b :: l => by
   by_cases hb : b = c
   · exact .inr ⟨[], l, by rw [hb]; rfl, by simp⟩
   · rcases first_of c l with h | ⟨p, r, h1, h2⟩
     · refine .inl fun x hx => ?_
       rcases List.mem_cons.1 hx with rfl | hx
       · exact hb
       · exact h x hx
     · refine .inr ⟨b :: p, r, by rw [h1]; rfl, fun x hx => ?_⟩
       rcases List.mem_cons.1 hx with rfl | hx
       · exact hb
       · exact h2 x hx
theorem cut1_no {c : UInt8} {s : List UInt8} (h : ∀ x ∈ s, x ≠ c) : Lib.cut s [c] = (s, [], false) := by
 unfold Lib.cut
 rw [index1_no h, if_neg (by decide)]
theorem cut1_at {c : UInt8} {p r : List UInt8} (h : ∀ x ∈ p, x ≠ c) : Lib.cut (p ++ c :: r) [c] = (p, r, true) := by
 unfold Lib.cut
 rw [index1_at r h, if_pos (by omega)]
 simp
theorem bytes_list (s : List UInt8) : (⟨s.toArray⟩ : ByteArray).data.toList = s := by simp
theorem split1 (c : UInt8) : ∀ (n : Nat) (s : List UInt8), s.length ≤ n → Lib.splitB ⟨#[c]⟩ 0 (Lib.countB ⟨s.toArray⟩ ⟨#[c]⟩) ⟨s.toArray⟩ = (partsA c [] s).map fun p => (⟨p.toArray⟩ : ByteArray)
 | n, s, hn => by
   have hsz : (⟨s.toArray⟩ : ByteArray).size = s.length := by simp [ByteArray.size]
   rcases first_of c s with h | ⟨p, r, hs, hp⟩
   · have hix : Lib.indexB ⟨s.toArray⟩ ⟨#[c]⟩ = -1 := by
       show Lib.index _ _ = _
       rw [bytes_list]
       exact index1_no h
     rw [Lib.splitB_miss _ _ _ _ hix, partsA_none [] h]
     rfl
   · have hix : Lib.indexB ⟨s.toArray⟩ ⟨#[c]⟩ = (p.length : Int) := by
       show Lib.index _ _ = _
       rw [bytes_list, hs]
       exact index1_at r hp
     have hc := Lib.countB_hit ⟨s.toArray⟩ ⟨#[c]⟩ p.length (Nat.le_refl 1) hix
     have e1 : (⟨s.toArray⟩ : ByteArray).extract (p.length + (⟨#[c]⟩ : ByteArray).size) (⟨s.toArray⟩ : ByteArray).size = ⟨r.toArray⟩ := by
       rw [hsz, show (⟨#[c]⟩ : ByteArray).size = 1 from rfl]
       apply ByteArray.ext
       rw [ByteArray.data_extract, hs]
       simp
       exact List.take_of_length_le (by omega)
     have e2 : (⟨s.toArray⟩ : ByteArray).extract 0 (p.length + 0) = ⟨p.toArray⟩ := by
       apply ByteArray.ext
       rw [ByteArray.data_extract, hs]
       simp
     rw [e1] at hc
     rw [hc, Nat.add_comm 1, Lib.splitB_hit _ _ _ _ _ hix, e1, e2]
     have hl := congrArg List.length hs
     rw [List.length_append, List.length_cons] at hl
     match n, hn with
     | 0, hn => omega
     | n + 1, hn =>
       rw [split1 c n r (by omega), hs, partsA_hit [] r hp, List.nil_append]
       rfl
theorem count1 (c : UInt8) (s : List UInt8) : Lib.countB ⟨s.toArray⟩ ⟨#[c]⟩ + 1 = (partsA c [] s).length := by
 have := Lib.splitB_all ⟨#[c]⟩ (Nat.le_refl 1) 0 _ ⟨s.toArray⟩ rfl
 rw [split1 c s.length s (Nat.le_refl _), List.length_map] at this
 exact this.symm
def strC (l : List UInt8) : Array Value := #[.string ⟨l.toArray⟩]
theorem Rd.at {α : Type} {enc : α → Array Value} {k B : Nat} {w : World} {v : Value} {l : List α} (h : Rd enc k B w v l) {i : Nat} (hi : i < l.length) :
   ∃ b off c x, v = .slice (some ⟨b, off, none⟩) l.length c ∧ b < B ∧ l[i]? = some x ∧ ∀ w', Below B w w' → ∀ j u, (enc x)[j]? = some u → w'.cell? ⟨b, off + i * k + j, none⟩ = some u := by
 obtain ⟨a, c, rfl, hr⟩ := h
 rcases hr with hr | ⟨b, off, rfl, hb, hc⟩
 · rw [hr] at hi; simp at hi
 · exact ⟨b, off, c, _, rfl, hb, List.getElem?_eq_getElem hi, fun w' hw j u hu => (hw.cell (p := ⟨b, off + i * k + j, none⟩) hb).trans (hc i _ (List.getElem?_eq_getElem hi) j u hu)⟩
theorem Rd.sl {α : Type} {enc : α → Array Value} {k B : Nat} {w : World} {v : Value} {l : List α} (h : Rd enc k B w v l) : ∃ a c, v = .slice a l.length c := by
 obtain ⟨a, c, rfl, -⟩ := h
 exact ⟨a, c, rfl⟩
theorem repeatL48 (n : Nat) : Lib.repeatL [48] n = List.replicate n 48 := by
 induction n with
 | zero => rfl
 | succ n ih => rw [Lib.repeatL, ih, List.replicate_succ]; rfl
theorem digs_contains (c : UInt8) : ([48, 49, 50, 51, 52, 53, 54, 55, 56, 57] : List UInt8).contains c = decide (isDig c) := by
 rw [Bool.eq_iff_iff, decide_eq_true_eq]
 unfold isDig
 simp only [List.contains_iff_mem, List.mem_cons, List.not_mem_nil, or_false]
 simp only [← UInt8.toNat_inj]
 simp
 omega
theorem dropWhile_nilI {α : Type} {p : α → Bool} {l : List α} : l.dropWhile p = [] ↔ ∀ x ∈ l, p x = true := by
 induction l with
 | nil => simp
 | cons x l ih =>
   rw [List.dropWhile_cons]
   split
   · rename_i h; rw [ih]; simp [h]
   · rename_i h; simp [h]
theorem trim_nil (s : List UInt8) : Lib.trimS s [48, 49, 50, 51, 52, 53, 54, 55, 56, 57] = [] ↔ ∀ c ∈ s, isDig c := by
 unfold Lib.trimS Lib.trimLeftS Lib.trimRightS
 rw [dropWhile_nilI]
 constructor
 · intro h c hc
   have h2 : ∀ x ∈ (s.reverse.dropWhile fun x => ([48, 49, 50, 51, 52, 53, 54, 55, 56, 57] : List UInt8).contains x), isDig x := fun x hx => by
     have := h x (by simpa using hx)
     rw [digs_contains] at this
     simpa using this
   have h3 : s.reverse.dropWhile (fun x => ([48, 49, 50, 51, 52, 53, 54, 55, 56, 57] : List UInt8).contains x) = [] := by
     cases hd : s.reverse.dropWhile (fun x => ([48, 49, 50, 51, 52, 53, 54, 55, 56, 57] : List UInt8).contains x) with
     | nil => rfl
     | cons y r =>
       exfalso
       have h4 := List.head?_dropWhile_not (fun x => ([48, 49, 50, 51, 52, 53, 54, 55, 56, 57] : List UInt8).contains x) s.reverse
       rw [hd] at h4
       simp only [List.head?_cons] at h4
       have h5 := h2 y (by rw [hd]; simp)
       rw [digs_contains] at h4
       simp [h5] at h4
   rw [dropWhile_nilI] at h3
   have := h3 c (by simpa using hc)
   rw [digs_contains] at this
   simpa using this
 · intro h x hx
   rw [digs_contains, decide_eq_true_eq]
   have : x ∈ s.reverse := (List.dropWhile_sublist _).mem (by simpa using hx)
   exact h x (by simpa using this)
end Go.Pal
namespace Go.Proofs.YtgnlebnpnpjfmaaGreatDoor
open Go Go.RowKit Go.Pal Go.Shelf
attribute [local go_sem] Oper.semAt_some
theorem str_add {w : World} (x y : List UInt8) (h : x.length + y.length ≤ 9223372036854775807) : (Op.stringOp .add ⟨x.toArray⟩ ⟨y.toArray⟩).run Tryz.prog w = .ok (.string ⟨(x ++ y).toArray⟩) w := by
 rw [run_string_add_sum w _ _ (by simpa [ByteArray.size] using h), ByteArray.mk_append_mk]
@[go_sem ↓ high] theorem str_addl {w : World} (x y : List UInt8) (hx : x.length ≤ 8388608) (hy : y.length ≤ 8388608) : (Op.stringOp .add ⟨x.toArray⟩ ⟨y.toArray⟩).run Tryz.prog w = .ok (.string ⟨(x ++ y).toArray⟩) w := str_add x y (by omega)
theorem wpList_strAdd {ops : Array Oper} {rest : List Oper} {o : Oper} {a : Act} {Q : Exit → Act → World → Prop} {w : World} (hg : o.guard = none) (p q : Operand) (t s : TypeId) (ho : o.op = .binOp .add t p q s) (x y : List UInt8) (hp : a.eval p = .string ⟨x.toArray⟩) (hq : a.eval q = .string ⟨y.toArray⟩) (h : x.length + y.length ≤ 9223372036854775807)
   (hK : wpList Tryz.prog ops Q rest (a.put o.dst (.string ⟨(x ++ y).toArray⟩)) w) : wpList Tryz.prog ops Q (o :: rest) a w := by
 refine wpList_plain hg fun K' hK' => ?_
 unfold Oper.wp
 simp [execOp, ho, hp, hq, binOp, eqGuard, str_add x y h, Result.andThen]
 exact hK' _ _ hK
def elStr : ElT Tryz.prog 9 1 strC where
 bytes := 16
 zero := .string ⟨#[]⟩
 info := by kernel_rfl
 zc := rfl
 pos := by decide
 small := by decide
 size _ := rfl
 one x u hu := by simp [strC] at hu; subst hu; rfl
abbrev OwnStr := OwnR 9 1 strC
@[go_sem ↓ high] theorem bs_s1 (l : List UInt8) (w : World) : (Instr.buildSlice 86 1 #[(0, .string ⟨l.toArray⟩)]).run Tryz.prog w = .ok (.slice (some ⟨w.heap.size, 0, none⟩) 1 1) (w.alloc (.cells #[.string ⟨l.toArray⟩] 9)) := by kernel_rfl
def Pow (w : World) : Prop := ∀ W, Below w.heap.size w W → Lib.TabIs Tryz.prog W "internal/strconv.uint64pow10" .u64 Lib.pow10Tab
theorem Pow.on {w w' : World} (h : Pow w) (hb : Below w.heap.size w w') : Pow w' := fun W hW => h W (hb.trans (hW.mono hb.size))
def Errs (w : World) : Prop := ∀ W, Below w.heap.size w W → (∃ ev, W.cell? ⟨Tryz.laysAtoi_ren.g 15, 0, none⟩ = some ev ∧ (ev = .nilIface ∨ ∃ te pe, ev = .iface te pe)) ∧ ∃ ev, W.cell? ⟨Tryz.laysAtoi_ren.g 16, 0, none⟩ = some ev ∧ (ev = .nilIface ∨ ∃ te pe, ev = .iface te pe)
theorem Errs.on {w w' : World} (h : Errs w) (hb : Below w.heap.size w w') : Errs w' := fun W hW => h W (hb.trans (hW.mono hb.size))
def Mxl (w : World) : Prop := ∀ W, Below w.heap.size w W → ∃ m, W.cell? ⟨1, 0, none⟩ = some (.int .i64 m)
theorem Mxl.on {w w' : World} (h : Mxl w) (hb : Below w.heap.size w w') : Mxl w' := fun W hW => h W (hb.trans (hW.mono hb.size))
structure Env (w : World) : Prop where
 pow : Pow w
 errs : Errs w
 mxl : Mxl w
theorem Env.on {w w' : World} (h : Env w) (hb : Below w.heap.size w w') : Env w' := ⟨h.pow.on hb, h.errs.on hb, h.mxl.on hb⟩
theorem itoa_any (n : Nat) (hn : n < 9223372036854775808) (w : World) (ht : Env w) : Calls Tryz.prog 67 #[.int .i64 (n : Int)] w fun e w' => e = .returned (.string ⟨(Lib.decDigits n).toArray⟩) ∧ Below w.heap.size w w' := by
 refine (Any.strconv_Itoa Tryz.laysItoa (n : Int) (by omega) (by omega) w (ht.pow w (Below.refl _ _))).mono ?_
 rintro e w' ⟨rfl, k, os, rfl⟩
 exact ⟨by rw [Lib.itoa_nonneg], Lib.below_grow _ w (Nat.le_refl _) k os⟩
theorem atoi_any (s : List UInt8) (hs : s.length ≤ 8388608) (w : World) (hE : Env w) :
   Calls Tryz.prog 87 #[.string ⟨s.toArray⟩] w fun e w' => Below w.heap.size w w' ∧ ((∃ n, Lib.atoiAll s = .ok n ∧ InI n ∧ e = .returned (.tuple #[.int .i64 n, .nilIface])) ∨ ∃ n t p, (∀ m, Lib.atoiAll s ≠ .ok m) ∧ e = .returned (.tuple #[.int .i64 n, .iface t p])) := by
 have hsz : (⟨s.toArray⟩ : ByteArray).size = s.length := by simp [ByteArray.size]
 have hd : (⟨s.toArray⟩ : ByteArray).data.toList = s := by simp
 obtain ⟨⟨ev, h1, h2⟩, ev2, h3, h4⟩ := hE.errs w (Below.refl _ _)
 cases hc : Lib.atoiAll s
 · rename_i n
   have hb := Lib.atoiAll_bounds hc
   refine (Any.strconv_Atoi_ok Tryz.laysAtoi ⟨s.toArray⟩ (by omega) n (by rw [hd]; exact hc) w).mono ?_
   rintro e w' ⟨rfl, hw⟩
   refine ⟨?_, .inl ⟨n, rfl, hb, rfl⟩⟩
   rcases hw with rfl | ⟨t, rfl⟩
   · exact Below.refl _ _
   · exact Lib.bytesWorld_below _ _ _
 · refine (Any.strconv_Atoi_syntax Tryz.laysAtoi ⟨s.toArray⟩ (by omega) (by rw [hd]; exact hc) ev w h1 h2).mono ?_
   rintro e w' ⟨N, rfl, -, -, hb⟩
   exact ⟨hb, .inr ⟨_, _, _, (fun m h => (by cases h)), rfl⟩⟩
 · refine (Any.strconv_Atoi_range Tryz.laysAtoi ⟨s.toArray⟩ (by omega) (by rw [hd]; exact hc) ev2 w h3 h4).mono ?_
   rintro e w' ⟨N, rfl, -, -, hb⟩
   exact ⟨hb, .inr ⟨_, _, _, (fun m h => (by cases h)), rfl⟩⟩
theorem atoiD_any (s : List UInt8) (hs : numS s = true) (hl : s.length ≤ 9) (w : World) (hE : Env w) :
   Calls Tryz.prog 87 #[.string ⟨s.toArray⟩] w fun e w' => e = .returned (.tuple #[.int .i64 (dval 0 s : Int), .nilIface]) ∧ Below w.heap.size w w' := by
 obtain ⟨h1, h2⟩ := dec_numS hs
 have hlt := dval_lt s (numS_iff.1 hs).2.2
 have hlt2 : dval 0 s < 10 ^ 9 := Nat.lt_of_lt_of_le hlt (Nat.pow_le_pow_right (by decide) hl)
 have h9 : (10 : Nat) ^ 9 = 1000000000 := by decide
 have ha : Lib.atoiAll s = .ok (dval 0 s : Int) := by
   have := atoi_itoa (n := (dval 0 s : Int)) ⟨by omega, by omega⟩
   rwa [Lib.itoa_nonneg, h1] at this
 refine (atoi_any s (by omega) w hE).mono ?_
 rintro e w' ⟨hb, ⟨n, hn, -, rfl⟩ | ⟨n, t, p, hn, -⟩⟩
 · rw [ha] at hn
   injection hn with hn
   subst hn
   exact ⟨rfl, hb⟩
 · exact absurd ha (hn _)
theorem split_any (c : UInt8) (s : List UInt8) (hs : s.length ≤ 8388608) (w : World) (hM : Env w) :
   Calls Tryz.prog 51 #[.string ⟨s.toArray⟩, .string ⟨#[c]⟩] w fun e w' => e = .returned (.slice (some ⟨w.heap.size, 0, none⟩) (partsA c [] s).length (partsA c [] s).length) ∧ row? w' w.heap.size = some (((partsA c [] s).map fun p => Value.string ⟨p.toArray⟩).toArray) ∧ Below w.heap.size w w' ∧ w.heap.size < w'.heap.size := by
 have hsz : (⟨s.toArray⟩ : ByteArray).size = s.length := by simp [ByteArray.size]
 obtain ⟨m, hm⟩ := hM.mxl w (Below.refl _ _)
 refine (Any.strings_Split (ρ := Tryz.laysSplitM_ren) { Tryz.laysSplitM with } Tryz.laysSplitM.i9 ⟨s.toArray⟩ ⟨#[c]⟩ m w (by omega) hm (Nat.le_refl 1)).mono ?_
 rintro e w' ⟨rfl, rfl⟩
 rw [count1, split1 c _ s (Nat.le_refl _), List.map_map]
 exact ⟨rfl, row?_alloc_at _ _ _ _ rfl, (Below.refl _ w).alloc (Nat.le_refl _) _, by simp⟩
theorem split3_any (s : List UInt8) (hs : s.length ≤ 8388608) (w : World) (hM : Env w) :
   Calls Tryz.prog 51 #[.string ⟨s.toArray⟩, .string ⟨#[32, 43, 32]⟩] w fun e w' => e = .returned (.slice (some ⟨w.heap.size, 0, none⟩) (parts3 [] s).length (parts3 [] s).length) ∧ row? w' w.heap.size = some (((parts3 [] s).map fun p => Value.string ⟨p.toArray⟩).toArray) ∧ Below w.heap.size w w' ∧ w.heap.size < w'.heap.size := by
 have hsz : (⟨s.toArray⟩ : ByteArray).size = s.length := by simp [ByteArray.size]
 obtain ⟨m, hm⟩ := hM.mxl w (Below.refl _ _)
 refine (Any.strings_Split (ρ := Tryz.laysSplitM_ren) { Tryz.laysSplitM with } Tryz.laysSplitM.i9 ⟨s.toArray⟩ ⟨#[32, 43, 32]⟩ m w (by omega) hm (by decide)).mono ?_
 rintro e w' ⟨rfl, rfl⟩
 rw [count3, split3 _ s (Nat.le_refl _), List.map_map]
 exact ⟨rfl, row?_alloc_at _ _ _ _ rfl, (Below.refl _ w).alloc (Nat.le_refl _) _, by simp⟩
theorem trim_any (s : List UInt8) (hs : s.length ≤ 8388608) (w : World) : Calls Tryz.prog 91 #[.string ⟨s.toArray⟩, .string ⟨#[48, 49, 50, 51, 52, 53, 54, 55, 56, 57]⟩] w fun e w' => e = .returned (.string ⟨(Lib.trimS s [48, 49, 50, 51, 52, 53, 54, 55, 56, 57]).toArray⟩) ∧ Below w.heap.size w w' := by
 have hsz : (⟨s.toArray⟩ : ByteArray).size = s.length := by simp [ByteArray.size]
 refine (Any.strings_Trim_laid Tryz.laysTrim (by kernel_rfl) ⟨s.toArray⟩ ⟨#[48, 49, 50, 51, 52, 53, 54, 55, 56, 57]⟩ w (by omega) (by decide) ?_).mono ?_
 · intro j b hb
   have hm := List.mem_of_getElem? hb
   have key : ∀ b : UInt8, b ∈ ([48, 49, 50, 51, 52, 53, 54, 55, 56, 57] : List UInt8) → b.toNat < 128 := by decide
   exact key b hm
 · rintro e w' ⟨rfl, hb⟩
   exact ⟨by simp, hb⟩
theorem prefix_any (s p : List UInt8) (w : World) : Calls Tryz.prog 86 #[.string ⟨s.toArray⟩, .string ⟨p.toArray⟩] w fun e w' => e = .returned (.bool (p.isPrefixOf s)) ∧ w' = w := by
 refine (Any.strings_HasPrefix Tryz.laysHasPrefix ⟨s.toArray⟩ ⟨p.toArray⟩ w).mono ?_
 rintro e w' ⟨rfl, rfl⟩
 exact ⟨by simp [Lib.hasPrefix], rfl⟩
theorem repeat_any (n : Nat) (hn : n ≤ 1000000) (w : World) : Calls Tryz.prog 77 #[.string ⟨#[48]⟩, .int .i64 (n : Int)] w fun e w' => e = .returned (.string ⟨(List.replicate n (48 : UInt8)).toArray⟩) ∧ Below w.heap.size w w' := by
 have h1 : (⟨#[48]⟩ : ByteArray).size = 1 := rfl
 refine (Any.strings_Repeat Tryz.laysRepeat Tryz.extraRepeat ⟨#[48]⟩ n w (by omega) (by rw [h1]; omega)).mono ?_
 rintro e w' ⟨rfl, hb⟩
 refine ⟨?_, hb⟩
 rw [show (⟨#[48]⟩ : ByteArray).data.toList = [48] from rfl, repeatL48]
theorem len32_any (x : Nat) (hx : x < 4294967296) (w : World) : Calls Tryz.prog 121 #[.int .u32 (x : Int)] w fun e w' => e = .returned (.int .i64 (Lib.bitLen x : Int)) ∧ w' = w := by
 refine (Any.bits_Len32 Tryz.laysLen32 (x : Int) w (by omega) (by omega)).mono ?_
 rintro e w' ⟨rfl, rfl⟩
 exact ⟨by simp, rfl⟩
theorem bitLen_le (x : Nat) : Lib.bitLen x ≤ 64 := by
 have key : ∀ f x, Lib.bitLenAux f x ≤ f := by
   intro f
   induction f with
   | zero => intro x; exact Nat.le_refl _
   | succ f ih => intro x; rw [Lib.bitLenAux]; have := ih (x / 2); split <;> omega
 exact key 64 x
theorem join_own (B : Nat) (ls : List (List UInt8)) (v : Value) (w : World) (h : OwnStr B w v ls) (sep : List UInt8) (hl : ls.length ≤ 1000000) (hlen : (Lib.join ls sep).length ≤ 1000000) :
   Calls Tryz.prog 68 #[v, .string ⟨sep.toArray⟩] w fun e w' => e = .returned (.string ⟨(Lib.join ls sep).toArray⟩) ∧ Below w.heap.size w w' := by
 have hrd := h.rd elStr
 have hb : (ls.map fun l : List UInt8 => (⟨l.toArray⟩ : ByteArray)).map (·.data.toList) = ls := by
   rw [List.map_map]
   conv => rhs; rw [← List.map_id ls]
   exact List.map_congr_left fun x _ => rfl
 rcases h.2 with ⟨rfl, h2⟩ | ⟨g, cap, cur, rfl, hB, hg, hc, -⟩
 · have : ls = [] := List.length_eq_zero_iff.1 h2
   subst this
   refine (Any.strings_Join_none Tryz.laysJoin Tryz.extraJoin none 0 ⟨sep.toArray⟩ w).mono ?_
   rintro e w' ⟨rfl, rfl⟩
   exact ⟨by simp [Lib.join, List.intercalate], Below.refl _ _⟩
 · have hcs : ∀ (j : Nat) x, (ls.map fun l : List UInt8 => (⟨l.toArray⟩ : ByteArray))[j]? = some x → w.cell? ⟨g, 0 + j, none⟩ = some (.string x) := by
     intro j x hx
     rw [List.getElem?_map] at hx
     obtain ⟨l, hl, rfl⟩ := Option.map_eq_some_iff.1 hx
     have := World.ownsRow.cells (base := B) h (g := g) rfl _ _ (encC_get elStr hl (j := 0) (u := .string ⟨l.toArray⟩) rfl)
     have e : (⟨g, 0, none⟩ : Addr).add (j * 1 + 0) = ⟨g, 0 + j, none⟩ := by unfold Addr.add; split <;> simp_all
     rwa [e] at this
   have := Any.strings_Join Tryz.laysJoin Tryz.extraJoin g 0 cap (ls.map fun l : List UInt8 => (⟨l.toArray⟩ : ByteArray)) ⟨sep.toArray⟩ w hcs (Array.getElem?_eq_some_iff.1 hg).1 (by rw [List.length_map]; omega) (by rw [List.length_map]; exact hc) (by rw [hb]; exact Nat.le_trans hlen (by decide))
   rw [hb, List.length_map] at this
   exact this
end Go.Proofs.YtgnlebnpnpjfmaaGreatDoor
