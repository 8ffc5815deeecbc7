/- A statement's list of terms opened out of an argument's reading; arrays of numbers. What .. -/
import Derived.Test.YtgnlebnpnpjfmaaGreatDoorUOo
import Derived.Test.YtgnlebnpnpjfmaaGreatDoorUPl
import Derived.ProofKit
import Derived.OpenShut
import Derived.Deep.Slices
import Derived.Test.YtgnlebnpnpjfmaaGreatDoorCards
import Derived.Test.YtgnlebnpnpjfmaaGreatDoorTie
import Derived.WalkKit
import Derived.ChangeMaps5
import Derived.Deep.DeepHandedRow
import Derived.Lib.LaidTab
import Derived.Lib.TrailingZeros
import Derived.Stop.LaidErr
import Derived.Deep.Frames
set_option linter.all false
namespace Go.Proofs.YtgnlebnpnpjfmaaGreatDoor
open Go Go.ChangeShapes Go.WideShapes Go.RowKit Go.Pal Go.Deep
def tmA (t : Tm) : Array Value := #[.int .u32 (t.1 : Int), .int .u16 (t.2.1 : Int), .int .u16 (t.2.2 : Int)]
theorem wfU32 {n : Int} (h : (Lit.int .u32 n).wf = true) : 0 ≤ n ∧ n ≤ 4294967295 := by
 simp only [Lit.wf, Bool.and_eq_true, decide_eq_true_eq] at h
 rwa [show IntKind.u32.min = 0 from rfl, show IntKind.u32.max = 4294967295 from rfl] at h
theorem wfU16 {n : Int} (h : (Lit.int .u16 n).wf = true) : 0 ≤ n ∧ n ≤ 65535 := by
 simp only [Lit.wf, Bool.and_eq_true, decide_eq_true_eq] at h
 rwa [show IntKind.u16.min = 0 from rfl, show IntKind.u16.max = 65535 from rfl] at h
theorem oc_tm : Tryz.prog.cellsOf 70 = 3 := by kernel_rfl
theorem oc_u32 : Tryz.prog.cellsOf 68 = 1 := by kernel_rfl
theorem oc_u16 : Tryz.prog.cellsOf 45 = 1 := by kernel_rfl
theorem get_of_one {l : List Value} {i : Nat} {v : Value} (h : (l.drop i).take 1 = [v]) : l[i]? = some v := by
 have h1 : ((l.drop i).take 1)[0]? = some v := by rw [h]; rfl
 rw [List.getElem?_take, if_pos (by omega), List.getElem?_drop] at h1
 simpa using h1
section
variable {H : Type} {enc : TypeId × Value → H} {w : World} {base : Nat} {spare : Nat → Bool} {held : Bool}
theorem open_tm {fuel : Nat} {cs : List Value} {x : DataW H × List MemPlace} (h : DataW.trod enc Tryz.prog w base spare held fuel 70 cs = some x) :
   ∃ b : Tm, TmOk b ∧ cs = (tmA b).toList ∧ x.2 = [] := by
 obtain ⟨xs, n, _, rfl, hl, hlen, hf⟩ := DataW.trod_struct Tryz.underlying70 h
 rw [oc_tm] at hl
 match xs, hlen with
 | [y0, y1, y2], _ =>
   have h0 : DataW.trod enc Tryz.prog w base spare held n 68 ((cs.drop 0).take (Tryz.prog.cellsOf 68)) = some y0 := hf 0 _ rfl
   have h1 : DataW.trod enc Tryz.prog w base spare held n 45 ((cs.drop 1).take (Tryz.prog.cellsOf 45)) = some y1 := hf 1 _ rfl
   have h2 : DataW.trod enc Tryz.prog w base spare held n 45 ((cs.drop 2).take (Tryz.prog.cellsOf 45)) = some y2 := hf 2 _ rfl
   rw [oc_u32] at h0
   rw [oc_u16] at h1 h2
   obtain ⟨n0, c0, z0, w0⟩ := DataW.trod_int Tryz.underlying68 h0
   obtain ⟨n1, c1, z1, w1⟩ := DataW.trod_int Tryz.underlying45 h1
   obtain ⟨n2, c2, z2, w2⟩ := DataW.trod_int Tryz.underlying45 h2
   have e0 := get_of_one c0
   have e1 := get_of_one c1
   have e2 := get_of_one c2
   have k0 : y0.2 = [] := by rw [z0]
   have k1 : y1.2 = [] := by rw [z1]
   have k2 : y2.2 = [] := by rw [z2]
   obtain ⟨p0, p1⟩ := wfU32 w0
   obtain ⟨q0, q1⟩ := wfU16 w1
   obtain ⟨r0, r1⟩ := wfU16 w2
   refine ⟨(n0.toNat, n1.toNat, n2.toNat), ⟨by show n0.toNat < _; omega, by show n1.toNat < _; omega, by show n2.toNat < _; omega⟩, ?_, by simp [k0, k1, k2]⟩
   have f0 : ((n0.toNat : Nat) : Int) = n0 := by omega
   have f1 : ((n1.toNat : Nat) : Int) = n1 := by omega
   have f2 : ((n2.toNat : Nat) : Int) = n2 := by omega
   apply List.ext_getElem?
   intro i
   match i with
   | 0 => rw [e0]; show _ = some (Value.int .u32 ((n0.toNat : Nat) : Int)); rw [f0]
   | 1 => rw [e1]; show _ = some (Value.int .u16 ((n1.toNat : Nat) : Int)); rw [f1]
   | 2 => rw [e2]; show _ = some (Value.int .u16 ((n2.toNat : Nat) : Int)); rw [f2]
   | i + 3 => rw [List.getElem?_eq_none (by omega)]; rfl
theorem open_row {α : Type} {st t : TypeId} (hst : Tryz.prog.underlying st = some (.slice t)) (k : Nat) (hk : 0 < k) (hct : Tryz.prog.cellsOf t = k) (e : α → Array Value) (he : ∀ x, (e x).size = k) (P : α → Prop) (d : α) (hd : P d)
   (hel : ∀ {fuel : Nat} {cs : List Value} {x : DataW H × List MemPlace}, DataW.trod enc Tryz.prog w 0 (fun _ => true) held fuel t cs = some x → ∃ b, P b ∧ cs = (e b).toList ∧ x.2 = [])
   {fuel : Nat} {v : Value} {x : DataW H × List MemPlace} (h : DataW.trod enc Tryz.prog w 0 (fun _ => true) held fuel st [v] = some x) :
   ∃ T : List α, Rd e k w.heap.size w v T ∧ (∃ a n c, v = .slice a n c ∧ n ≤ c ∧ n = T.length ∧ n ≤ 9223372036854775807 ∧ c ≤ 9223372036854775807) ∧ (∀ b ∈ T, P b) ∧ ∀ q ∈ x.2, ∀ b, q ≠ MemPlace.map b := by
 rcases open_slice hst h with ⟨hcs, rfl⟩ | ⟨a, len, cap, m, n, D, Pl, hcs, hb, hl, hm, hmm, rfl, hi⟩
 · simp at hcs
   subst hcs
   exact ⟨[], ⟨none, 0, rfl, .inl rfl⟩, ⟨none, 0, 0, rfl, Nat.le_refl _, rfl, by omega, by omega⟩, by simp, by simp⟩
 · simp at hcs
   subst hcs
   simp only [if_true] at hmm
   subst hmm
   rw [hct] at hi
   have each : ∀ i, i < m → ∃ b : α, P b ∧ Pl i = [] ∧ ∀ j u, (e b)[j]? = some u → w.cell? ((a.add (i * k)).add j) = some u := fun i him => by
     obtain ⟨cs', hc, ht⟩ := hi i him
     obtain ⟨b, h1, h3, h4⟩ := hel ht
     obtain ⟨_, hcl, hat⟩ := World.cells?_some hc
     refine ⟨b, h1, h4, fun j u hu => ?_⟩
     have hj : j < k := by have := (Array.getElem?_eq_some_iff.1 hu).1; rwa [he] at this
     have := hat j hj
     rw [h3] at this
     rw [this]
     simpa using hu
   obtain ⟨f, hf⟩ : ∃ f : Nat → α, ∀ i, i < m → P (f i) ∧ Pl i = [] ∧ ∀ j u, (e (f i))[j]? = some u → w.cell? ((a.add (i * k)).add j) = some u :=
     ⟨fun i => if h : i < m then (each i h).choose else d, fun i h => by simp only [dif_pos h]; exact (each i h).choose_spec⟩
   have hmem : ∀ b ∈ (List.range len).map f, ∃ i, i < m ∧ b = f i := fun b hb => by
     obtain ⟨i, hi, rfl⟩ := List.mem_map.1 hb
     exact ⟨i, by have := List.mem_range.1 hi; omega, rfl⟩
   refine ⟨(List.range len).map f, ?_, ⟨some a, len, m, rfl, hl, by simp, by unfold maxLen at hm; omega, by unfold maxLen at hm; omega⟩, fun b hb => ?_, fun q hq b e => ?_⟩
   · refine ⟨some a, m, by simp, ?_⟩
     rcases Nat.eq_zero_or_pos len with h0 | h0
     · subst h0; exact .inl (by simp)
     · right
       obtain ⟨xb, xo, spot⟩ := a
       have hz0 : (e (f 0))[0]? = some ((e (f 0))[0]'(by rw [he]; exact hk)) := Array.getElem?_eq_getElem _
       have hc0 := (hf 0 (by omega)).2.2 0 _ hz0
       have hspot : spot = none := by
         have := World.cell?_spot hc0
         simp [Addr.add] at this
         cases spot with
         | none => rfl
         | some z => simp at this
       subst hspot
       have hlt0 := World.block_lt_of_cell? w _ hc0
       refine ⟨xb, xo, rfl, by simpa [Addr.add] using hlt0, fun i x hx j u hu => ?_⟩
       rw [List.getElem?_map] at hx
       obtain ⟨q, hq, rfl⟩ := Option.map_eq_some_iff.1 hx
       have hki : q = i ∧ i < len := by
         have hil := (List.getElem?_eq_some_iff.1 hq).1
         rw [List.length_range] at hil
         rw [List.getElem?_range hil] at hq
         exact ⟨(Option.some.inj hq).symm, hil⟩
       obtain ⟨rfl, hil⟩ := hki
       have := (hf q (by omega)).2.2 j u hu
       have e : ((⟨xb, xo, none⟩ : Addr).add (q * k)).add j = ⟨xb, xo + q * k + j, none⟩ := by
         have ad : ∀ o n : Nat, (⟨xb, o, none⟩ : Addr).add n = ⟨xb, o + n, none⟩ := fun o n => by unfold Addr.add; split <;> simp_all
         rw [ad, ad]
       rwa [e] at this
   · obtain ⟨i, him, rfl⟩ := hmem b hb
     exact (hf i him).1
   · rcases List.mem_append.1 hq with hq | hq
     · obtain ⟨j, _, rfl⟩ := MemPlace.mem_row.1 hq
       cases e
     · obtain ⟨i, hi2, hq⟩ := List.mem_flatMap.1 hq
       rw [(hf i (List.mem_range.1 hi2)).2.1] at hq
       cases hq
theorem open_tms {fuel : Nat} {v : Value} {x : DataW H × List MemPlace} (h : DataW.trod enc Tryz.prog w 0 (fun _ => true) held fuel 36 [v] = some x) :
   ∃ T : List Tm, Rd tmA 3 w.heap.size w v T ∧ (∀ b ∈ T, TmOk b) ∧ (∀ q ∈ x.2, ∀ b, q ≠ MemPlace.map b) ∧ T.length ≤ 9223372036854775807 := by
 obtain ⟨T, h1, ⟨a, n, c, -, -, hn, hn2, -⟩, h3, h4⟩ := open_row Tryz.underlying36 3 (by decide) oc_tm tmA (fun _ => rfl) TmOk (0, 0, 0) ⟨by decide, by decide, by decide⟩ (fun h => open_tm h) h
 exact ⟨T, h1, h3, h4, by omega⟩
end
end Go.Proofs.YtgnlebnpnpjfmaaGreatDoor
namespace Go.Proofs.YtgnlebnpnpjfmaaGreatDoor
open Go Go.ChangeShapes Go.WideShapes Go.ChangeAt Go.RowKit Go.Pal Go.Deep
theorem own : ownKnob Tryz.prog.godebug = none := by kernel_rfl
theorem laidOut : laidOutB Tryz.prog = true := by kernel_rfl
theorem gTabP : Tryz.prog.globalNamed "internal/strconv.uint64pow10" = some 0 := by kernel_rfl
theorem gTabTypeP : (Tryz.prog.globals[0]?).map (·.type) = some 208 := by kernel_rfl
theorem cellsTabP : Tryz.prog.cellsOf 208 = 20 := by kernel_rfl
theorem cellsU64r : Tryz.prog.cellsOf 51 = 1 := by kernel_rfl
def tab32 : List Int := [0, 1, 28, 2, 29, 14, 24, 3, 30, 22, 20, 15, 25, 17, 4, 8, 31, 27, 13, 23, 21, 19, 16, 7, 26, 12, 18, 6, 11, 5, 10, 9]
def textR : List UInt8 := [118, 97, 108, 117, 101, 32, 111, 117, 116, 32, 111, 102, 32, 114, 97, 110, 103, 101]
def textS : List UInt8 := [105, 110, 118, 97, 108, 105, 100, 32, 115, 121, 110, 116, 97, 120]
def accR : List Int := [128, 191, 160, 191, 128, 159, 144, 191, 128, 143, 0, 0, 0, 0, 0, 0, 0, 0, 0, 0, 0, 0, 0, 0, 0, 0, 0, 0, 0, 0, 0, 0]
def accD : DataW Unit := .agg [.agg [.lit (.int .u8 128), .lit (.int .u8 191)], .agg [.lit (.int .u8 160), .lit (.int .u8 191)], .agg [.lit (.int .u8 128), .lit (.int .u8 159)], .agg [.lit (.int .u8 144), .lit (.int .u8 191)], .agg [.lit (.int .u8 128), .lit (.int .u8 143)], .agg [.lit (.int .u8 0), .lit (.int .u8 0)], .agg [.lit (.int .u8 0), .lit (.int .u8 0)], .agg [.lit (.int .u8 0), .lit (.int .u8 0)], .agg [.lit (.int .u8 0), .lit (.int .u8 0)], .agg [.lit (.int .u8 0), .lit (.int .u8 0)], .agg [.lit (.int .u8 0), .lit (.int .u8 0)], .agg [.lit (.int .u8 0), .lit (.int .u8 0)], .agg [.lit (.int .u8 0), .lit (.int .u8 0)], .agg [.lit (.int .u8 0), .lit (.int .u8 0)], .agg [.lit (.int .u8 0), .lit (.int .u8 0)], .agg [.lit (.int .u8 0), .lit (.int .u8 0)]]
abbrev polLaid : List (String × DataW Unit) := [("math/bits.deBruijn32tab", Lib.tabData .u8 tab32), ("math/bits.deBruijn64tab", Lib.tabData .u8 (Lib.deBruijn64tab.map fun n : Nat => (n : Int))), ("internal/strconv.uint64pow10", Lib.tabData .u64 Lib.pow10Tab), ("unicode/utf8.acceptRanges", accD), ("strconv.ErrRange", .iface "*errors.errorString" (.ptr (.agg [.lit (.string textR)]))), ("strconv.ErrSyntax", .iface "*errors.errorString" (.ptr (.agg [.lit (.string textS)]))), ("unicode/utf8.first", Go.Pinned.utf8First)]
theorem tableP {W : World} (h : laidMetH Tryz.prog polLaid W) : Lib.TabIs Tryz.prog W "internal/strconv.uint64pow10" .u64 Lib.pow10Tab := by
 exact Lib.tabIs_of_head gTabP gTabTypeP Tryz.underlying208 Tryz.underlying51 cellsU64r cellsTabP (laidMet.tail (laidMet.tail h))
theorem pow_of {W : World} (h : Lib.TabIs Tryz.prog W "internal/strconv.uint64pow10" .u64 Lib.pow10Tab) : Pow W := Lib.tabBelow_of_tabIs h
theorem gRange : Tryz.prog.globalNamed "strconv.ErrRange" = some 3 := by kernel_rfl
theorem gRangeT : (Tryz.prog.globals[3]?).map (·.type) = some 136 := by kernel_rfl
theorem gSyntax : Tryz.prog.globalNamed "strconv.ErrSyntax" = some 2 := by kernel_rfl
theorem gSyntaxT : (Tryz.prog.globals[2]?).map (·.type) = some 136 := by kernel_rfl
theorem cellsErr : Tryz.prog.cellsOf 230 = 1 := by kernel_rfl
theorem cellsStr : Tryz.prog.cellsOf 9 = 1 := by kernel_rfl
theorem star : "*" ++ "errors.errorString" = "*errors.errorString" := by decide
theorem rowErr (u : TypeId) (h : Tryz.prog.typeName? 3 u = some "*errors.errorString") : u = 228 :=
 typeName_ptr_named (nm := "errors.errorString") (by rw [star]; kernel_rfl) (by kernel_rfl) (by decide) u (by rw [star]; exact h)
theorem errs_of {W : World} (h : laidMetH Tryz.prog polLaid W) : Errs W := by
 have h2 := laidMet.tail (laidMet.tail (laidMet.tail (laidMet.tail h)))
 obtain ⟨a0, s0, hv0, -⟩ := laid_sentinel h2 gRange gRangeT Tryz.underlying136 rowErr Tryz.underlying228 Tryz.underlying230 rfl rfl Tryz.underlying9 cellsErr cellsStr
 obtain ⟨a1, s1, hv1, -⟩ := laid_sentinel (laidMet.tail h2) gSyntax gSyntaxT Tryz.underlying136 rowErr Tryz.underlying228 Tryz.underlying230 rfl rfl Tryz.underlying9 cellsErr cellsStr
 have e0 : W.cell? ⟨3, 0, none⟩ = some (.iface 228 (.pointer (some a0))) := by simpa using World.var?_cell gRange hv0 0
 have e1 : W.cell? ⟨2, 0, none⟩ = some (.iface 228 (.pointer (some a1))) := by simpa using World.var?_cell gSyntax hv1 0
 have b0 := World.block_lt_of_cell? W _ e0
 have b1 := World.block_lt_of_cell? W _ e1
 intro W' hW'
 have f0 := (hW'.cell (p := ⟨3, 0, none⟩) b0).trans e0
 have f1 := (hW'.cell (p := ⟨2, 0, none⟩) b1).trans e1
 first
   | exact ⟨⟨_, f0, .inr ⟨_, _, rfl⟩⟩, _, f1, .inr ⟨_, _, rfl⟩⟩
   | exact ⟨⟨_, f1, .inr ⟨_, _, rfl⟩⟩, _, f0, .inr ⟨_, _, rfl⟩⟩
theorem mxl_of {W : World} (h : W.ShapedOpen Tryz.prog) : Mxl W := by
 obtain ⟨m, hm⟩ := Tryz.laysSplitM.s1_3 W h
 have hb := World.block_lt_of_cell? W _ hm
 exact fun W' hW' => ⟨m, (hW'.cell (p := ⟨1, 0, none⟩) hb).trans hm⟩
theorem env_of {W : World} (h : laidMetH Tryz.prog polLaid W) (hs : W.ShapedOpen Tryz.prog) : Env W := ⟨pow_of (tableP h), errs_of h, mxl_of hs⟩
def putTab (cs : Array Value) : Obj → Obj
 | .cells _ t frozen => .cells cs t frozen
 | o => o
noncomputable def low : Nat := (World.holding Tryz.prog default ⟨#[], #[], []⟩).heap.size
noncomputable def laidWorld (os : Os) : World :=
 { World.holding Tryz.prog os ⟨#[.cells #[.string ⟨textR.toArray⟩] 230, .cells #[.string ⟨textS.toArray⟩] 230], #[], []⟩ with heap := (((((((World.holding Tryz.prog os ⟨#[.cells #[.string ⟨textR.toArray⟩] 230, .cells #[.string ⟨textS.toArray⟩] 230], #[], []⟩).heap.modify 3 (putTab #[.iface 228 (.pointer (some ⟨low, 0, none⟩))])).modify 2 (putTab #[.iface 228 (.pointer (some ⟨low + 1, 0, none⟩))])).modify 4 (putTab (Go.Pinned.utf8FirstZ.map fun n : Nat => Value.int .u8 (n : Int)).toArray)).modify 5 (putTab (accR.map fun n : Int => Value.int .u8 n).toArray)).modify 7 (putTab (Lib.deBruijn64tab.map fun n : Nat => Value.int .u8 (n : Int)).toArray)).modify 6 (putTab (tab32.map fun n : Int => Value.int .u8 n).toArray)).modify 0 (putTab (Lib.pow10Tab.map fun n : Int => Value.int .u64 n).toArray) }
end Go.Proofs.YtgnlebnpnpjfmaaGreatDoor
