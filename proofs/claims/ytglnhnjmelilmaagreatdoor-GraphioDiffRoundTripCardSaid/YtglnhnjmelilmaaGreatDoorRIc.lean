/- Plain: the text of an edit and of a list of edits, an edit and a list of edits read from .. -/
import Derived.Test.YtglnhnjmelilmaaGreatDoorRIB
set_option linter.all false
namespace Go.Pal
open Go Go.RowKit
def opWords : List (List UInt8) := [[97, 100, 100], [100, 114, 111, 112], [106, 111, 105, 110], [112, 97, 114, 116], [109, 97, 114, 107], [119, 101, 105, 103, 104], [109, 97, 114, 107, 101, 100, 103, 101], [119, 101, 105, 103, 104, 101, 100, 103, 101]]
def opW (k : Nat) : List UInt8 := opWords.getD k []
def hasV (k : Nat) : Bool := k == 2 || k == 3 || k == 6 || k == 7
def hasL (k : Nat) : Bool := k == 0 || k == 2 || k == 4 || k == 6
def hasW (k : Nat) : Bool := k == 0 || k == 2 || k == 5 || k == 7
def manyOp (k : Nat) : Nat := 1 + (hasV k).toNat + (hasL k).toNat + (hasW k).toNat
def optN (b : Bool) (n : Int) : List Int := if b = true then [n] else []
def Ed.nums (e : Ed) (k : Nat) : List Int := e.u :: (optN (hasV k) e.v ++ (optN (hasL k) (e.lab : Int) ++ optN (hasW k) e.wt))
def Ed.bad (e : Ed) : Nat :=
 if e.op < 0 ∨ 8 ≤ e.op then 11
 else if (!hasV e.op.toNat && decide (e.v ≠ 0)) || (!hasL e.op.toNat && decide (e.lab ≠ 0)) || (!hasW e.op.toNat && decide (e.wt ≠ 0)) then 3
 else if !(idB e.u && idB e.v && labB (e.lab : Int) && wtB e.wt) then 2
 else if hasV e.op.toNat && decide (e.u = e.v) then 15
 else 0
def Ed.text (e : Ed) : List UInt8 × Nat := if e.bad = 0 then (lineB (opW e.op.toNat) (e.nums e.op.toNat), 0) else ([], e.bad)
def ed0 : Ed := ⟨0, 0, 0, 0, 0⟩
def edOf (k : Nat) (l : List Int) : Ed := ⟨k, l.getD 0 0, if hasV k = true then l.getD 1 0 else 0, if hasL k = true then (l.getD (1 + (hasV k).toNat) 0).toNat else 0, if hasW k = true then l.getD (1 + (hasV k).toNat + (hasL k).toNat) 0 else 0⟩
def labOf (k : Nat) (l : List Int) : Int := if hasL k = true then l.getD (1 + (hasV k).toNat) 0 else 0
def edStep (k : Nat) (l : List Int) : Ed × Nat :=
 if (idB (edOf k l).u && idB (edOf k l).v && labB (labOf k l) && wtB (edOf k l).wt) = true then
   if hasV k = true ∧ (edOf k l).u = (edOf k l).v then (ed0, 15) else (edOf k l, 0)
 else (ed0, 2)
def opOf (w : List UInt8) : Option Nat := opWords.idxOf? w
noncomputable def edRead (s : List UInt8) : Ed × Nat :=
 match wordsT s with
 | none => (ed0, 3)
 | some (w, l) => match opOf w with
   | none => (ed0, 3)
   | some k => if l.length = manyOp k then edStep k l else (ed0, 3)
theorem edRead_none {s : List UInt8} (h : wordsT s = none) : edRead s = (ed0, 3) := by unfold edRead; rw [h]
theorem edRead_noop {s w : List UInt8} {l : List Int} (h : wordsT s = some (w, l)) (ho : opOf w = none) : edRead s = (ed0, 3) := by unfold edRead; rw [h]; simp only [ho]
theorem edRead_some {s w : List UInt8} {l : List Int} {k : Nat} (h : wordsT s = some (w, l)) (ho : opOf w = some k) : edRead s = if l.length = manyOp k then edStep k l else (ed0, 3) := by unfold edRead; rw [h]; simp only [ho]
theorem opOf_lt {w : List UInt8} {k : Nat} (h : opOf w = some k) : k < 8 ∧ opW k = w := by
 unfold opOf at h
 rw [List.idxOf?_eq_some_iff] at h
 obtain ⟨hk, h1, -⟩ := h
 refine ⟨hk, ?_⟩
 unfold opW
 rw [List.getD_eq_getElem?_getD, List.getElem?_eq_getElem hk]
 simpa using h1
theorem opOf_opW : ∀ k, k < 8 → opOf (opW k) = some k := by decide
theorem opOf_no {w : List UInt8} (h : ∀ k, k < 8 → opW k ≠ w) : opOf w = none := by
 cases ho : opOf w with
 | none => rfl
 | some k => exact absurd (opOf_lt ho).2 (h k (opOf_lt ho).1)
theorem nums_len (e : Ed) (k : Nat) : (e.nums k).length = manyOp k := by
 unfold Ed.nums manyOp optN
 cases hasV k <;> cases hasL k <;> cases hasW k <;> rfl
theorem manyOp_le (k : Nat) : manyOp k ≤ 4 := by unfold manyOp; cases hasV k <;> cases hasL k <;> cases hasW k <;> decide
theorem opW_no {b : UInt8} (h : b = 32 ∨ b = 10) : ∀ k, k < 8 → ∀ x ∈ opW k, x ≠ b := by
 rcases h with rfl | rfl <;> decide
theorem Ed.bad_op {e : Ed} (h : e.bad = 0) : 0 ≤ e.op ∧ e.op < 8 := by
 unfold Ed.bad at h
 split at h
 · cases h
 · omega
theorem Ed.bad_range {e : Ed} (h : e.bad = 0) : idB e.u = true ∧ idB e.v = true ∧ labB (e.lab : Int) = true ∧ wtB e.wt = true := by
 unfold Ed.bad at h
 split at h
 · cases h
 · split at h
   · cases h
   · split at h
     · cases h
     · rename_i h3
       simp only [Bool.not_eq_true', Bool.not_eq_false, Bool.and_eq_true] at h3
       exact ⟨h3.1.1.1, h3.1.1.2, h3.1.2, h3.2⟩
theorem Ed.bad_rest {e : Ed} (h : e.bad = 0) : (hasV e.op.toNat = false → e.v = 0) ∧ (hasL e.op.toNat = false → e.lab = 0) ∧ (hasW e.op.toNat = false → e.wt = 0) ∧ ¬ (hasV e.op.toNat = true ∧ e.u = e.v) := by
 unfold Ed.bad at h
 split at h
 · cases h
 · split at h
   · cases h
   · rename_i h2
     split at h
     · cases h
     · split at h
       · cases h
       · rename_i h4
         simp at h2 h4
         refine ⟨fun hv => h2.1.1 hv, fun hl => h2.1.2 hl, fun hw => h2.2 hw, fun hh => h4 hh.1 hh.2⟩
theorem edOf_nums {e : Ed} {k : Nat} (hk : e.op = (k : Int)) (hV : hasV k = false → e.v = 0) (hL : hasL k = false → e.lab = 0) (hW : hasW k = false → e.wt = 0) : edOf k (e.nums k) = e ∧ labOf k (e.nums k) = (e.lab : Int) := by
 obtain ⟨op, u, v, lab, wt⟩ := e
 simp only at hk hV hL hW
 subst hk
 unfold edOf labOf Ed.nums optN
 cases h1 : hasV k <;> cases h2 : hasL k <;> cases h3 : hasW k <;> simp [h1, h2, h3] at hV hL hW ⊢ <;> simp [*]
theorem nums_range {e : Ed} (h : idB e.u = true ∧ idB e.v = true ∧ labB (e.lab : Int) = true ∧ wtB e.wt = true) (k : Nat) : ∀ n ∈ e.nums k, -1048576 ≤ n ∧ n ≤ 1048576 := by
 rw [idB_iff, idB_iff, labB_iff, wtB_iff] at h
 intro n hn
 unfold Ed.nums optN at hn
 simp only [List.mem_cons, List.mem_append] at hn
 rcases hn with rfl | hn | hn | hn
 · omega
 · split at hn
   · simp at hn; omega
   · simp at hn
 · split at hn
   · simp at hn; omega
   · simp at hn
 · split at hn
   · simp at hn; omega
   · simp at hn
theorem edRead_text {e : Ed} (h : e.bad = 0) : edRead e.text.1 = (e, 0) := by
 have ho := e.bad_op h
 have hr := e.bad_range h
 obtain ⟨hV, hL, hW, hlo⟩ := e.bad_rest h
 obtain ⟨k, hk⟩ : ∃ k : Nat, e.op = (k : Int) := ⟨e.op.toNat, by omega⟩
 have hkk : e.op.toNat = k := by omega
 have hn := nums_range hr k
 unfold Ed.text
 rw [if_pos h]
 rw [hkk] at hV hL hW hlo ⊢
 have hw := words_lineB (w := opW k) (l := e.nums k) (opW_no (.inl rfl) k (by omega)) (by rw [nums_len]; exact manyOp_le k) fun n hm => by have := hn n hm; omega
 obtain ⟨e1, e2⟩ := edOf_nums hk hV hL hW
 rw [edRead_some hw (opOf_opW k (by omega)), if_pos (nums_len e k)]
 unfold edStep
 rw [e1, e2, hr.1, hr.2.1, hr.2.2.1, hr.2.2.2, if_pos (show (true && true && true && true) = true from rfl), if_neg hlo]
def edsA : List UInt8 → List Ed → List UInt8 × Nat
 | acc, [] => (acc, 0)
 | acc, e :: r => if e.text.2 = 0 then edsA (acc ++ (e.text.1 ++ [10])) r else ([], e.text.2)
theorem edsA_nil (acc : List UInt8) : edsA acc [] = (acc, 0) := rfl
theorem edsA_cons (acc : List UInt8) (e : Ed) (r : List Ed) : edsA acc (e :: r) = if e.text.2 = 0 then edsA (acc ++ (e.text.1 ++ [10])) r else ([], e.text.2) := rfl
theorem edsA_good : ∀ (l : List Ed) (acc : List UInt8), (∀ e ∈ l, e.bad = 0) → edsA acc l = (acc ++ l.flatMap fun e => e.text.1 ++ [10], 0)
 | [], acc, _ => by rw [edsA_nil, List.flatMap_nil, List.append_nil]
 | e :: r, acc, h => by
   have h0 : e.text.2 = 0 := by unfold Ed.text; rw [if_pos (h e (by simp))]
   rw [edsA_cons, if_pos h0, edsA_good r _ fun x hx => h x (by simp [hx]), List.flatMap_cons, List.append_assoc]
noncomputable def edLine (l : List Ed) (p : List UInt8) : List Ed × Nat := (l ++ [(edRead p).1], (edRead p).2)
noncomputable def readEds (s : List UInt8) : List Ed × Nat × Nat := linesP edLine [] 1 (partsA 10 [] s)
theorem Ed.text_no10 {e : Ed} (h : e.bad = 0) : ∀ x ∈ e.text.1, x ≠ 10 := by
 have ho := e.bad_op h
 unfold Ed.text
 rw [if_pos h]
 refine lineB_no 10 (by decide) (by decide) (by decide) (opW_no (.inr rfl) _ (by omega)) fun n hn => ?_
 have := nums_range (e.bad_range h) _ n hn
 exact inI_of this.1 this.2
theorem foldF_eds : ∀ (l acc : List Ed), (∀ e ∈ l, e.bad = 0) → foldF edLine acc (l.map fun e => e.text.1) = acc ++ l
 | [], acc, _ => by simp [foldF]
 | e :: r, acc, h => by
   show foldF edLine (edLine acc e.text.1).1 (r.map fun e => e.text.1) = _
   rw [show (edLine acc e.text.1).1 = acc ++ [e] from by unfold edLine; rw [edRead_text (h e (by simp))], foldF_eds r _ fun x hx => h x (by simp [hx]), List.append_assoc]
   rfl
theorem readEds_text {l : List Ed} (h : ∀ e ∈ l, e.bad = 0) : readEds (l.flatMap fun e => e.text.1 ++ [10]) = (l, 0, 0) := by
 unfold readEds
 have e1 : (l.flatMap fun e => e.text.1 ++ [10]) = (l.map fun e => e.text.1).flatMap fun p => p ++ [10] := by rw [List.flatMap_map]
 rw [e1, parts_lines _ fun p hp => by obtain ⟨e, he, rfl⟩ := List.mem_map.1 hp; exact Ed.text_no10 (h e he)]
 rw [linesP_run edLine _ _ _ fun k p hp => by
   rw [List.getElem?_map] at hp
   cases he : l[k]? with
   | none => rw [he] at hp; cases hp
   | some e =>
     rw [he] at hp
     cases hp
     show (edRead e.text.1).2 = 0
     rw [edRead_text (h e (List.mem_of_getElem? he))]]
 rw [foldF_eds l [] h, List.nil_append]
def mayF : Nat → Int → Bool
 | 0, n => idB n
 | 1, n => idB n
 | 2, n => labB n
 | _, n => wtB n
def setF (e : Ed) : Nat → Int → Ed
 | 0, n => { e with u := n }
 | 1, n => { e with v := n }
 | 2, n => { e with lab := n.toNat }
 | _, n => { e with wt := n }
def ownIdx (fv fl fw : Bool) : List Nat := 0 :: ((if fv = true then [1] else []) ++ ((if fl = true then [2] else []) ++ (if fw = true then [3] else [])))
theorem ownIdx_len (k : Nat) : (ownIdx (hasV k) (hasL k) (hasW k)).length = manyOp k := by
 unfold ownIdx manyOp
 cases hasV k <;> cases hasL k <;> cases hasW k <;> rfl
theorem ownIdx_lt (fv fl fw : Bool) : ∀ j ∈ ownIdx fv fl fw, j < 4 := by cases fv <;> cases fl <;> cases fw <;> decide
def setTo (k : Nat) (own : List Nat) (l : List Int) (i : Nat) : Ed := ((own.zip l).take i).foldl (fun e p => setF e p.1 p.2) ⟨k, 0, 0, 0, 0⟩
theorem setTo_zero (k : Nat) (own : List Nat) (l : List Int) : setTo k own l 0 = ⟨k, 0, 0, 0, 0⟩ := rfl
theorem setTo_succ {k : Nat} {own : List Nat} {l : List Int} {i f : Nat} {n : Int} (hf : own[i]? = some f) (hn : l[i]? = some n) : setTo k own l (i + 1) = setF (setTo k own l i) f n := by
 have hz : (own.zip l)[i]? = some (f, n) := by rw [List.getElem?_zip_eq_some]; exact ⟨hf, hn⟩
 unfold setTo
 rw [List.take_add_one, hz]
 simp
theorem setTo_full {k : Nat} {l : List Int} (hl : l.length = manyOp k) : setTo k (ownIdx (hasV k) (hasL k) (hasW k)) l l.length = edOf k l := by
 unfold manyOp at hl
 unfold setTo ownIdx edOf
 revert hl
 cases hasV k <;> cases hasL k <;> cases hasW k <;> intro hl <;> rcases l with _ | ⟨a, _ | ⟨b, _ | ⟨c, _ | ⟨d, _ | ⟨e, r⟩⟩⟩⟩⟩ <;> first | rfl | (exfalso; simp at hl; done) | (exfalso; simp at hl; omega)
def goodTo (own : List Nat) (l : List Int) (i : Nat) : Prop := ∀ j f n, j < i → own[j]? = some f → l[j]? = some n → mayF f n = true
theorem goodTo_zero (own : List Nat) (l : List Int) : goodTo own l 0 := fun _ _ _ h => by omega
theorem goodTo_succ {own : List Nat} {l : List Int} {i f : Nat} {n : Int} (h : goodTo own l i) (hf : own[i]? = some f) (hn : l[i]? = some n) (hm : mayF f n = true) : goodTo own l (i + 1) := by
 intro j f' n' hj h1 h2
 by_cases e : j = i
 · subst e
   rw [hf] at h1; rw [hn] at h2
   cases h1; cases h2
   exact hm
 · exact h j f' n' (by omega) h1 h2
theorem edStep_good {k : Nat} {l : List Int} (hl : l.length = manyOp k) (hg : goodTo (ownIdx (hasV k) (hasL k) (hasW k)) l l.length) : edStep k l = if hasV k = true ∧ (edOf k l).u = (edOf k l).v then (ed0, 15) else (edOf k l, 0) := by
 have hr : (idB (edOf k l).u && idB (edOf k l).v && labB (labOf k l) && wtB (edOf k l).wt) = true := by
   have g0 := hg 0
   have g1 := hg 1
   have g2 := hg 2
   have g3 := hg 3
   clear hg
   have z1 : idB 0 = true := by decide
   have z2 : labB 0 = true := by decide
   have z3 : wtB 0 = true := by decide
   unfold manyOp at hl
   unfold ownIdx at g0 g1 g2 g3
   unfold edOf labOf
   revert hl g0 g1 g2 g3
   cases hasV k <;> cases hasL k <;> cases hasW k <;> intro hl g0 g1 g2 g3 <;> rcases l with _ | ⟨a, _ | ⟨b, _ | ⟨c, _ | ⟨d, _ | ⟨e, r⟩⟩⟩⟩⟩ <;> first | (exfalso; simp at hl; done) | (exfalso; simp at hl; omega) | (simp [mayF] at g0 g1 g2 g3 ⊢; simp [*])
 unfold edStep
 rw [if_pos hr]
theorem edStep_bad {k : Nat} {l : List Int} (hl : l.length = manyOp k) {i f : Nat} {n : Int} (hf : (ownIdx (hasV k) (hasL k) (hasW k))[i]? = some f) (hn : l[i]? = some n) (hm : mayF f n = false) : edStep k l = (ed0, 2) := by
 have hr : ¬ (idB (edOf k l).u && idB (edOf k l).v && labB (labOf k l) && wtB (edOf k l).wt) = true := by
   have hi : i < 4 := by
     have := (List.getElem?_eq_some_iff.1 hf).1
     rw [ownIdx_len] at this
     have := manyOp_le k
     omega
   unfold manyOp at hl
   unfold ownIdx at hf
   unfold edOf labOf
   revert hl hf
   rcases (show i = 0 ∨ i = 1 ∨ i = 2 ∨ i = 3 by omega) with rfl | rfl | rfl | rfl <;> cases hasV k <;> cases hasL k <;> cases hasW k <;> intro hl hf <;> rcases l with _ | ⟨a, _ | ⟨b, _ | ⟨c, _ | ⟨d, _ | ⟨e, r⟩⟩⟩⟩⟩ <;> first | (exfalso; simp at hl; done) | (exfalso; simp at hl; omega) | (exfalso; simp at hf; done) | (simp at hf hn; subst hf hn; simp [mayF] at hm; simp [hm])
 unfold edStep
 rw [if_neg hr]
end Go.Pal
