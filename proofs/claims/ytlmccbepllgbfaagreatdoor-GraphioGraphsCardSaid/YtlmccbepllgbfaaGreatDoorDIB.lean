/- Plain: the lines of a graph's text, vertices and edges read one by one; a graph's text .. -/
import Derived.Test.YtlmccbepllgbfaaGreatDoorDIa
import Derived.Test.YtlmccbepllgbfaaGreatDoorDVa
import Derived.Test.YtlmccbepllgbfaaGreatDoorDBeh
import Derived.Test.YtlmccbepllgbfaaGreatDoorDGrH
set_option linter.all false
namespace Go.Pal
open Go Go.RowKit
def vertexW : List UInt8 := [118, 101, 114, 116, 101, 120]
def edgeW : List UInt8 := [101, 100, 103, 101]
def labB (n : Int) : Bool := decide (0 ≤ n ∧ n ≤ 255)
def wtB (n : Int) : Bool := decide (-1048576 ≤ n ∧ n ≤ 1048576)
def lastV (V : List (Int × Th)) (a : Int) : Bool := match V.getLast? with
 | some p => decide (a ≤ p.1)
 | none => false
def lastE (E : List ((Int × Int) × Th)) (a b : Int) : Bool := match E.getLast? with
 | some p => !behB a b p.1
 | none => false
theorem lastV_of {V : List (Int × Th)} {p : Int × Th} (h : V.getLast? = some p) (a : Int) : lastV V a = decide (a ≤ p.1) := by unfold lastV; rw [h]
theorem lastE_of {E : List ((Int × Int) × Th)} {p : (Int × Int) × Th} (h : E.getLast? = some p) (a b : Int) : lastE E a b = !behB a b p.1 := by unfold lastE; rw [h]
def vStep (G : Gr) (a b c : Int) : Gr × Nat :=
 if (idB a && labB b && wtB c) = true then
   if 0 < G.E.length ∨ lastV G.V a = true then (G, 3) else (⟨G.V ++ [(a, (b.toNat, c))], G.E⟩, 0)
 else (G, 2)
def eStep (G : Gr) (a b c d : Int) : Gr × Nat :=
 if (idB a && idB b && labB c && wtB d) = true then
   if a = b then (G, 15)
   else if b < a ∨ lastE G.E a b = true then (G, 3)
   else if ((look G.V a).isSome && (look G.V b).isSome) = true then
     if G.E.length = 1024 then (G, 8) else (⟨G.V, G.E ++ [((a, b), (c.toNat, d))]⟩, 0)
   else (G, 9)
 else (G, 2)
noncomputable def lineG (G : Gr) (s : List UInt8) : Gr × Nat :=
 match readW s vertexW 3 with
 | some [a, b, c] => vStep G a b c
 | _ => match readW s edgeW 4 with
   | some [a, b, c, d] => eStep G a b c d
   | _ => (G, 3)
theorem readW_some {s w : List UInt8} {many : Nat} {l : List Int} (h : readW s w many = some l) : wordsT s = some (w, l) ∧ l.length = many := by
 unfold readW at h
 split at h
 · cases h
 · rename_i v l' hw
   split at h
   · rename_i hc
     injection h with h
     subst h
     exact ⟨by rw [hw, hc.1], hc.2⟩
   · cases h
theorem readW_of {s w : List UInt8} {l : List Int} (h : wordsT s = some (w, l)) : readW s w l.length = some l := by
 unfold readW
 rw [h]
 exact if_pos ⟨rfl, rfl⟩
theorem readW_ne {s w v : List UInt8} {l : List Int} (h : wordsT s = some (w, l)) {many : Nat} (hn : ¬ (w = v ∧ l.length = many)) : readW s v many = none := by
 unfold readW
 rw [h]
 exact if_neg hn
theorem readW_none {s : List UInt8} (h : wordsT s = none) (w : List UInt8) (many : Nat) : readW s w many = none := by
 unfold readW
 rw [h]
theorem lineG_v {G : Gr} {s : List UInt8} {a b c : Int} (h : readW s vertexW 3 = some [a, b, c]) : lineG G s = vStep G a b c := by
 unfold lineG
 rw [h]
theorem lineG_e {G : Gr} {s : List UInt8} {a b c d : Int} (h0 : readW s vertexW 3 = none) (h : readW s edgeW 4 = some [a, b, c, d]) : lineG G s = eStep G a b c d := by
 unfold lineG
 rw [h0, h]
theorem lineG_none {G : Gr} {s : List UInt8} (h0 : readW s vertexW 3 = none) (h : readW s edgeW 4 = none) : lineG G s = (G, 3) := by
 unfold lineG
 rw [h0, h]
theorem lineG_cases (s : List UInt8) : (∃ a b c, readW s vertexW 3 = some [a, b, c]) ∨ (readW s vertexW 3 = none ∧ ((∃ a b c d, readW s edgeW 4 = some [a, b, c, d]) ∨ readW s edgeW 4 = none)) := by
 cases h : readW s vertexW 3 with
 | some l =>
   have := (readW_some h).2
   match l, this with
   | [a, b, c], _ => exact .inl ⟨a, b, c, rfl⟩
 | none =>
   refine .inr ⟨rfl, ?_⟩
   cases h2 : readW s edgeW 4 with
   | some l =>
     have := (readW_some h2).2
     match l, this with
     | [a, b, c, d], _ => exact .inl ⟨a, b, c, d, rfl⟩
   | none => exact .inr rfl
theorem srt_last {α β : Type} {lt : α → α → Bool} {l : List (α × β)} (h : Srt lt l) {p : α × β} (hp : l.getLast? = some p) : ∀ q ∈ l, q = p ∨ lt q.1 p.1 = true := by
 obtain ⟨m, rfl⟩ : ∃ m, l = m ++ [p] := by
   rw [List.getLast?_eq_some_iff] at hp
   exact hp
 intro q hq
 rcases List.mem_append.1 hq with hq | hq
 · exact .inr ((List.pairwise_append.1 h).2.2 q hq p (by simp))
 · exact .inl (by simpa using hq)
theorem lastV_all {V : List (Int × Th)} (h : Srt ltV V) {a : Int} (hl : ¬ lastV V a = true) : ∀ p ∈ V, ltV p.1 a = true := by
 intro q hq
 cases hp : V.getLast? with
 | none => rw [List.getLast?_eq_none_iff] at hp; subst hp; simp at hq
 | some p =>
   rw [lastV_of hp] at hl
   simp only [decide_eq_true_eq, Int.not_le] at hl
   rcases srt_last h hp q hq with rfl | h2
   · simp [ltV]; omega
   · simp [ltV] at h2 ⊢; omega
theorem lastE_all {E : List ((Int × Int) × Th)} (h : Srt ltE E) {a b : Int} (hl : ¬ lastE E a b = true) : ∀ p ∈ E, ltE p.1 (a, b) = true := by
 intro q hq
 cases hp : E.getLast? with
 | none => rw [List.getLast?_eq_none_iff] at hp; subst hp; simp at hq
 | some p =>
   rw [lastE_of hp] at hl
   simp [behB] at hl
   rcases srt_last h hp q hq with rfl | h2
   · simp [ltE]; omega
   · simp [ltE] at h2 ⊢; omega
theorem idB_iff {n : Int} : idB n = true ↔ 0 ≤ n ∧ n < 1024 := by simp [idB]
theorem labB_iff {n : Int} : labB n = true ↔ 0 ≤ n ∧ n ≤ 255 := by simp [labB]
theorem wtB_iff {n : Int} : wtB n = true ↔ -1048576 ≤ n ∧ n ≤ 1048576 := by simp [wtB]
theorem wtB_heavy {n : Int} (h : wtB n = true) : heavyB n = false := by rw [wtB_iff] at h; unfold heavyB; rw [decide_eq_false]; omega
theorem vEd_wf' {a b c : Int} (h1 : idB a = true) (h2 : labB b = true) (h3 : wtB c = true) : (vEd (a, (b.toNat, c))).Wf := by
 rw [idB_iff] at h1; rw [labB_iff] at h2; rw [wtB_iff] at h3
 exact ⟨inI_0, ⟨by show _ ≤ a; omega, by show a ≤ _; omega⟩, inI_0, by show b.toNat < 256; omega, ⟨by show _ ≤ c; omega, by show c ≤ _; omega⟩⟩
theorem eEd_wf' {a b c d : Int} (h1 : idB a = true) (h2 : idB b = true) (h3 : labB c = true) (h4 : wtB d = true) : (eEd ((a, b), (c.toNat, d))).Wf := by
 rw [idB_iff] at h1 h2; rw [labB_iff] at h3; rw [wtB_iff] at h4
 exact ⟨inI_2, ⟨by show _ ≤ a; omega, by show a ≤ _; omega⟩, ⟨by show _ ≤ b; omega, by show b ≤ _; omega⟩, by show c.toNat < 256; omega, ⟨by show _ ≤ d; omega, by show d ≤ _; omega⟩⟩
theorem v_new {G : Gr} (hG : G.Ok) {a b c : Int} (h1 : idB a = true) (h3 : wtB c = true) (hl : ¬ lastV G.V a = true) :
   G.wrong (vEd (a, (b.toNat, c))) = 0 ∧ G.app (vEd (a, (b.toNat, c))) = ⟨G.V ++ [(a, (b.toNat, c))], G.E⟩ := by
 have hall := lastV_all hG.sV hl
 have hno : (look G.V a).isSome = false := look_absent fun p hp e => by have := hall p hp; rw [e, Go.Pal.ordV.irrefl] at this; cases this
 have hw : G.wrong (vEd (a, (b.toNat, c))) = 0 := by
   unfold Gr.wrong vEd Ed.pairs Ed.weighs
   simp [h1, wtB_heavy h3, hno]
 refine ⟨hw, ?_⟩
 unfold Gr.app
 rw [if_pos hw]
 unfold Gr.doit
 rw [if_pos (show (vEd (a, (b.toNat, c))).op = 0 from rfl)]
 show Gr.mk (putS ltV a (b.toNat, c) G.V) G.E = _
 rw [putS_last Go.Pal.ordV hall]
theorem e_new {G : Gr} (hG : G.Ok) {a b c d : Int} (h1 : idB a = true) (h2 : idB b = true) (h4 : wtB d = true) (hab : a < b) (hl : ¬ lastE G.E a b = true) :
   G.wrong (eEd ((a, b), (c.toNat, d))) = (if ((look G.V a).isSome && (look G.V b).isSome) = true then (if G.E.length = 1024 then 8 else 0) else 9) ∧
   G.app (eEd ((a, b), (c.toNat, d))) = (if ((look G.V a).isSome && (look G.V b).isSome) = true then (if G.E.length = 1024 then G else ⟨G.V, G.E ++ [((a, b), (c.toNat, d))]⟩) else G) := by
 have hall := lastE_all hG.sE hl
 have hbt : btw a b = (a, b) := btw_of hab
 have hne : ¬ a = b := by omega
 have hm := hG.most
 have hno : (look G.E (btw a b)).isSome = false := by
   rw [hbt]
   exact look_absent fun p hp e => by have := hall p hp; rw [e, Go.Pal.ordE.irrefl] at this; cases this
 have hw : G.wrong (eEd ((a, b), (c.toNat, d))) = (if ((look G.V a).isSome && (look G.V b).isSome) = true then (if G.E.length = 1024 then 8 else 0) else 9) := by
   unfold Gr.wrong eEd Ed.pairs Ed.weighs
   simp only [h1, h2, wtB_heavy h4, hno, hne]
   by_cases hs : ((look G.V a).isSome && (look G.V b).isSome) = true
   · by_cases hlen : G.E.length = 1024
     · simp [hs, hlen]
     · have : ¬ 1024 ≤ G.E.length := by omega
       simp [hs, hlen, this]
   · have hs2 : ((look G.V a).isSome && (look G.V b).isSome) = false := by simpa using hs
     simp [hs2]
 refine ⟨hw, ?_⟩
 unfold Gr.app
 rw [hw]
 by_cases hs : ((look G.V a).isSome && (look G.V b).isSome) = true
 · rw [if_pos hs, if_pos hs]
   by_cases hlen : G.E.length = 1024
   · rw [if_pos hlen, if_pos hlen, if_neg (by decide)]
   · rw [if_neg hlen, if_neg hlen, if_pos rfl]
     unfold Gr.doit
     rw [if_neg (by show ¬ (2 : Int) = 0; omega), if_neg (by show ¬ (2 : Int) = 1; omega), if_pos (show (eEd ((a, b), (c.toNat, d))).op = 2 from rfl)]
     show Gr.mk G.V (putS ltE (btw a b) (c.toNat, d) G.E) = _
     rw [hbt, putS_last Go.Pal.ordE hall]
 · rw [if_neg hs, if_neg hs, if_neg (by decide)]
theorem vStep_ok {G : Gr} (hG : G.Ok) (a b c : Int) : (vStep G a b c).1.Ok := by
 unfold vStep
 split
 · rename_i h
   simp only [Bool.and_eq_true] at h
   split
   · exact hG
   · rename_i hl
     have := v_new hG (b := b) h.1.1 h.2 fun h => hl (.inr h)
     rw [← this.2]
     exact hG.app (vEd_wf' h.1.1 h.1.2 h.2)
 · exact hG
theorem eStep_ok {G : Gr} (hG : G.Ok) (a b c d : Int) : (eStep G a b c d).1.Ok := by
 unfold eStep
 split
 · rename_i h
   simp only [Bool.and_eq_true] at h
   split
   · exact hG
   · rename_i hab
     split
     · exact hG
     · rename_i hl
       have := (e_new hG (c := c) h.1.1.1 h.1.1.2 h.2 (by omega) fun h => hl (.inr h)).2
       split
       · rename_i hs
         rw [if_pos hs] at this
         split
         · exact hG
         · rename_i hlen
           rw [if_neg hlen] at this
           rw [← this]
           exact hG.app (eEd_wf' h.1.1.1 h.1.1.2 h.1.2 h.2)
       · exact hG
 · exact hG
theorem lineG_ok {G : Gr} (hG : G.Ok) (s : List UInt8) : (lineG G s).1.Ok := by
 rcases lineG_cases s with ⟨a, b, c, h⟩ | ⟨h0, ⟨a, b, c, d, h⟩ | h⟩
 · rw [lineG_v h]; exact vStep_ok hG a b c
 · rw [lineG_e h0 h]; exact eStep_ok hG a b c d
 · rw [lineG_none h0 h]; exact hG
theorem vStep_text {G : Gr} {a b c : Int} (h : (vStep G a b c).2 = 0) : (vStep G a b c).1.text = G.text ++ (lineB vertexW [a, b, c] ++ [10]) := by
 unfold vStep at h ⊢
 by_cases h1 : (idB a && labB b && wtB c) = true
 · rw [if_pos h1] at h ⊢
   by_cases h2 : 0 < G.E.length ∨ lastV G.V a = true
   · rw [if_pos h2] at h; cases h
   · rw [if_neg h2]
     have hE : G.E = [] := List.length_eq_zero_iff.1 (by omega)
     simp only [Bool.and_eq_true, labB_iff] at h1
     have hb : ((b.toNat : Nat) : Int) = b := by omega
     unfold Gr.text
     simp only [hE, List.flatMap_append, List.flatMap_cons, List.flatMap_nil, List.append_nil]
     unfold vLine
     rw [hb]
     rfl
 · rw [if_neg h1] at h; cases h
theorem eStep_text {G : Gr} {a b c d : Int} (h : (eStep G a b c d).2 = 0) : (eStep G a b c d).1.text = G.text ++ (lineB edgeW [a, b, c, d] ++ [10]) := by
 unfold eStep at h ⊢
 by_cases h1 : (idB a && idB b && labB c && wtB d) = true
 · rw [if_pos h1] at h ⊢
   by_cases h2 : a = b
   · rw [if_pos h2] at h; cases h
   · rw [if_neg h2] at h ⊢
     by_cases h3 : b < a ∨ lastE G.E a b = true
     · rw [if_pos h3] at h; cases h
     · rw [if_neg h3] at h ⊢
       by_cases h4 : ((look G.V a).isSome && (look G.V b).isSome) = true
       · rw [if_pos h4] at h ⊢
         by_cases h5 : G.E.length = 1024
         · rw [if_pos h5] at h; cases h
         · rw [if_neg h5]
           simp only [Bool.and_eq_true, labB_iff] at h1
           have hc : ((c.toNat : Nat) : Int) = c := by omega
           unfold Gr.text
           simp only [List.flatMap_append, List.flatMap_cons, List.flatMap_nil, List.append_nil]
           unfold eLine
           rw [hc, List.append_assoc]
           rfl
       · rw [if_neg h4] at h; cases h
 · rw [if_neg h1] at h; cases h
theorem lineG_text {G : Gr} {s : List UInt8} (h : (lineG G s).2 = 0) : (lineG G s).1.text = G.text ++ (s ++ [10]) := by
 rcases lineG_cases s with ⟨a, b, c, h1⟩ | ⟨h0, ⟨a, b, c, d, h1⟩ | h1⟩
 · rw [lineG_v h1] at h ⊢
   rw [vStep_text h, ← (wordsT_line (readW_some h1).1).1]
 · rw [lineG_e h0 h1] at h ⊢
   rw [eStep_text h, ← (wordsT_line (readW_some h1).1).1]
 · rw [lineG_none h0 h1] at h; cases h
noncomputable def readG (s : List UInt8) : Gr × Nat × Nat := linesP lineG Gr.none 1 (partsA 10 [] s)
theorem linesG_ok : ∀ (P : List (List UInt8)) (G : Gr) (n : Nat), G.Ok → (linesP lineG G n P).1.Ok
 | [], G, n, h => h
 | [p], G, n, h => by
   rw [linesP_last]
   split
   · exact h
   · exact h
 | p :: q :: ps, G, n, h => by
   rw [linesP_cons lineG G n p (by simp)]
   split
   · exact linesG_ok (q :: ps) _ _ (lineG_ok h p)
   · exact lineG_ok h p
theorem readG_ok (s : List UInt8) : (readG s).1.Ok := linesG_ok _ _ _ gr_none_ok
theorem readG_text {s : List UInt8} (h : (readG s).2.2 = 0) : (readG s).1.text = s := by
 have := linesP_all lineG (fun G t => G.text = t) (fun G p t hG hp => by rw [lineG_text hp, hG]) (partsA 10 [] s) Gr.none 1 [] (partsA_ne 10 s []) rfl h
 rw [glue_parts, List.nil_append, List.nil_append] at this
 exact this
def vl (x : Int × Th) : List UInt8 := lineB vertexW [x.1, (x.2.1 : Int), x.2.2]
def el (x : (Int × Int) × Th) : List UInt8 := lineB edgeW [x.1.1, x.1.2, (x.2.1 : Int), x.2.2]
def Gr.lines (G : Gr) : List (List UInt8) := G.V.map vl ++ G.E.map el
theorem Gr.text_lines (G : Gr) : G.text = G.lines.flatMap fun p => p ++ [10] := by
 unfold Gr.text Gr.lines
 rw [List.flatMap_append, List.flatMap_map, List.flatMap_map]
 rfl
theorem v_line {G : Gr} (h : G.Ok) {k : Nat} {x : Int × Th} (hx : G.V[k]? = some x) : lineG (G.vPart k) (vl x) = (G.vPart (k + 1), 0) := by
 have hm := List.mem_of_getElem? hx
 have h1 := h.ids x hm
 obtain ⟨h2, h3, h4⟩ := h.thV x hm
 have hw := readW_of (words_lineB (w := vertexW) (l := [x.1, (x.2.1 : Int), x.2.2]) (by decide) (by simp) (by
   intro n hn
   simp only [List.mem_cons, List.not_mem_nil, or_false] at hn
   rcases hn with rfl | rfl | rfl <;> omega))
 have hlast : ¬ lastV (G.vPart k).V x.1 = true := by
   intro hc
   cases hp : (G.V.take k).getLast? with
   | none => unfold lastV at hc; rw [show (G.vPart k).V = G.V.take k from rfl, hp] at hc; cases hc
   | some p =>
     rw [show (G.vPart k).V = G.V.take k from rfl, lastV_of hp] at hc
     have := srt_take_lt h.sV hx p (List.mem_of_getLast? hp)
     simp [ltV] at this hc
     omega
 rw [lineG_v (show readW (vl x) vertexW 3 = some [x.1, (x.2.1 : Int), x.2.2] from hw)]
 unfold vStep
 have hr : (idB x.1 && labB (x.2.1 : Int) && wtB x.2.2) = true := by
   simp only [Bool.and_eq_true, idB_iff, labB_iff, wtB_iff]
   omega
 rw [if_pos hr, if_neg (fun hc => hc.elim (fun h0 => by simp [Gr.vPart] at h0) hlast)]
 unfold Gr.vPart
 rw [take_snoc hx]
 rfl
theorem e_line {G : Gr} (h : G.Ok) {k : Nat} {x : (Int × Int) × Th} (hx : G.E[k]? = some x) : lineG (G.ePart k) (el x) = (G.ePart (k + 1), 0) := by
 have hm := List.mem_of_getElem? hx
 have h1 := h.endsI x hm
 obtain ⟨h2, h3, h4⟩ := h.thE x hm
 obtain ⟨e1, e2, e3⟩ := h.ends x hm
 have hmost := h.most
 have hkl := (List.getElem?_eq_some_iff.1 hx).1
 have hws := words_lineB (w := edgeW) (l := [x.1.1, x.1.2, (x.2.1 : Int), x.2.2]) (by decide) (by simp) (by
   intro n hn
   simp only [List.mem_cons, List.not_mem_nil, or_false] at hn
   rcases hn with rfl | rfl | rfl | rfl <;> omega)
 have hw := readW_of hws
 have hlast : ¬ lastE (G.ePart k).E x.1.1 x.1.2 = true := by
   intro hc
   cases hp : (G.E.take k).getLast? with
   | none => unfold lastE at hc; rw [show (G.ePart k).E = G.E.take k from rfl, hp] at hc; cases hc
   | some p =>
     rw [show (G.ePart k).E = G.E.take k from rfl, lastE_of hp] at hc
     have := srt_take_lt h.sE hx p (List.mem_of_getLast? hp)
     simp [ltE, behB] at this hc
     omega
 rw [lineG_e (show readW (el x) vertexW 3 = none from readW_ne hws (fun h => absurd h.1 (by decide))) (show readW (el x) edgeW 4 = some [x.1.1, x.1.2, (x.2.1 : Int), x.2.2] from hw)]
 unfold eStep
 have hr : (idB x.1.1 && idB x.1.2 && labB (x.2.1 : Int) && wtB x.2.2) = true := by
   simp only [Bool.and_eq_true, idB_iff, labB_iff, wtB_iff]
   omega
 have hne : ¬ x.1.1 = x.1.2 := by omega
 have hs : ((look (G.ePart k).V x.1.1).isSome && (look (G.ePart k).V x.1.2).isSome) = true := by
   rw [show (G.ePart k).V = G.V from rfl, e2, e3]; rfl
 have hlen : ¬ (G.ePart k).E.length = 1024 := by
   show ¬ (G.E.take k).length = 1024
   rw [List.length_take]
   omega
 rw [if_pos hr, if_neg hne, if_neg (fun hc => hc.elim (fun h0 => by omega) hlast), if_pos hs, if_neg hlen]
 unfold Gr.ePart
 rw [take_snoc hx]
 rfl
theorem foldF_append {σ : Type} (f : σ → List UInt8 → σ × Nat) (x : σ) (L M : List (List UInt8)) : foldF f x (L ++ M) = foldF f (foldF f x L) M := by
 induction L generalizing x with
 | nil => rfl
 | cons p r ih => exact ih _
theorem foldF_v {G : Gr} (h : G.Ok) : ∀ k, k ≤ G.V.length → foldF lineG Gr.none ((G.V.map vl).take k) = G.vPart k
 | 0, _ => by simp [foldF, Gr.vPart, Gr.none]
 | k + 1, hk => by
   obtain ⟨x, hx⟩ : ∃ x, G.V[k]? = some x := ⟨_, List.getElem?_eq_getElem hk⟩
   have hx2 : (G.V.map vl)[k]? = some (vl x) := by rw [List.getElem?_map, hx]; rfl
   rw [take_snoc hx2, foldF_append, foldF_v h k (by omega)]
   show (lineG (G.vPart k) (vl x)).1 = _
   rw [v_line h hx]
theorem foldF_e {G : Gr} (h : G.Ok) : ∀ k, k ≤ G.E.length → foldF lineG (G.ePart 0) ((G.E.map el).take k) = G.ePart k
 | 0, _ => by simp [foldF]
 | k + 1, hk => by
   obtain ⟨x, hx⟩ : ∃ x, G.E[k]? = some x := ⟨_, List.getElem?_eq_getElem hk⟩
   have hx2 : (G.E.map el)[k]? = some (el x) := by rw [List.getElem?_map, hx]; rfl
   rw [take_snoc hx2, foldF_append, foldF_e h k (by omega)]
   show (lineG (G.ePart k) (el x)).1 = _
   rw [e_line h hx]
theorem vPart_all (G : Gr) : G.vPart G.V.length = G.ePart 0 := by unfold Gr.vPart Gr.ePart; rw [List.take_length]; rfl
theorem ePart_all (G : Gr) : G.ePart G.E.length = G := by unfold Gr.ePart; rw [List.take_length]
theorem foldF_lines {G : Gr} (h : G.Ok) : foldF lineG Gr.none G.lines = G := by
 have h1 := foldF_v h G.V.length (Nat.le_refl _)
 have h2 := foldF_e h G.E.length (Nat.le_refl _)
 rw [List.take_of_length_le (by simp)] at h1 h2
 unfold Gr.lines
 rw [foldF_append, h1, vPart_all, h2, ePart_all]
theorem lines_good {G : Gr} (h : G.Ok) : ∀ k p, G.lines[k]? = some p → (lineG (foldF lineG Gr.none (G.lines.take k)) p).2 = 0 := by
 intro k p hp
 unfold Gr.lines at hp ⊢
 by_cases hk : k < G.V.length
 · obtain ⟨x, hx⟩ : ∃ x, G.V[k]? = some x := ⟨_, List.getElem?_eq_getElem hk⟩
   rw [List.getElem?_append_left (by simpa using hk), List.getElem?_map, hx] at hp
   cases hp
   rw [List.take_append_of_le_length (by simp; omega), foldF_v h k (by omega), v_line h hx]
 · rw [List.getElem?_append_right (by simp; omega), List.getElem?_map, List.length_map] at hp
   cases hx : G.E[k - G.V.length]? with
   | none => rw [hx] at hp; cases hp
   | some x =>
     rw [hx] at hp
     cases hp
     have h1 := foldF_v h G.V.length (Nat.le_refl _)
     rw [List.take_of_length_le (by simp)] at h1
     rw [List.take_append, List.take_of_length_le (by simp; omega), foldF_append, h1, vPart_all, List.length_map, foldF_e h _ (by have := (List.getElem?_eq_some_iff.1 hx).1; omega), e_line h hx]
theorem lines_no10 {G : Gr} (h : G.Ok) : ∀ p ∈ G.lines, ∀ x ∈ p, x ≠ 10 := by
 intro p hp
 unfold Gr.lines at hp
 rcases List.mem_append.1 hp with hp | hp
 · obtain ⟨x, hm, rfl⟩ := List.mem_map.1 hp
   have h1 := h.ids x hm
   obtain ⟨h2, h3, h4⟩ := h.thV x hm
   refine lineB_no 10 (by decide) (by decide) (by decide) (by decide) fun n hn => ?_
   simp only [List.mem_cons, List.not_mem_nil, or_false] at hn
   rcases hn with rfl | rfl | rfl <;> exact inI_of (by omega) (by omega)
 · obtain ⟨x, hm, rfl⟩ := List.mem_map.1 hp
   have h1 := h.endsI x hm
   obtain ⟨h2, h3, h4⟩ := h.thE x hm
   refine lineB_no 10 (by decide) (by decide) (by decide) (by decide) fun n hn => ?_
   simp only [List.mem_cons, List.not_mem_nil, or_false] at hn
   rcases hn with rfl | rfl | rfl | rfl <;> exact inI_of (by omega) (by omega)
theorem readG_self {G : Gr} (h : G.Ok) : readG G.text = (G, 0, 0) := by
 unfold readG
 rw [Gr.text_lines, parts_lines _ (lines_no10 h), linesP_run lineG _ _ _ (lines_good h), foldF_lines h]
end Go.Pal
