/-
  Plain: the edits that lead from one graph to another; applied in order, none is refused and the second graph comes of the first.
-/
import Derived.Test.YtmmhngjndnonhaaGreatDoorDJpl
set_option linter.unusedSimpArgs false
set_option linter.unusedVariables false
namespace Go.Pal
open Go

section
variable {α β : Type} [DecidableEq α]
theorem look_cons (p : α × β) (l : List (α × β)) (y : α) : look (p :: l) y = if p.1 = y then some p.2 else look l y := by
  unfold look
  rw [List.find?_cons]
  by_cases h : p.1 = y
  · rw [if_pos h, decide_eq_true h]; rfl
  · rw [if_neg h, decide_eq_false h]
theorem look_filter_key (q : α → Bool) (y : α) : ∀ l : List (α × β), look (l.filter fun p => q p.1) y = if q y = true then look l y else none
  | [] => by simp [look]
  | p :: r => by
    rw [List.filter_cons]
    by_cases hq : q p.1 = true
    · rw [if_pos hq, look_cons, look_filter_key q y r, look_cons]
      by_cases h : p.1 = y
      · rw [if_pos h, if_pos h, ← h, if_pos hq]
      · rw [if_neg h, if_neg h]
    · rw [if_neg hq, look_filter_key q y r, look_cons]
      by_cases h : p.1 = y
      · rw [← h, if_neg hq, if_neg hq]
      · rw [if_neg h]
theorem srt_look_eq {lt : α → α → Bool} (O : Ord lt) {l m : List (α × β)} (h : Srt lt l) (h' : Srt lt m) (he : ∀ x, look l x = look m x) : l = m := by
  have hn := h.nd O
  have hn' := h'.nd O
  refine srt_unique O h h' ?_
  classical
  refine (List.perm_ext_iff_of_nodup (hn.imp fun {a b} h e => h (by rw [e])) (hn'.imp fun {a b} h e => h (by rw [e]))).2 fun q => ?_
  obtain ⟨x, t⟩ := q
  rw [← look_mem hn, ← look_mem hn', he]
theorem nodup_len : ∀ {l m : List α}, l.Nodup → (∀ x ∈ l, x ∈ m) → l.length ≤ m.length
  | [], _, _, _ => by simp
  | x :: r, m, h, hs => by
    have hx := hs x (by simp)
    obtain ⟨h1, h2⟩ := List.nodup_cons.1 h
    have := nodup_len (m := m.erase x) h2 fun y hy => (List.mem_erase_of_ne (fun e => h1 (by rw [← e]; exact hy))).2 (hs y (by simp [hy]))
    rw [List.length_erase_of_mem hx] at this
    have := List.length_pos_of_mem hx
    simp only [List.length_cons]
    omega
omit [DecidableEq α] in
theorem keys_nodup {l : List (α × β)} (h : NoDup l) : (l.map (·.1)).Nodup := by
  unfold NoDup at h
  exact List.pairwise_map.2 h
end

/-! ### edits, one after the other, none refused -/
def Runs : Gr → List Ed → Gr → Prop
  | A, [], B => A = B
  | A, e :: r, B => A.Ok ∧ e.Wf ∧ A.wrong e = 0 ∧ Runs (A.app e) r B
theorem Runs.trans : ∀ {l : List Ed} {A B : Gr} {m : List Ed} {C : Gr}, Runs A l B → Runs B m C → Runs A (l ++ m) C
  | [], A, B, m, C, h, h' => by
    have h : A = B := h
    rw [h]
    exact h'
  | e :: r, A, B, m, C, h, h' => ⟨h.1, h.2.1, h.2.2.1, Runs.trans h.2.2.2 h'⟩
theorem Runs.one {A : Gr} {e : Ed} (h : A.Ok) (he : e.Wf) (hw : A.wrong e = 0) : Runs A [e] (A.app e) := ⟨h, he, hw, rfl⟩
theorem Runs.at : ∀ {l : List Ed} {A B : Gr}, Runs A l B → ∀ {k : Nat} {e : Ed}, l[k]? = some e → ((l.take k).foldl Gr.app A).Ok ∧ e.Wf ∧ ((l.take k).foldl Gr.app A).wrong e = 0
  | [], _, _, _, k, e, h => by simp at h
  | x :: r, A, B, h, 0, e, he => by
    simp only [List.getElem?_cons_zero, Option.some.injEq] at he
    rw [← he]
    exact ⟨h.1, h.2.1, h.2.2.1⟩
  | x :: r, A, B, h, k + 1, e, he => by
    rw [List.getElem?_cons_succ] at he
    exact Runs.at h.2.2.2 he
theorem Runs.all : ∀ {l : List Ed} {A B : Gr}, Runs A l B → l.foldl Gr.app A = B
  | [], _, _, h => h
  | e :: r, A, B, h => by
    show r.foldl Gr.app (A.app e) = B
    exact Runs.all h.2.2.2
theorem Runs.allTake {l : List Ed} {A B : Gr} (h : Runs A l B) : (l.take l.length).foldl Gr.app A = B := by rw [List.take_length]; exact h.all

/-! ### single edits -/
theorem inI_1 : InI 1 := ⟨by decide, by decide⟩
theorem inI_3 : InI 3 := ⟨by decide, by decide⟩
theorem inI_4 : InI 4 := ⟨by decide, by decide⟩
theorem inI_5 : InI 5 := ⟨by decide, by decide⟩
theorem inI_6 : InI 6 := ⟨by decide, by decide⟩
theorem inI_7 : InI 7 := ⟨by decide, by decide⟩
theorem zero256 : (0 : Nat) < 256 := by decide
theorem InI.small {n : Int} (h0 : -1048576 ≤ n) (h1 : n ≤ 1048576) : InI n := ⟨by omega, by omega⟩
theorem app_of {A : Gr} {e : Ed} (h : A.wrong e = 0) : A.app e = A.doit e := by unfold Gr.app; rw [if_pos h]
theorem idB_of {n : Int} (h : 0 ≤ n ∧ n < 1024) : idB n = true := by unfold idB; simp; omega
theorem heavy_of {n : Int} (h : -1048576 ≤ n ∧ n ≤ 1048576) : heavyB n = false := by unfold heavyB; simp; omega
theorem Gr.Ok.idOf {A : Gr} (h : A.Ok) {x : Int} (hx : (look A.V x).isSome = true) : 0 ≤ x ∧ x < 1024 := by
  obtain ⟨p, hp, rfl⟩ := look_some.1 hx
  exact h.ids p hp
theorem Gr.Ok.endsOf {A : Gr} (h : A.Ok) {e : Int × Int} (he : (look A.E e).isSome = true) : e.1 < e.2 ∧ (look A.V e.1).isSome = true ∧ (look A.V e.2).isSome = true := by
  obtain ⟨p, hp, rfl⟩ := look_some.1 he
  exact h.ends p hp
def eRm (x : Int) : Ed := ⟨1, x, 0, 0, 0⟩
def ePt (e : Int × Int) : Ed := ⟨3, e.1, e.2, 0, 0⟩
theorem rm_step {A : Gr} (h : A.Ok) {x : Int} (hx : (look A.V x).isSome = true) :
    (eRm x).Wf ∧ A.wrong (eRm x) = 0 ∧ (∀ y, look (A.app (eRm x)).V y = if y = x then none else look A.V y) ∧ (∀ e : Int × Int, look (A.app (eRm x)).E e = if e.1 = x ∨ e.2 = x then none else look A.E e) := by
  have hi := h.idOf hx
  have hw : A.wrong (eRm x) = 0 := by
    have e1 : idB (eRm x).u = true := idB_of hi
    have e4 : (eRm x).pairs = false := rfl
    have e5 : (eRm x).weighs = false := rfl
    have e6 : (look A.V (eRm x).u).isSome = true := hx
    have e7 : (eRm x).op = 1 := rfl
    unfold Gr.wrong
    simp [e1, e4, e5, e6, e7]
  refine ⟨⟨inI_1, InI.small (by show _ ≤ x; omega) (by show x ≤ _; omega), inI_0, zero256, inI_0⟩, hw, ?_, ?_⟩
  · intro y
    rw [app_of hw]
    show look (del x A.V) y = _
    rw [look_del (h.sV.nd ordV)]
  · intro e
    rw [app_of hw]
    show look (A.E.filter fun p => !(decide (p.1.1 = x) || decide (p.1.2 = x))) e = _
    rw [look_filter_key (fun e : Int × Int => !(decide (e.1 = x) || decide (e.2 = x)))]
    by_cases h1 : e.1 = x <;> by_cases h2 : e.2 = x <;> simp [h1, h2]
theorem rm_runs : ∀ (l : List Int) (A : Gr), A.Ok → l.Nodup → (∀ x ∈ l, (look A.V x).isSome = true) →
    ∃ B, Runs A (l.map eRm) B ∧ B.Ok ∧ (∀ y, look B.V y = if y ∈ l then none else look A.V y) ∧ (∀ e : Int × Int, look B.E e = if e.1 ∈ l ∨ e.2 ∈ l then none else look A.E e)
  | [], A, h, _, _ => ⟨A, rfl, h, by simp, by simp⟩
  | x :: r, A, h, hn, hs => by
    obtain ⟨hx, hn⟩ := List.nodup_cons.1 hn
    obtain ⟨s1, s2, s3, s4⟩ := rm_step h (hs x (by simp))
    obtain ⟨B, b1, b2, b3, b4⟩ := rm_runs r (A.app (eRm x)) (h.app s1) hn fun y hy => by
      have hne : ¬ y = x := fun e => hx (by rw [← e]; exact hy)
      rw [s3, if_neg hne]
      exact hs y (by simp [hy])
    refine ⟨B, ⟨h, s1, s2, b1⟩, b2, fun y => ?_, fun e => ?_⟩
    · rw [b3, s3]
      by_cases h1 : y = x <;> by_cases h2 : y ∈ r <;> simp [h1, h2]
    · rw [b4, s4]
      simp only [List.mem_cons]
      by_cases h1 : e.1 ∈ r ∨ e.2 ∈ r
      · rw [if_pos h1, if_pos (by rcases h1 with h1 | h1 <;> simp [h1])]
      · rw [if_neg h1]
        by_cases h2 : e.1 = x ∨ e.2 = x
        · rw [if_pos h2, if_pos (by rcases h2 with h2 | h2 <;> simp [h2])]
        · rw [if_neg h2, if_neg]
          rintro ((h3 | h3) | (h3 | h3))
          · exact h2 (.inl h3)
          · exact h1 (.inl h3)
          · exact h2 (.inr h3)
          · exact h1 (.inr h3)
theorem pt_step {A : Gr} (h : A.Ok) {e : Int × Int} (he : (look A.E e).isSome = true) :
    (ePt e).Wf ∧ A.wrong (ePt e) = 0 ∧ (A.app (ePt e)).V = A.V ∧ (∀ y, look (A.app (ePt e)).E y = if y = e then none else look A.E y) := by
  obtain ⟨hlt, h1, h2⟩ := h.endsOf he
  have i1 := h.idOf h1
  have i2 := h.idOf h2
  have hb : btw (ePt e).u (ePt e).v = e := by rw [show (ePt e).u = e.1 from rfl, show (ePt e).v = e.2 from rfl, btw_of hlt]
  have hw : A.wrong (ePt e) = 0 := by
    have e1 : idB (ePt e).u = true := idB_of i1
    have e2 : idB (ePt e).v = true := idB_of i2
    have e4 : (ePt e).pairs = true := rfl
    have e5 : (ePt e).weighs = false := rfl
    have e6 : (look A.E e).isSome = true := he
    have e7 : (ePt e).op = 3 := rfl
    have e8 : ¬ (ePt e).u = (ePt e).v := by show ¬ e.1 = e.2; omega
    unfold Gr.wrong
    rw [hb]
    simp only [e1, e2, e4, e5, e6, e7, decide_eq_false e8]
    simp
  refine ⟨⟨inI_3, InI.small (by show _ ≤ e.1; omega) (by show e.1 ≤ _; omega), InI.small (by show _ ≤ e.2; omega) (by show e.2 ≤ _; omega), zero256, inI_0⟩, hw, ?_, ?_⟩
  · rw [app_of hw]
    rfl
  · intro y
    rw [app_of hw]
    show look (del (btw (ePt e).u (ePt e).v) A.E) y = _
    rw [hb, look_del (h.sE.nd Go.Pal.ordE)]
theorem pt_runs : ∀ (l : List (Int × Int)) (A : Gr), A.Ok → l.Nodup → (∀ e ∈ l, (look A.E e).isSome = true) →
    ∃ B, Runs A (l.map ePt) B ∧ B.Ok ∧ B.V = A.V ∧ (∀ y, look B.E y = if y ∈ l then none else look A.E y)
  | [], A, h, _, _ => ⟨A, rfl, h, rfl, by simp⟩
  | x :: r, A, h, hn, hs => by
    obtain ⟨hx, hn⟩ := List.nodup_cons.1 hn
    obtain ⟨s1, s2, s3, s4⟩ := pt_step h (hs x (by simp))
    obtain ⟨B, b1, b2, b3, b4⟩ := pt_runs r (A.app (ePt x)) (h.app s1) hn fun y hy => by
      have hne : ¬ y = x := fun e => hx (by rw [← e]; exact hy)
      rw [s4, if_neg hne]
      exact hs y (by simp [hy])
    refine ⟨B, ⟨h, s1, s2, b1⟩, b2, b3.trans s3, fun y => ?_⟩
    rw [b4, s4]
    by_cases h1 : y = x <;> by_cases h2 : y ∈ r <;> simp [h1, h2]
/-- A vertex that may be added. -/
def VNew (A : Gr) (p : Int × Th) : Prop := (0 ≤ p.1 ∧ p.1 < 1024) ∧ ThOk p.2 ∧ look A.V p.1 = none
theorem add_step {A : Gr} (h : A.Ok) {p : Int × Th} (hp : VNew A p) :
    (vEd p).Wf ∧ A.wrong (vEd p) = 0 ∧ (A.app (vEd p)).E = A.E ∧ (∀ y, look (A.app (vEd p)).V y = if y = p.1 then some p.2 else look A.V y) := by
  obtain ⟨h1, ⟨h2, h3, h4⟩, h5⟩ := hp
  have hw : A.wrong (vEd p) = 0 := by
    have e1 : idB (vEd p).u = true := idB_of h1
    have e2 : heavyB (vEd p).wt = false := heavy_of ⟨h3, h4⟩
    have e3 : (look A.V (vEd p).u).isSome = false := by rw [show (vEd p).u = p.1 from rfl, h5]; rfl
    have e4 : (vEd p).pairs = false := rfl
    have e5 : (vEd p).op = 0 := rfl
    unfold Gr.wrong
    simp [e1, e2, e3, e4, e5]
  refine ⟨⟨inI_0, InI.small (by show _ ≤ p.1; omega) (by show p.1 ≤ _; omega), inI_0, h2, InI.small h3 h4⟩, hw, ?_, ?_⟩
  · rw [app_of hw]
    rfl
  · intro y
    rw [app_of hw]
    show look (putS ltV p.1 (p.2.1, p.2.2) A.V) y = _
    rw [look_putS ordV _ _ h.sV]
theorem add_runs : ∀ (l : List (Int × Th)) (A : Gr), A.Ok → NoDup l → (∀ p ∈ l, VNew A p) →
    ∃ B, Runs A (l.map vEd) B ∧ B.Ok ∧ B.E = A.E ∧ (∀ y, look B.V y = (look l y).or (look A.V y))
  | [], A, h, _, _ => ⟨A, rfl, h, rfl, fun y => by simp [look]⟩
  | x :: r, A, h, hn, hs => by
    unfold NoDup at hn
    rw [List.pairwise_cons] at hn
    obtain ⟨s1, s2, s3, s4⟩ := add_step h (hs x (by simp))
    obtain ⟨B, b1, b2, b3, b4⟩ := add_runs r (A.app (vEd x)) (h.app s1) hn.2 fun y hy => by
      obtain ⟨h1, h2, h3⟩ := hs y (by simp [hy])
      refine ⟨h1, h2, ?_⟩
      rw [s4, if_neg fun e => hn.1 y hy e.symm]
      exact h3
    refine ⟨B, ⟨h, s1, s2, b1⟩, b2, b3.trans s3, fun y => ?_⟩
    rw [b4, s4, look_cons]
    by_cases h1 : x.1 = y
    · have : look r y = none := look_none.2 fun q hq e => hn.1 q hq (h1.trans e.symm)
      rw [if_pos h1, this, if_pos h1.symm]
      simp
    · rw [if_neg h1, if_neg fun e => h1 e.symm]

/-! ### changes of a vertex -/
def chgs (mark weigh : Ed) (t : Th) : List Ed := (if mark.lab ≠ t.1 then [mark] else []) ++ (if weigh.wt ≠ t.2 then [weigh] else [])
def vMark (p : Int × Th) : Ed := ⟨4, p.1, 0, p.2.1, 0⟩
def vWeigh (p : Int × Th) : Ed := ⟨5, p.1, 0, 0, p.2.2⟩
def chgV (p : Int × Th) (t : Th) : List Ed := chgs (vMark p) (vWeigh p) t
theorem setV_step {A : Gr} (h : A.Ok) {e : Ed} {t s : Th} (hl : look A.V e.u = some t) (he : e.Wf) (ho : e.op = 4 ∧ s = (e.lab, t.2) ∨ e.op = 5 ∧ heavyB e.wt = false ∧ s = (t.1, e.wt)) :
    A.wrong e = 0 ∧ (A.app e).E = A.E ∧ (∀ y, look (A.app e).V y = if y = e.u then some s else look A.V y) := by
  have hs : (look A.V e.u).isSome = true := by rw [hl]; rfl
  have hi := h.idOf hs
  have e1 : idB e.u = true := idB_of hi
  rcases ho with ⟨ho, rfl⟩ | ⟨ho, hh, rfl⟩
  · have e4 : e.pairs = false := by unfold Ed.pairs; simp [ho]
    have e5 : e.weighs = false := by unfold Ed.weighs; simp [ho]
    have hw : A.wrong e = 0 := by
      unfold Gr.wrong
      simp [e1, e4, e5, hs, ho]
    have hd : A.doit e = { A with V := putS ltV e.u (e.lab, ((look A.V e.u).getD (0, 0)).2) A.V } := by
      unfold Gr.doit
      simp [ho]
    rw [app_of hw, hd]
    refine ⟨hw, rfl, fun y => ?_⟩
    show look (putS ltV e.u _ A.V) y = _
    rw [look_putS ordV _ _ h.sV, hl]
    rfl
  · have e4 : e.pairs = false := by unfold Ed.pairs; simp [ho]
    have hw : A.wrong e = 0 := by
      unfold Gr.wrong
      simp [e1, e4, hs, ho, hh]
    have hd : A.doit e = { A with V := putS ltV e.u (((look A.V e.u).getD (0, 0)).1, e.wt) A.V } := by
      unfold Gr.doit
      simp [ho]
    rw [app_of hw, hd]
    refine ⟨hw, rfl, fun y => ?_⟩
    show look (putS ltV e.u _ A.V) y = _
    rw [look_putS ordV _ _ h.sV, hl]
    rfl
theorem chgV_runs {A : Gr} (h : A.Ok) {p : Int × Th} {t : Th} (hl : look A.V p.1 = some t) (hp : ThOk p.2) :
    ∃ B, Runs A (chgV p t) B ∧ B.Ok ∧ B.E = A.E ∧ (∀ y, look B.V y = if y = p.1 then some p.2 else look A.V y) := by
  obtain ⟨h1, h2, h3⟩ := hp
  have hi := h.idOf (x := p.1) (by rw [hl]; rfl)
  have iu : InI p.1 := InI.small (by omega) (by omega)
  have wm : (vMark p).Wf := ⟨inI_4, iu, inI_0, h1, inI_0⟩
  have ww : (vWeigh p).Wf := ⟨inI_5, iu, inI_0, zero256, InI.small h2 h3⟩
  have hm : ∃ C, Runs A (if (vMark p).lab ≠ t.1 then [vMark p] else []) C ∧ C.Ok ∧ C.E = A.E ∧ (∀ y, look C.V y = if y = p.1 then some (p.2.1, t.2) else look A.V y) := by
    by_cases hc : (vMark p).lab ≠ t.1
    · rw [if_pos hc]
      obtain ⟨s1, s2, s3⟩ := setV_step h (e := vMark p) (s := (p.2.1, t.2)) hl wm (.inl ⟨rfl, rfl⟩)
      exact ⟨_, .one h wm s1, h.app wm, s2, s3⟩
    · rw [if_neg hc]
      refine ⟨A, rfl, h, rfl, fun y => ?_⟩
      by_cases hy : y = p.1
      · rw [if_pos hy, hy, hl, show p.2.1 = t.1 from Decidable.not_not.1 hc]
      · rw [if_neg hy]
  obtain ⟨C, c1, c2, c3, c4⟩ := hm
  have hlC : look C.V p.1 = some (p.2.1, t.2) := by rw [c4, if_pos rfl]
  by_cases hc : (vWeigh p).wt ≠ t.2
  · obtain ⟨s1, s2, s3⟩ := setV_step c2 (e := vWeigh p) (s := (p.2.1, p.2.2)) hlC ww (.inr ⟨rfl, heavy_of ⟨h2, h3⟩, rfl⟩)
    refine ⟨C.app (vWeigh p), ?_, c2.app ww, s2.trans c3, fun y => ?_⟩
    · unfold chgV chgs
      rw [if_pos hc]
      exact c1.trans (.one c2 ww s1)
    · rw [s3]
      show (if y = p.1 then _ else _) = _
      by_cases hy : y = p.1
      · rw [if_pos hy, if_pos hy]
      · rw [if_neg hy, c4, if_neg hy, if_neg hy]
  · refine ⟨C, ?_, c2, c3, fun y => ?_⟩
    · unfold chgV chgs
      rw [if_neg hc, List.append_nil]
      exact c1
    · rw [c4, show t.2 = p.2.2 from (Decidable.not_not.1 hc).symm]
def chgOfV (f : Int → Option Th) (p : Int × Th) : List Ed := match f p.1 with | none => [] | some t => chgV p t
theorem chgVs_runs (f : Int → Option Th) : ∀ (l : List (Int × Th)) (A : Gr), A.Ok → NoDup l → (∀ p ∈ l, ThOk p.2) → (∀ p ∈ l, look A.V p.1 = (f p.1).or (some p.2)) →
    ∃ B, Runs A (l.flatMap (chgOfV f)) B ∧ B.Ok ∧ B.E = A.E ∧ (∀ y, look B.V y = (look l y).or (look A.V y))
  | [], A, h, _, _, _ => ⟨A, rfl, h, rfl, fun y => by simp [look]⟩
  | x :: r, A, h, hn, ht, hs => by
    unfold NoDup at hn
    rw [List.pairwise_cons] at hn
    have hx := hs x (by simp)
    have h0 : ∃ C, Runs A (chgOfV f x) C ∧ C.Ok ∧ C.E = A.E ∧ (∀ y, look C.V y = if y = x.1 then some x.2 else look A.V y) := by
      unfold chgOfV
      cases hf : f x.1 with
      | none =>
        rw [hf] at hx
        refine ⟨A, rfl, h, rfl, fun y => ?_⟩
        by_cases hy : y = x.1
        · rw [if_pos hy, hy, hx]; rfl
        · rw [if_neg hy]
      | some t =>
        rw [hf] at hx
        exact chgV_runs h hx (ht x (by simp))
    obtain ⟨C, c1, c2, c3, c4⟩ := h0
    obtain ⟨B, b1, b2, b3, b4⟩ := chgVs_runs f r C c2 hn.2 (fun p hp => ht p (by simp [hp])) fun p hp => by
      rw [c4, if_neg fun e => hn.1 p hp e.symm]
      exact hs p (by simp [hp])
    refine ⟨B, ?_, b2, b3.trans c3, fun y => ?_⟩
    · rw [List.flatMap_cons]
      exact c1.trans b1
    · rw [b4, c4, look_cons]
      by_cases h1 : x.1 = y
      · have : look r y = none := look_none.2 fun q hq e => hn.1 q hq (h1.trans e.symm)
        rw [if_pos h1, this, if_pos h1.symm]
        simp
      · rw [if_neg h1, if_neg fun e => h1 e.symm]

/-! ### edges added and changed -/
def eMark (p : (Int × Int) × Th) : Ed := ⟨6, p.1.1, p.1.2, p.2.1, 0⟩
def eWeigh (p : (Int × Int) × Th) : Ed := ⟨7, p.1.1, p.1.2, 0, p.2.2⟩
def chgE (p : (Int × Int) × Th) (t : Th) : List Ed := chgs (eMark p) (eWeigh p) t
theorem setE_step {A : Gr} (h : A.Ok) {e : Ed} {t s : Th} (hlt : e.u < e.v) (hl : look A.E (e.u, e.v) = some t) (ho : e.op = 6 ∧ s = (e.lab, t.2) ∨ e.op = 7 ∧ heavyB e.wt = false ∧ s = (t.1, e.wt)) :
    A.wrong e = 0 ∧ (A.app e).V = A.V ∧ (∀ y, look (A.app e).E y = if y = (e.u, e.v) then some s else look A.E y) := by
  have hs : (look A.E (e.u, e.v)).isSome = true := by rw [hl]; rfl
  obtain ⟨-, g1, g2⟩ := h.endsOf hs
  have e1 : idB e.u = true := idB_of (h.idOf g1)
  have e2 : idB e.v = true := idB_of (h.idOf g2)
  have hne : ¬ e.u = e.v := by omega
  have hb := btw_of hlt
  rcases ho with ⟨ho, rfl⟩ | ⟨ho, hh, rfl⟩
  · have e4 : e.pairs = true := by unfold Ed.pairs; simp [ho]
    have e5 : e.weighs = false := by unfold Ed.weighs; simp [ho]
    have hw : A.wrong e = 0 := by
      unfold Gr.wrong
      rw [hb]
      simp [e1, e2, e4, e5, hs, ho, hne]
    have hd : A.doit e = { A with E := putS ltE (e.u, e.v) (e.lab, ((look A.E (e.u, e.v)).getD (0, 0)).2) A.E } := by
      unfold Gr.doit
      rw [hb]
      simp [ho]
    rw [app_of hw, hd]
    refine ⟨hw, rfl, fun y => ?_⟩
    show look (putS ltE (e.u, e.v) _ A.E) y = _
    rw [look_putS Go.Pal.ordE _ _ h.sE, hl]
    rfl
  · have e4 : e.pairs = true := by unfold Ed.pairs; simp [ho]
    have hw : A.wrong e = 0 := by
      unfold Gr.wrong
      rw [hb]
      simp [e1, e2, e4, hs, ho, hne, hh]
    have hd : A.doit e = { A with E := putS ltE (e.u, e.v) (((look A.E (e.u, e.v)).getD (0, 0)).1, e.wt) A.E } := by
      unfold Gr.doit
      rw [hb]
      simp [ho]
    rw [app_of hw, hd]
    refine ⟨hw, rfl, fun y => ?_⟩
    show look (putS ltE (e.u, e.v) _ A.E) y = _
    rw [look_putS Go.Pal.ordE _ _ h.sE, hl]
    rfl
theorem chgE_runs {A : Gr} (h : A.Ok) {p : (Int × Int) × Th} {t : Th} (hl : look A.E p.1 = some t) (hp : ThOk p.2) :
    ∃ B, Runs A (chgE p t) B ∧ B.Ok ∧ B.V = A.V ∧ (∀ y, look B.E y = if y = p.1 then some p.2 else look A.E y) := by
  obtain ⟨h1, h2, h3⟩ := hp
  obtain ⟨hlt, g1, g2⟩ := h.endsOf (e := p.1) (by rw [hl]; rfl)
  have i1 := h.idOf g1
  have i2 := h.idOf g2
  have iu : InI p.1.1 := InI.small (by omega) (by omega)
  have iv : InI p.1.2 := InI.small (by omega) (by omega)
  have wm : (eMark p).Wf := ⟨inI_6, iu, iv, h1, inI_0⟩
  have ww : (eWeigh p).Wf := ⟨inI_7, iu, iv, zero256, InI.small h2 h3⟩
  have hm : ∃ C, Runs A (if (eMark p).lab ≠ t.1 then [eMark p] else []) C ∧ C.Ok ∧ C.V = A.V ∧ (∀ y, look C.E y = if y = p.1 then some (p.2.1, t.2) else look A.E y) := by
    by_cases hc : (eMark p).lab ≠ t.1
    · rw [if_pos hc]
      obtain ⟨s1, s2, s3⟩ := setE_step h (e := eMark p) (s := (p.2.1, t.2)) hlt hl (.inl ⟨rfl, rfl⟩)
      exact ⟨_, .one h wm s1, h.app wm, s2, s3⟩
    · rw [if_neg hc]
      refine ⟨A, rfl, h, rfl, fun y => ?_⟩
      by_cases hy : y = p.1
      · rw [if_pos hy, hy, hl, show p.2.1 = t.1 from Decidable.not_not.1 hc]
      · rw [if_neg hy]
  obtain ⟨C, c1, c2, c3, c4⟩ := hm
  have hlC : look C.E p.1 = some (p.2.1, t.2) := by rw [c4, if_pos rfl]
  by_cases hc : (eWeigh p).wt ≠ t.2
  · obtain ⟨s1, s2, s3⟩ := setE_step c2 (e := eWeigh p) (s := (p.2.1, p.2.2)) hlt hlC (.inr ⟨rfl, heavy_of ⟨h2, h3⟩, rfl⟩)
    refine ⟨C.app (eWeigh p), ?_, c2.app ww, s2.trans c3, fun y => ?_⟩
    · unfold chgE chgs
      rw [if_pos hc]
      exact c1.trans (.one c2 ww s1)
    · rw [s3]
      show (if y = p.1 then _ else _) = _
      by_cases hy : y = p.1
      · rw [if_pos hy, if_pos hy]
      · rw [if_neg hy, c4, if_neg hy, if_neg hy]
  · refine ⟨C, ?_, c2, c3, fun y => ?_⟩
    · unfold chgE chgs
      rw [if_neg hc, List.append_nil]
      exact c1
    · rw [c4, show t.2 = p.2.2 from (Decidable.not_not.1 hc).symm]
def chgOfE (f : Int × Int → Option Th) (p : (Int × Int) × Th) : List Ed := match f p.1 with | none => [eEd p] | some t => chgE p t
/-- The edges of H, one by one. -/
theorem chgEs_runs (f : Int × Int → Option Th) {H : Gr} (hH : H.Ok) : ∀ (l : List ((Int × Int) × Th)) (A : Gr), A.Ok → NoDup l → (∀ p ∈ l, p ∈ H.E) → (∀ p ∈ l, look A.E p.1 = f p.1) → (∀ y, (look A.E y).isSome = true → (look H.E y).isSome = true) → (∀ x, (look H.V x).isSome = true → (look A.V x).isSome = true) →
    ∃ B, Runs A (l.flatMap (chgOfE f)) B ∧ B.Ok ∧ B.V = A.V ∧ (∀ y, look B.E y = (look l y).or (look A.E y))
  | [], A, h, _, _, _, _, _ => ⟨A, rfl, h, rfl, fun y => by simp [look]⟩
  | x :: r, A, h, hn, ht, hs, hsub, hV => by
    unfold NoDup at hn
    rw [List.pairwise_cons] at hn
    have hx := hs x (by simp)
    have hxH := ht x (by simp)
    have hthx := hH.thE x hxH
    have h0 : ∃ C, Runs A (chgOfE f x) C ∧ C.Ok ∧ C.V = A.V ∧ (∀ y, look C.E y = if y = x.1 then some x.2 else look A.E y) := by
      unfold chgOfE
      cases hf : f x.1 with
      | none =>
        rw [hf] at hx
        obtain ⟨hlt, g1, g2⟩ := hH.ends x hxH
        have g1' := hV _ g1
        have g2' := hV _ g2
        have hlen : A.E.length < 1024 := by
          have hnd : (x.1 :: A.E.map (·.1)).Nodup := List.nodup_cons.2 ⟨fun hm => by
            obtain ⟨q, hq, e⟩ := List.mem_map.1 hm
            exact look_none.1 hx q hq e, keys_nodup (h.sE.nd Go.Pal.ordE)⟩
          have := nodup_len (m := H.E.map (·.1)) hnd fun y hy => by
            rcases List.mem_cons.1 hy with rfl | hy
            · exact List.mem_map.2 ⟨x, hxH, rfl⟩
            · obtain ⟨q, hq, e⟩ := List.mem_map.1 hy
              obtain ⟨q', hq', e'⟩ := look_some.1 (hsub y (look_some.2 ⟨q, hq, e⟩))
              exact List.mem_map.2 ⟨q', hq', e'⟩
          simp only [List.length_cons, List.length_map] at this
          have := hH.most
          omega
        have i1 := h.idOf g1'
        have i2 := h.idOf g2'
        have hb : btw (eEd x).u (eEd x).v = x.1 := by rw [show (eEd x).u = x.1.1 from rfl, show (eEd x).v = x.1.2 from rfl, btw_of hlt]
        have hwf := eEd_wf hH hxH
        have hw : A.wrong (eEd x) = 0 := by
          have e0 : idB (eEd x).u = true := idB_of i1
          have e1 : idB (eEd x).v = true := idB_of i2
          have e2 : heavyB (eEd x).wt = false := heavy_of hthx.2
          have e3 : (look A.E x.1).isSome = false := by rw [hx]; rfl
          have e4 : (eEd x).pairs = true := rfl
          have e5 : (eEd x).op = 2 := rfl
          have e6 : (look A.V (eEd x).u).isSome = true := g1'
          have e7 : (look A.V (eEd x).v).isSome = true := g2'
          have e8 : ¬ (eEd x).u = (eEd x).v := by show ¬ x.1.1 = x.1.2; omega
          have e9 : ¬ 1024 ≤ A.E.length := by omega
          unfold Gr.wrong
          rw [hb]
          simp only [e0, e1, e2, e3, e4, e5, e6, e7, decide_eq_false e8, decide_eq_false e9]
          simp
        refine ⟨_, .one h hwf hw, h.app hwf, ?_, fun y => ?_⟩
        · rw [app_of hw]
          rfl
        · rw [app_of hw]
          show look (putS ltE (btw (eEd x).u (eEd x).v) (x.2.1, x.2.2) A.E) y = _
          rw [hb, look_putS Go.Pal.ordE _ _ h.sE]
      | some t =>
        rw [hf] at hx
        exact chgE_runs h hx hthx
    obtain ⟨C, c1, c2, c3, c4⟩ := h0
    obtain ⟨B, b1, b2, b3, b4⟩ := chgEs_runs f hH r C c2 hn.2 (fun p hp => ht p (by simp [hp])) (fun p hp => by
      rw [c4, if_neg fun e => hn.1 p hp e.symm]
      exact hs p (by simp [hp])) (fun y hy => by
      rw [c4] at hy
      by_cases h1 : y = x.1
      · rw [h1]
        exact look_some.2 ⟨x, hxH, rfl⟩
      · rw [if_neg h1] at hy
        exact hsub y hy) (fun y hy => by rw [c3]; exact hV y hy)
    refine ⟨B, ?_, b2, b3.trans c3, fun y => ?_⟩
    · rw [List.flatMap_cons]
      exact c1.trans b1
    · rw [b4, c4, look_cons]
      by_cases h1 : x.1 = y
      · have : look r y = none := look_none.2 fun q hq e => hn.1 q hq (h1.trans e.symm)
        rw [if_pos h1, this, if_pos h1.symm]
        simp
      · rw [if_neg h1, if_neg fun e => h1 e.symm]

/-! ### the difference -/
def goneV (H : Gr) (p : Int × Th) : Bool := !(look H.V p.1).isSome
def goneE (H : Gr) (p : (Int × Int) × Th) : Bool := (look H.V p.1.1).isSome && (look H.V p.1.2).isSome && !(look H.E p.1).isSome
def diffL (G H : Gr) : List Ed :=
  (G.V.filter (goneV H)).map (fun p => eRm p.1) ++ (G.E.filter (goneE H)).map (fun p => ePt p.1) ++ (H.V.filter (goneV G)).map vEd ++ H.V.flatMap (chgOfV (look G.V)) ++ H.E.flatMap (chgOfE (look G.E))
theorem diff_runs {G H : Gr} (hG : G.Ok) (hH : H.Ok) : Runs G (diffL G H) H := by
  have nGV := hG.sV.nd ordV
  have nHV := hH.sV.nd ordV
  have nGE := hG.sE.nd Go.Pal.ordE
  have nHE := hH.sE.nd Go.Pal.ordE
  -- vertices taken away
  obtain ⟨A, a1, a2, a3, a4⟩ := rm_runs ((G.V.filter (goneV H)).map (·.1)) G hG (keys_nodup (nGV.filter _)) fun x hx => by
    obtain ⟨p, hp, rfl⟩ := List.mem_map.1 hx
    exact look_some.2 ⟨p, (List.mem_filter.1 hp).1, rfl⟩
  have hA : ∀ y, look A.V y = if (look H.V y).isSome = true then look G.V y else none := fun y => by
    rw [a3]
    by_cases hm : y ∈ (G.V.filter (goneV H)).map (·.1)
    · rw [if_pos hm]
      obtain ⟨p, hp, rfl⟩ := List.mem_map.1 hm
      have := (List.mem_filter.1 hp).2
      unfold goneV at this
      rw [if_neg (by simpa using this)]
    · rw [if_neg hm]
      by_cases hh : (look H.V y).isSome = true
      · rw [if_pos hh]
      · rw [if_neg hh]
        refine look_none.2 fun p hp e => hm (List.mem_map.2 ⟨p, List.mem_filter.2 ⟨hp, ?_⟩, e⟩)
        unfold goneV
        rw [e]
        simpa using hh
  have hmem : ∀ y, (look G.V y).isSome = true → (y ∈ (G.V.filter (goneV H)).map (·.1) ↔ ¬ (look H.V y).isSome = true) := fun y hy => by
    obtain ⟨p, hp, rfl⟩ := look_some.1 hy
    constructor
    · intro hm
      obtain ⟨q, hq, e⟩ := List.mem_map.1 hm
      have := (List.mem_filter.1 hq).2
      unfold goneV at this
      rw [e] at this
      simpa using this
    · intro hn
      refine List.mem_map.2 ⟨p, List.mem_filter.2 ⟨hp, ?_⟩, rfl⟩
      unfold goneV
      simpa using hn
  have hAE : ∀ e : Int × Int, look A.E e = if (look H.V e.1).isSome = true ∧ (look H.V e.2).isSome = true then look G.E e else none := fun e => by
    rw [a4]
    cases hg : look G.E e with
    | none => simp
    | some t =>
      obtain ⟨-, g1, g2⟩ := hG.endsOf (e := e) (by rw [hg]; rfl)
      have q1 := hmem _ g1
      have q2 := hmem _ g2
      by_cases h1 : (look H.V e.1).isSome = true
      · by_cases h2 : (look H.V e.2).isSome = true
        · rw [if_neg (fun h => h.elim (fun h => q1.1 h h1) (fun h => q2.1 h h2)), if_pos ⟨h1, h2⟩]
        · rw [if_pos (.inr (q2.2 h2)), if_neg (fun h => h2 h.2)]
      · rw [if_pos (.inl (q1.2 h1)), if_neg (fun h => h1 h.1)]
  -- edges taken away
  obtain ⟨B, b1, b2, b3, b4⟩ := pt_runs ((G.E.filter (goneE H)).map (·.1)) A a2 (keys_nodup (nGE.filter _)) fun e he => by
    obtain ⟨p, hp, rfl⟩ := List.mem_map.1 he
    obtain ⟨hp, hq⟩ := List.mem_filter.1 hp
    unfold goneE at hq
    simp only [Bool.and_eq_true] at hq
    rw [hAE, if_pos hq.1]
    exact look_some.2 ⟨p, hp, rfl⟩
  have hBE : ∀ e : Int × Int, look B.E e = if (look H.E e).isSome = true then look G.E e else none := fun e => by
    rw [b4, hAE]
    cases hg : look G.E e with
    | none => simp
    | some t =>
      have hmE : e ∈ (G.E.filter (goneE H)).map (·.1) ↔ ((look H.V e.1).isSome = true ∧ (look H.V e.2).isSome = true) ∧ ¬ (look H.E e).isSome = true := by
        constructor
        · intro hm
          obtain ⟨q, hq, rfl⟩ := List.mem_map.1 hm
          have := (List.mem_filter.1 hq).2
          unfold goneE at this
          simpa using this
        · intro hn
          refine List.mem_map.2 ⟨(e, t), List.mem_filter.2 ⟨(look_mem nGE).1 hg, ?_⟩, rfl⟩
          unfold goneE
          simpa using hn
      by_cases h3 : (look H.E e).isSome = true
      · obtain ⟨-, g1, g2⟩ := hH.endsOf h3
        rw [if_neg (fun hm => (hmE.1 hm).2 h3), if_pos ⟨g1, g2⟩, if_pos h3]
      · rw [if_neg h3]
        by_cases h4 : (look H.V e.1).isSome = true ∧ (look H.V e.2).isSome = true
        · rw [if_pos (hmE.2 ⟨h4, h3⟩)]
        · rw [if_neg h4]
          split <;> rfl
  -- vertices added
  obtain ⟨C, c1, c2, c3, c4⟩ := add_runs (H.V.filter (goneV G)) B b2 (nHV.filter _) fun p hp => by
    obtain ⟨hp, hq⟩ := List.mem_filter.1 hp
    refine ⟨hH.ids p hp, hH.thV p hp, ?_⟩
    rw [b3, hA, if_pos (look_some.2 ⟨p, hp, rfl⟩)]
    unfold goneV at hq
    cases hl : look G.V p.1 with
    | none => rfl
    | some t => rw [hl] at hq; simp at hq
  have hC : ∀ y, look C.V y = if (look H.V y).isSome = true then (look G.V y).or (look H.V y) else none := fun y => by
    have hf : look (H.V.filter (goneV G)) y = if (!(look G.V y).isSome) = true then look H.V y else none := look_filter_key (fun y => !(look G.V y).isSome) y H.V
    rw [c4, b3, hA, hf]
    cases hg : look G.V y <;> cases hh : look H.V y <;> simp
  -- labels and weights of vertices
  obtain ⟨D, d1, d2, d3, d4⟩ := chgVs_runs (look G.V) H.V C c2 nHV hH.thV fun p hp => by
    have hl : look H.V p.1 = some p.2 := (look_mem nHV).2 hp
    rw [hC, hl]
    rfl
  have hD : ∀ y, look D.V y = look H.V y := fun y => by
    rw [d4, hC]
    cases hh : look H.V y <;> simp
  have hDE : ∀ e, look D.E e = if (look H.E e).isSome = true then look G.E e else none := fun e => by rw [d3, c3, hBE]
  -- edges
  obtain ⟨F, f1, f2, f3, f4⟩ := chgEs_runs (look G.E) hH H.E D d2 nHE (fun p hp => hp) (fun p hp => by
      rw [hDE, if_pos (look_some.2 ⟨p, hp, rfl⟩)]) (fun y hy => by
      rw [hDE] at hy
      by_cases h1 : (look H.E y).isSome = true
      · exact h1
      · rw [if_neg h1] at hy
        cases hy) (fun x hx => by rw [hD]; exact hx)
  have hF : F = H := by
    have e1 : F.V = H.V := srt_look_eq ordV f2.sV hH.sV fun x => by rw [f3]; exact hD x
    have e2 : F.E = H.E := srt_look_eq Go.Pal.ordE f2.sE hH.sE fun x => by
      rw [f4, hDE]
      cases hh : look H.E x <;> simp
    cases F
    cases H
    simp only at e1 e2
    rw [e1, e2]
  rw [← hF]
  have r1 : Runs G ((G.V.filter (goneV H)).map (fun p => eRm p.1)) A := by rw [List.map_map] at a1; exact a1
  have r2 : Runs A ((G.E.filter (goneE H)).map (fun p => ePt p.1)) B := by rw [List.map_map] at b1; exact b1
  unfold diffL
  rw [hF]
  rw [hF] at f1
  exact (((r1.trans r2).trans c1).trans d1).trans f1
theorem diff_self {G : Gr} (hG : G.Ok) : diffL G G = [] := by
  have nGV := hG.sV.nd ordV
  have nGE := hG.sE.nd Go.Pal.ordE
  have h1 : G.V.filter (goneV G) = [] := List.filter_eq_nil_iff.2 fun p hp => by
    unfold goneV
    rw [look_some.2 ⟨p, hp, rfl⟩]
    simp
  have h2 : G.E.filter (goneE G) = [] := List.filter_eq_nil_iff.2 fun p hp => by
    unfold goneE
    rw [look_some (l := G.E).2 ⟨p, hp, rfl⟩]
    simp
  have h3 : G.V.flatMap (chgOfV (look G.V)) = [] := List.flatMap_eq_nil_iff.2 fun p hp => by
    unfold chgOfV
    rw [(look_mem nGV).2 (show (p.1, p.2) ∈ G.V from hp)]
    simp [chgV, chgs, vMark, vWeigh]
  have h4 : G.E.flatMap (chgOfE (look G.E)) = [] := List.flatMap_eq_nil_iff.2 fun p hp => by
    unfold chgOfE
    rw [(look_mem nGE).2 (show (p.1, p.2) ∈ G.E from hp)]
    simp [chgE, chgs, eMark, eWeigh]
  unfold diffL
  rw [h1, h2, h3, h4]
  rfl
theorem diff_none : diffL Gr.none Gr.none = [] := rfl
end Go.Pal
