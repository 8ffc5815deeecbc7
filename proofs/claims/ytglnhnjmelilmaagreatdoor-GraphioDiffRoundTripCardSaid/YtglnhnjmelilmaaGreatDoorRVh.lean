/- Plain: the edits that lead from one graph to another; applied in order, none is refused .. -/
import Derived.Test.YtglnhnjmelilmaaGreatDoorRJpl
import Derived.Test.YtglnhnjmelilmaaGreatDoorRVa
import Derived.Test.YtglnhnjmelilmaaGreatDoorRGrH
set_option maxHeartbeats 4000000
set_option maxRecDepth 10000
set_option linter.all false
namespace Go.Pal
open Go
section
variable {α β : Type} [DecidableEq α]
theorem look_cons (p : α × β) (l : List (α × β)) (y : α) : look (p :: l) y = if p.1 = y then some p.2 else look l y := by
 unfold look
 rw [List.find?_cons]
 by_cases h : p.1 = y
 · rw [if_pos h, decide_eq_true h]; rfl
 · rw [if_neg h, decide_eq_false h]
theorem look_filter_key (q : α → Bool) (y : α) : ∀ l : List (α × β), look (l.filter fun p => q p.1) y = if q y = true then look l y else none
 | [] => by simp [look]
 | p :: r => by
   rw [List.filter_cons]
   by_cases hq : q p.1 = true
   · rw [if_pos hq, look_cons, look_filter_key q y r, look_cons]
     by_cases h : p.1 = y
     · rw [if_pos h, if_pos h, ← h, if_pos hq]
     · rw [if_neg h, if_neg h]
   · rw [if_neg hq, look_filter_key q y r, look_cons]
     by_cases h : p.1 = y
     · rw [← h, if_neg hq, if_neg hq]
     · rw [if_neg h]
theorem srt_look_eq {lt : α → α → Bool} (O : Ord lt) {l m : List (α × β)} (h : Srt lt l) (h' : Srt lt m) (he : ∀ x, look l x = look m x) : l = m := by
 have hn := h.nd O
 have hn' := h'.nd O
 refine srt_unique O h h' ?_
 classical
 refine (List.perm_ext_iff_of_nodup (hn.imp fun {a b} h e => h (by rw [e])) (hn'.imp fun {a b} h e => h (by rw [e]))).2 fun q => ?_
 obtain ⟨x, t⟩ := q
 rw [← look_mem hn, ← look_mem hn', he]
theorem nodup_len : ∀ {l m : List α}, l.Nodup → (∀ x ∈ l, x ∈ m) → l.length ≤ m.length
 | [], _, _, _ => by simp
 | x :: r, m, h, hs => by
   have hx := hs x (by simp)
   obtain ⟨h1, h2⟩ := List.nodup_cons.1 h
   have := nodup_len (m := m.erase x) h2 fun y hy => (List.mem_erase_of_ne (fun e => h1 (by rw [← e]; exact hy))).2 (hs y (by simp [hy]))
   rw [List.length_erase_of_mem hx] at this
   have := List.length_pos_of_mem hx
   simp only [List.length_cons]
   omega
omit [DecidableEq α] in
theorem keys_nodup {l : List (α × β)} (h : NoDup l) : (l.map (·.1)).Nodup := by
 unfold NoDup at h
 exact List.pairwise_map.2 h
end
def Runs : Gr → List Ed → Gr → Prop
 | A, [], B => A = B
 | A, e :: r, B => A.Ok ∧ e.Wf ∧ A.wrong e = 0 ∧ Runs (A.app e) r B
theorem Runs.trans : ∀ {l : List Ed} {A B : Gr} {m : List Ed} {C : Gr}, Runs A l B → Runs B m C → Runs A (l ++ m) C
 | [], A, B, m, C, h, h' => by
   have h : A = B := h
   rw [h]
   exact h'
 | e :: r, A, B, m, C, h, h' => ⟨h.1, h.2.1, h.2.2.1, Runs.trans h.2.2.2 h'⟩
theorem Runs.one {A : Gr} {e : Ed} (h : A.Ok) (he : e.Wf) (hw : A.wrong e = 0) : Runs A [e] (A.app e) := ⟨h, he, hw, rfl⟩
theorem Runs.at : ∀ {l : List Ed} {A B : Gr}, Runs A l B → ∀ {k : Nat} {e : Ed}, l[k]? = some e → ((l.take k).foldl Gr.app A).Ok ∧ e.Wf ∧ ((l.take k).foldl Gr.app A).wrong e = 0
 | [], _, _, _, k, e, h => by simp at h
 | x :: r, A, B, h, 0, e, he => by
   simp only [List.getElem?_cons_zero, Option.some.injEq] at he
   rw [← he]
   exact ⟨h.1, h.2.1, h.2.2.1⟩
 | x :: r, A, B, h, k + 1, e, he => by
   rw [List.getElem?_cons_succ] at he
   exact Runs.at h.2.2.2 he
theorem Runs.all : ∀ {l : List Ed} {A B : Gr}, Runs A l B → l.foldl Gr.app A = B
 | [], _, _, h => h
 | e :: r, A, B, h => by
   show r.foldl Gr.app (A.app e) = B
   exact Runs.all h.2.2.2
theorem Runs.allTake {l : List Ed} {A B : Gr} (h : Runs A l B) : (l.take l.length).foldl Gr.app A = B := by rw [List.take_length]; exact h.all
theorem inI_1 : InI 1 := ⟨by decide, by decide⟩
theorem inI_3 : InI 3 := ⟨by decide, by decide⟩
theorem inI_4 : InI 4 := ⟨by decide, by decide⟩
theorem inI_5 : InI 5 := ⟨by decide, by decide⟩
theorem inI_6 : InI 6 := ⟨by decide, by decide⟩
theorem inI_7 : InI 7 := ⟨by decide, by decide⟩
theorem zero256 : (0 : Nat) < 256 := by decide
theorem InI.small {n : Int} (h0 : -1048576 ≤ n) (h1 : n ≤ 1048576) : InI n := ⟨by omega, by omega⟩
theorem app_of {A : Gr} {e : Ed} (h : A.wrong e = 0) : A.app e = A.doit e := by unfold Gr.app; rw [if_pos h]
theorem idB_of {n : Int} (h : 0 ≤ n ∧ n < 1024) : idB n = true := by unfold idB; simp; omega
theorem heavy_of {n : Int} (h : -1048576 ≤ n ∧ n ≤ 1048576) : heavyB n = false := by unfold heavyB; simp; omega
theorem Gr.Ok.idOf {A : Gr} (h : A.Ok) {x : Int} (hx : (look A.V x).isSome = true) : 0 ≤ x ∧ x < 1024 := by
 obtain ⟨p, hp, rfl⟩ := look_some.1 hx
 exact h.ids p hp
theorem Gr.Ok.endsOf {A : Gr} (h : A.Ok) {e : Int × Int} (he : (look A.E e).isSome = true) : e.1 < e.2 ∧ (look A.V e.1).isSome = true ∧ (look A.V e.2).isSome = true := by
 obtain ⟨p, hp, rfl⟩ := look_some.1 he
 exact h.ends p hp
def eRm (x : Int) : Ed := ⟨1, x, 0, 0, 0⟩
def ePt (e : Int × Int) : Ed := ⟨3, e.1, e.2, 0, 0⟩
theorem rm_step {A : Gr} (h : A.Ok) {x : Int} (hx : (look A.V x).isSome = true) :
   (eRm x).Wf ∧ A.wrong (eRm x) = 0 ∧ (∀ y, look (A.app (eRm x)).V y = if y = x then none else look A.V y) ∧ (∀ e : Int × Int, look (A.app (eRm x)).E e = if e.1 = x ∨ e.2 = x then none else look A.E e) := by
 have hi := h.idOf hx
 have hw : A.wrong (eRm x) = 0 := by
   have e1 : idB (eRm x).u = true := idB_of hi
   have e4 : (eRm x).pairs = false := rfl
   have e5 : (eRm x).weighs = false := rfl
   have e6 : (look A.V (eRm x).u).isSome = true := hx
   have e7 : (eRm x).op = 1 := rfl
   unfold Gr.wrong
   simp [e1, e4, e5, e6, e7]
 refine ⟨⟨inI_1, InI.small (by show _ ≤ x; omega) (by show x ≤ _; omega), inI_0, zero256, inI_0⟩, hw, ?_, ?_⟩
 · intro y
   rw [app_of hw]
   show look (del x A.V) y = _
   rw [look_del (h.sV.nd ordV)]
 · intro e
   rw [app_of hw]
   show look (A.E.filter fun p => !(decide (p.1.1 = x) || decide (p.1.2 = x))) e = _
   rw [look_filter_key (fun e : Int × Int => !(decide (e.1 = x) || decide (e.2 = x)))]
   by_cases h1 : e.1 = x <;> by_cases h2 : e.2 = x <;> simp [h1, h2]
theorem rm_runs : ∀ (l : List Int) (A : Gr), A.Ok → l.Nodup → (∀ x ∈ l, (look A.V x).isSome = true) →
   ∃ B, Runs A (l.map eRm) B ∧ B.Ok ∧ (∀ y, look B.V y = if y ∈ l then none else look A.V y) ∧ (∀ e : Int × Int, look B.E e = if e.1 ∈ l ∨ e.2 ∈ l then none else look A.E e)
 | [], A, h, _, _ => ⟨A, rfl, h, by simp, by simp⟩
 | x :: r, A, h, hn, hs => by
   obtain ⟨hx, hn⟩ := List.nodup_cons.1 hn
   obtain ⟨s1, s2, s3, s4⟩ := rm_step h (hs x (by simp))
   obtain ⟨B, b1, b2, b3, b4⟩ := rm_runs r (A.app (eRm x)) (h.app s1) hn fun y hy => by
     have hne : ¬ y = x := fun e => hx (by rw [← e]; exact hy)
     rw [s3, if_neg hne]
     exact hs y (by simp [hy])
   refine ⟨B, ⟨h, s1, s2, b1⟩, b2, fun y => ?_, fun e => ?_⟩
   · rw [b3, s3]
     by_cases h1 : y = x <;> by_cases h2 : y ∈ r <;> simp [h1, h2]
   · rw [b4, s4]
     simp only [List.mem_cons]
     by_cases h1 : e.1 ∈ r ∨ e.2 ∈ r
     · rw [if_pos h1, if_pos (by rcases h1 with h1 | h1 <;> simp [h1])]
     · rw [if_neg h1]
       by_cases h2 : e.1 = x ∨ e.2 = x
       · rw [if_pos h2, if_pos (by rcases h2 with h2 | h2 <;> simp [h2])]
       · rw [if_neg h2, if_neg]
         rintro ((h3 | h3) | (h3 | h3))
         · exact h2 (.inl h3)
         · exact h1 (.inl h3)
         · exact h2 (.inr h3)
         · exact h1 (.inr h3)
theorem pt_step {A : Gr} (h : A.Ok) {e : Int × Int} (he : (look A.E e).isSome = true) :
   (ePt e).Wf ∧ A.wrong (ePt e) = 0 ∧ (A.app (ePt e)).V = A.V ∧ (∀ y, look (A.app (ePt e)).E y = if y = e then none else look A.E y) := by
 obtain ⟨hlt, h1, h2⟩ := h.endsOf he
 have i1 := h.idOf h1
 have i2 := h.idOf h2
 have hb : btw (ePt e).u (ePt e).v = e := by rw [show (ePt e).u = e.1 from rfl, show (ePt e).v = e.2 from rfl, btw_of hlt]
 have hw : A.wrong (ePt e) = 0 := by
   have e1 : idB (ePt e).u = true := idB_of i1
   have e2 : idB (ePt e).v = true := idB_of i2
   have e4 : (ePt e).pairs = true := rfl
   have e5 : (ePt e).weighs = false := rfl
   have e6 : (look A.E e).isSome = true := he
   have e7 : (ePt e).op = 3 := rfl
   have e8 : ¬ (ePt e).u = (ePt e).v := by show ¬ e.1 = e.2; omega
   unfold Gr.wrong
   rw [hb]
   simp only [e1, e2, e4, e5, e6, e7, decide_eq_false e8]
   simp
 refine ⟨⟨inI_3, InI.small (by show _ ≤ e.1; omega) (by show e.1 ≤ _; omega), InI.small (by show _ ≤ e.2; omega) (by show e.2 ≤ _; omega), zero256, inI_0⟩, hw, ?_, ?_⟩
 · rw [app_of hw]
   rfl
 · intro y
   rw [app_of hw]
   show look (del (btw (ePt e).u (ePt e).v) A.E) y = _
   rw [hb, look_del (h.sE.nd Go.Pal.ordE)]
theorem pt_runs : ∀ (l : List (Int × Int)) (A : Gr), A.Ok → l.Nodup → (∀ e ∈ l, (look A.E e).isSome = true) →
   ∃ B, Runs A (l.map ePt) B ∧ B.Ok ∧ B.V = A.V ∧ (∀ y, look B.E y = if y ∈ l then none else look A.E y)
 | [], A, h, _, _ => ⟨A, rfl, h, rfl, by simp⟩
 | x :: r, A, h, hn, hs => by
   obtain ⟨hx, hn⟩ := List.nodup_cons.1 hn
   obtain ⟨s1, s2, s3, s4⟩ := pt_step h (hs x (by simp))
   obtain ⟨B, b1, b2, b3, b4⟩ := pt_runs r (A.app (ePt x)) (h.app s1) hn fun y hy => by
     have hne : ¬ y = x := fun e => hx (by rw [← e]; exact hy)
     rw [s4, if_neg hne]
     exact hs y (by simp [hy])
   refine ⟨B, ⟨h, s1, s2, b1⟩, b2, b3.trans s3, fun y => ?_⟩
   rw [b4, s4]
   by_cases h1 : y = x <;> by_cases h2 : y ∈ r <;> simp [h1, h2]
def VNew (A : Gr) (p : Int × Th) : Prop := (0 ≤ p.1 ∧ p.1 < 1024) ∧ ThOk p.2 ∧ look A.V p.1 = none
theorem add_step {A : Gr} (h : A.Ok) {p : Int × Th} (hp : VNew A p) :
   (vEd p).Wf ∧ A.wrong (vEd p) = 0 ∧ (A.app (vEd p)).E = A.E ∧ (∀ y, look (A.app (vEd p)).V y = if y = p.1 then some p.2 else look A.V y) := by
 obtain ⟨h1, ⟨h2, h3, h4⟩, h5⟩ := hp
 have hw : A.wrong (vEd p) = 0 := by
   have e1 : idB (vEd p).u = true := idB_of h1
   have e2 : heavyB (vEd p).wt = false := heavy_of ⟨h3, h4⟩
   have e3 : (look A.V (vEd p).u).isSome = false := by rw [show (vEd p).u = p.1 from rfl, h5]; rfl
   have e4 : (vEd p).pairs = false := rfl
   have e5 : (vEd p).op = 0 := rfl
   unfold Gr.wrong
   simp [e1, e2, e3, e4, e5]
 refine ⟨⟨inI_0, InI.small (by show _ ≤ p.1; omega) (by show p.1 ≤ _; omega), inI_0, h2, InI.small h3 h4⟩, hw, ?_, ?_⟩
 · rw [app_of hw]
   rfl
 · intro y
   rw [app_of hw]
   show look (putS ltV p.1 (p.2.1, p.2.2) A.V) y = _
   rw [look_putS ordV _ _ h.sV]
theorem add_runs : ∀ (l : List (Int × Th)) (A : Gr), A.Ok → NoDup l → (∀ p ∈ l, VNew A p) →
   ∃ B, Runs A (l.map vEd) B ∧ B.Ok ∧ B.E = A.E ∧ (∀ y, look B.V y = (look l y).or (look A.V y))
 | [], A, h, _, _ => ⟨A, rfl, h, rfl, fun y => by simp [look]⟩
 | x :: r, A, h, hn, hs => by
   unfold NoDup at hn
   rw [List.pairwise_cons] at hn
   obtain ⟨s1, s2, s3, s4⟩ := add_step h (hs x (by simp))
   obtain ⟨B, b1, b2, b3, b4⟩ := add_runs r (A.app (vEd x)) (h.app s1) hn.2 fun y hy => by
     obtain ⟨h1, h2, h3⟩ := hs y (by simp [hy])
     refine ⟨h1, h2, ?_⟩
     rw [s4, if_neg fun e => hn.1 y hy e.symm]
     exact h3
   refine ⟨B, ⟨h, s1, s2, b1⟩, b2, b3.trans s3, fun y => ?_⟩
   rw [b4, s4, look_cons]
   by_cases h1 : x.1 = y
   · have : look r y = none := look_none.2 fun q hq e => hn.1 q hq (h1.trans e.symm)
     rw [if_pos h1, this, if_pos h1.symm]
     simp
   · rw [if_neg h1, if_neg fun e => h1 e.symm]
def chgs (mark weigh : Ed) (t : Th) : List Ed := (if mark.lab ≠ t.1 then [mark] else []) ++ (if weigh.wt ≠ t.2 then [weigh] else [])
def vMark (p : Int × Th) : Ed := ⟨4, p.1, 0, p.2.1, 0⟩
def vWeigh (p : Int × Th) : Ed := ⟨5, p.1, 0, 0, p.2.2⟩
def chgV (p : Int × Th) (t : Th) : List Ed := chgs (vMark p) (vWeigh p) t
theorem setV_step {A : Gr} (h : A.Ok) {e : Ed} {t s : Th} (hl : look A.V e.u = some t) (he : e.Wf) (ho : e.op = 4 ∧ s = (e.lab, t.2) ∨ e.op = 5 ∧ heavyB e.wt = false ∧ s = (t.1, e.wt)) :
   A.wrong e = 0 ∧ (A.app e).E = A.E ∧ (∀ y, look (A.app e).V y = if y = e.u then some s else look A.V y) := by
 have hs : (look A.V e.u).isSome = true := by rw [hl]; rfl
 have hi := h.idOf hs
 have e1 : idB e.u = true := idB_of hi
 rcases ho with ⟨ho, rfl⟩ | ⟨ho, hh, rfl⟩
 · have e4 : e.pairs = false := by unfold Ed.pairs; simp [ho]
   have e5 : e.weighs = false := by unfold Ed.weighs; simp [ho]
   have hw : A.wrong e = 0 := by
     unfold Gr.wrong
     simp [e1, e4, e5, hs, ho]
   have hd : A.doit e = { A with V := putS ltV e.u (e.lab, ((look A.V e.u).getD (0, 0)).2) A.V } := by
     unfold Gr.doit
     simp [ho]
   rw [app_of hw, hd]
   refine ⟨hw, rfl, fun y => ?_⟩
   show look (putS ltV e.u _ A.V) y = _
   rw [look_putS ordV _ _ h.sV, hl]
   rfl
 · have e4 : e.pairs = false := by unfold Ed.pairs; simp [ho]
   have hw : A.wrong e = 0 := by
     unfold Gr.wrong
     simp [e1, e4, hs, ho, hh]
   have hd : A.doit e = { A with V := putS ltV e.u (((look A.V e.u).getD (0, 0)).1, e.wt) A.V } := by
     unfold Gr.doit
     simp [ho]
   rw [app_of hw, hd]
   refine ⟨hw, rfl, fun y => ?_⟩
   show look (putS ltV e.u _ A.V) y = _
   rw [look_putS ordV _ _ h.sV, hl]
   rfl
theorem chgV_runs {A : Gr} (h : A.Ok) {p : Int × Th} {t : Th} (hl : look A.V p.1 = some t) (hp : ThOk p.2) :
   ∃ B, Runs A (chgV p t) B ∧ B.Ok ∧ B.E = A.E ∧ (∀ y, look B.V y = if y = p.1 then some p.2 else look A.V y) := by
 obtain ⟨h1, h2, h3⟩ := hp
 have hi := h.idOf (x := p.1) (by rw [hl]; rfl)
 have iu : InI p.1 := InI.small (by omega) (by omega)
 have wm : (vMark p).Wf := ⟨inI_4, iu, inI_0, h1, inI_0⟩
 have ww : (vWeigh p).Wf := ⟨inI_5, iu, inI_0, zero256, InI.small h2 h3⟩
 have hm : ∃ C, Runs A (if (vMark p).lab ≠ t.1 then [vMark p] else []) C ∧ C.Ok ∧ C.E = A.E ∧ (∀ y, look C.V y = if y = p.1 then some (p.2.1, t.2) else look A.V y) := by
   by_cases hc : (vMark p).lab ≠ t.1
   · rw [if_pos hc]
     obtain ⟨s1, s2, s3⟩ := setV_step h (e := vMark p) (s := (p.2.1, t.2)) hl wm (.inl ⟨rfl, rfl⟩)
     exact ⟨_, .one h wm s1, h.app wm, s2, s3⟩
   · rw [if_neg hc]
     refine ⟨A, rfl, h, rfl, fun y => ?_⟩
     by_cases hy : y = p.1
     · rw [if_pos hy, hy, hl, show p.2.1 = t.1 from Decidable.not_not.1 hc]
     · rw [if_neg hy]
 obtain ⟨C, c1, c2, c3, c4⟩ := hm
 have hlC : look C.V p.1 = some (p.2.1, t.2) := by rw [c4, if_pos rfl]
 by_cases hc : (vWeigh p).wt ≠ t.2
 · obtain ⟨s1, s2, s3⟩ := setV_step c2 (e := vWeigh p) (s := (p.2.1, p.2.2)) hlC ww (.inr ⟨rfl, heavy_of ⟨h2, h3⟩, rfl⟩)
   refine ⟨C.app (vWeigh p), ?_, c2.app ww, s2.trans c3, fun y => ?_⟩
   · unfold chgV chgs
     rw [if_pos hc]
     exact c1.trans (.one c2 ww s1)
   · rw [s3]
     show (if y = p.1 then _ else _) = _
     by_cases hy : y = p.1
     · rw [if_pos hy, if_pos hy]
     · rw [if_neg hy, c4, if_neg hy, if_neg hy]
 · refine ⟨C, ?_, c2, c3, fun y => ?_⟩
   · unfold chgV chgs
     rw [if_neg hc, List.append_nil]
     exact c1
   · rw [c4, show t.2 = p.2.2 from (Decidable.not_not.1 hc).symm]
def chgOfV (f : Int → Option Th) (p : Int × Th) : List Ed := match f p.1 with | none => [] | some t => chgV p t
theorem chgVs_runs (f : Int → Option Th) : ∀ (l : List (Int × Th)) (A : Gr), A.Ok → NoDup l → (∀ p ∈ l, ThOk p.2) → (∀ p ∈ l, look A.V p.1 = (f p.1).or (some p.2)) →
   ∃ B, Runs A (l.flatMap (chgOfV f)) B ∧ B.Ok ∧ B.E = A.E ∧ (∀ y, look B.V y = (look l y).or (look A.V y))
 | [], A, h, _, _, _ => ⟨A, rfl, h, rfl, fun y => by simp [look]⟩
 | x :: r, A, h, hn, ht, hs => by
   unfold NoDup at hn
   rw [List.pairwise_cons] at hn
   have hx := hs x (by simp)
   have h0 : ∃ C, Runs A (chgOfV f x) C ∧ C.Ok ∧ C.E = A.E ∧ (∀ y, look C.V y = if y = x.1 then some x.2 else look A.V y) := by
     unfold chgOfV
     cases hf : f x.1 with
     | none =>
       rw [hf] at hx
       refine ⟨A, rfl, h, rfl, fun y => ?_⟩
       by_cases hy : y = x.1
       · rw [if_pos hy, hy, hx]; rfl
       · rw [if_neg hy]
     | some t =>
       rw [hf] at hx
       exact chgV_runs h hx (ht x (by simp))
   obtain ⟨C, c1, c2, c3, c4⟩ := h0
   obtain ⟨B, b1, b2, b3, b4⟩ := chgVs_runs f r C c2 hn.2 (fun p hp => ht p (by simp [hp])) fun p hp => by
     rw [c4, if_neg fun e => hn.1 p hp e.symm]
     exact hs p (by simp [hp])
   refine ⟨B, ?_, b2, b3.trans c3, fun y => ?_⟩
   · rw [List.flatMap_cons]
     exact c1.trans b1
   · rw [b4, c4, look_cons]
     by_cases h1 : x.1 = y
     · have : look r y = none := look_none.2 fun q hq e => hn.1 q hq (h1.trans e.symm)
       rw [if_pos h1, this, if_pos h1.symm]
       simp
     · rw [if_neg h1, if_neg fun e => h1 e.symm]
def eMark (p : (Int × Int) × Th) : Ed := ⟨6, p.1.1, p.1.2, p.2.1, 0⟩
def eWeigh (p : (Int × Int) × Th) : Ed := ⟨7, p.1.1, p.1.2, 0, p.2.2⟩
def chgE (p : (Int × Int) × Th) (t : Th) : List Ed := chgs (eMark p) (eWeigh p) t
theorem setE_step {A : Gr} (h : A.Ok) {e : Ed} {t s : Th} (hlt : e.u < e.v) (hl : look A.E (e.u, e.v) = some t) (ho : e.op = 6 ∧ s = (e.lab, t.2) ∨ e.op = 7 ∧ heavyB e.wt = false ∧ s = (t.1, e.wt)) :
   A.wrong e = 0 ∧ (A.app e).V = A.V ∧ (∀ y, look (A.app e).E y = if y = (e.u, e.v) then some s else look A.E y) := by
 have hs : (look A.E (e.u, e.v)).isSome = true := by rw [hl]; rfl
 obtain ⟨-, g1, g2⟩ := h.endsOf hs
 have e1 : idB e.u = true := idB_of (h.idOf g1)
 have e2 : idB e.v = true := idB_of (h.idOf g2)
 have hne : ¬ e.u = e.v := by omega
 have hb := btw_of hlt
 rcases ho with ⟨ho, rfl⟩ | ⟨ho, hh, rfl⟩
 · have e4 : e.pairs = true := by unfold Ed.pairs; simp [ho]
   have e5 : e.weighs = false := by unfold Ed.weighs; simp [ho]
   have hw : A.wrong e = 0 := by
     unfold Gr.wrong
     rw [hb]
     simp [e1, e2, e4, e5, hs, ho, hne]
   have hd : A.doit e = { A with E := putS ltE (e.u, e.v) (e.lab, ((look A.E (e.u, e.v)).getD (0, 0)).2) A.E } := by
     unfold Gr.doit
     rw [hb]
     simp [ho]
   rw [app_of hw, hd]
   refine ⟨hw, rfl, fun y => ?_⟩
   show look (putS ltE (e.u, e.v) _ A.E) y = _
   rw [look_putS Go.Pal.ordE _ _ h.sE, hl]
   rfl
 · have e4 : e.pairs = true := by unfold Ed.pairs; simp [ho]
   have hw : A.wrong e = 0 := by
     unfold Gr.wrong
     rw [hb]
     simp [e1, e2, e4, hs, ho, hne, hh]
   have hd : A.doit e = { A with E := putS ltE (e.u, e.v) (((look A.E (e.u, e.v)).getD (0, 0)).1, e.wt) A.E } := by
     unfold Gr.doit
     rw [hb]
     simp [ho]
   rw [app_of hw, hd]
   refine ⟨hw, rfl, fun y => ?_⟩
   show look (putS ltE (e.u, e.v) _ A.E) y = _
   rw [look_putS Go.Pal.ordE _ _ h.sE, hl]
   rfl
theorem chgE_runs {A : Gr} (h : A.Ok) {p : (Int × Int) × Th} {t : Th} (hl : look A.E p.1 = some t) (hp : ThOk p.2) :
   ∃ B, Runs A (chgE p t) B ∧ B.Ok ∧ B.V = A.V ∧ (∀ y, look B.E y = if y = p.1 then some p.2 else look A.E y) := by
 obtain ⟨h1, h2, h3⟩ := hp
 obtain ⟨hlt, g1, g2⟩ := h.endsOf (e := p.1) (by rw [hl]; rfl)
 have i1 := h.idOf g1
 have i2 := h.idOf g2
 have iu : InI p.1.1 := InI.small (by omega) (by omega)
 have iv : InI p.1.2 := InI.small (by omega) (by omega)
 have wm : (eMark p).Wf := ⟨inI_6, iu, iv, h1, inI_0⟩
 have ww : (eWeigh p).Wf := ⟨inI_7, iu, iv, zero256, InI.small h2 h3⟩
 have hm : ∃ C, Runs A (if (eMark p).lab ≠ t.1 then [eMark p] else []) C ∧ C.Ok ∧ C.V = A.V ∧ (∀ y, look C.E y = if y = p.1 then some (p.2.1, t.2) else look A.E y) := by
   by_cases hc : (eMark p).lab ≠ t.1
   · rw [if_pos hc]
     obtain ⟨s1, s2, s3⟩ := setE_step h (e := eMark p) (s := (p.2.1, t.2)) hlt hl (.inl ⟨rfl, rfl⟩)
     exact ⟨_, .one h wm s1, h.app wm, s2, s3⟩
   · rw [if_neg hc]
     refine ⟨A, rfl, h, rfl, fun y => ?_⟩
     by_cases hy : y = p.1
     · rw [if_pos hy, hy, hl, show p.2.1 = t.1 from Decidable.not_not.1 hc]
     · rw [if_neg hy]
 obtain ⟨C, c1, c2, c3, c4⟩ := hm
 have hlC : look C.E p.1 = some (p.2.1, t.2) := by rw [c4, if_pos rfl]
 by_cases hc : (eWeigh p).wt ≠ t.2
 · obtain ⟨s1, s2, s3⟩ := setE_step c2 (e := eWeigh p) (s := (p.2.1, p.2.2)) hlt hlC (.inr ⟨rfl, heavy_of ⟨h2, h3⟩, rfl⟩)
   refine ⟨C.app (eWeigh p), ?_, c2.app ww, s2.trans c3, fun y => ?_⟩
   · unfold chgE chgs
     rw [if_pos hc]
     exact c1.trans (.one c2 ww s1)
   · rw [s3]
     show (if y = p.1 then _ else _) = _
     by_cases hy : y = p.1
     · rw [if_pos hy, if_pos hy]
     · rw [if_neg hy, c4, if_neg hy, if_neg hy]
 · refine ⟨C, ?_, c2, c3, fun y => ?_⟩
   · unfold chgE chgs
     rw [if_neg hc, List.append_nil]
     exact c1
   · rw [c4, show t.2 = p.2.2 from (Decidable.not_not.1 hc).symm]
def chgOfE (f : Int × Int → Option Th) (p : (Int × Int) × Th) : List Ed := match f p.1 with | none => [eEd p] | some t => chgE p t
theorem chgEs_runs (f : Int × Int → Option Th) {H : Gr} (hH : H.Ok) : ∀ (l : List ((Int × Int) × Th)) (A : Gr), A.Ok → NoDup l → (∀ p ∈ l, p ∈ H.E) → (∀ p ∈ l, look A.E p.1 = f p.1) → (∀ y, (look A.E y).isSome = true → (look H.E y).isSome = true) → (∀ x, (look H.V x).isSome = true → (look A.V x).isSome = true) →
   ∃ B, Runs A (l.flatMap (chgOfE f)) B ∧ B.Ok ∧ B.V = A.V ∧ (∀ y, look B.E y = (look l y).or (look A.E y))
 | [], A, h, _, _, _, _, _ => ⟨A, rfl, h, rfl, fun y => by simp [look]⟩
 | x :: r, A, h, hn, ht, hs, hsub, hV => by
   unfold NoDup at hn
   rw [List.pairwise_cons] at hn
   have hx := hs x (by simp)
   have hxH := ht x (by simp)
   have hthx := hH.thE x hxH
   have h0 : ∃ C, Runs A (chgOfE f x) C ∧ C.Ok ∧ C.V = A.V ∧ (∀ y, look C.E y = if y = x.1 then some x.2 else look A.E y) := by
     unfold chgOfE
     cases hf : f x.1 with
     | none =>
       rw [hf] at hx
       obtain ⟨hlt, g1, g2⟩ := hH.ends x hxH
       have g1' := hV _ g1
       have g2' := hV _ g2
       have hlen : A.E.length < 1024 := by
         have hnd : (x.1 :: A.E.map (·.1)).Nodup := List.nodup_cons.2 ⟨fun hm => by
           obtain ⟨q, hq, e⟩ := List.mem_map.1 hm
           exact look_none.1 hx q hq e, keys_nodup (h.sE.nd Go.Pal.ordE)⟩
         have := nodup_len (m := H.E.map (·.1)) hnd fun y hy => by
           rcases List.mem_cons.1 hy with rfl | hy
           · exact List.mem_map.2 ⟨x, hxH, rfl⟩
           · obtain ⟨q, hq, e⟩ := List.mem_map.1 hy
             obtain ⟨q', hq', e'⟩ := look_some.1 (hsub y (look_some.2 ⟨q, hq, e⟩))
             exact List.mem_map.2 ⟨q', hq', e'⟩
         simp only [List.length_cons, List.length_map] at this
         have := hH.most
         omega
       have i1 := h.idOf g1'
       have i2 := h.idOf g2'
       have hb : btw (eEd x).u (eEd x).v = x.1 := by rw [show (eEd x).u = x.1.1 from rfl, show (eEd x).v = x.1.2 from rfl, btw_of hlt]
       have hwf := eEd_wf hH hxH
       have hw : A.wrong (eEd x) = 0 := by
         have e0 : idB (eEd x).u = true := idB_of i1
         have e1 : idB (eEd x).v = true := idB_of i2
         have e2 : heavyB (eEd x).wt = false := heavy_of hthx.2
         have e3 : (look A.E x.1).isSome = false := by rw [hx]; rfl
         have e4 : (eEd x).pairs = true := rfl
         have e5 : (eEd x).op = 2 := rfl
         have e6 : (look A.V (eEd x).u).isSome = true := g1'
         have e7 : (look A.V (eEd x).v).isSome = true := g2'
         have e8 : ¬ (eEd x).u = (eEd x).v := by show ¬ x.1.1 = x.1.2; omega
         have e9 : ¬ 1024 ≤ A.E.length := by omega
         unfold Gr.wrong
         rw [hb]
         simp only [e0, e1, e2, e3, e4, e5, e6, e7, decide_eq_false e8, decide_eq_false e9]
         simp
       refine ⟨_, .one h hwf hw, h.app hwf, ?_, fun y => ?_⟩
       · rw [app_of hw]
         rfl
       · rw [app_of hw]
         show look (putS ltE (btw (eEd x).u (eEd x).v) (x.2.1, x.2.2) A.E) y = _
         rw [hb, look_putS Go.Pal.ordE _ _ h.sE]
     | some t =>
       rw [hf] at hx
       exact chgE_runs h hx hthx
   obtain ⟨C, c1, c2, c3, c4⟩ := h0
   obtain ⟨B, b1, b2, b3, b4⟩ := chgEs_runs f hH r C c2 hn.2 (fun p hp => ht p (by simp [hp])) (fun p hp => by
     rw [c4, if_neg fun e => hn.1 p hp e.symm]
     exact hs p (by simp [hp])) (fun y hy => by
     rw [c4] at hy
     by_cases h1 : y = x.1
     · rw [h1]
       exact look_some.2 ⟨x, hxH, rfl⟩
     · rw [if_neg h1] at hy
       exact hsub y hy) (fun y hy => by rw [c3]; exact hV y hy)
   refine ⟨B, ?_, b2, b3.trans c3, fun y => ?_⟩
   · rw [List.flatMap_cons]
     exact c1.trans b1
   · rw [b4, c4, look_cons]
     by_cases h1 : x.1 = y
     · have : look r y = none := look_none.2 fun q hq e => hn.1 q hq (h1.trans e.symm)
       rw [if_pos h1, this, if_pos h1.symm]
       simp
     · rw [if_neg h1, if_neg fun e => h1 e.symm]
def goneV (H : Gr) (p : Int × Th) : Bool := !(look H.V p.1).isSome
def goneE (H : Gr) (p : (Int × Int) × Th) : Bool := (look H.V p.1.1).isSome && (look H.V p.1.2).isSome && !(look H.E p.1).isSome
def diffL (G H : Gr) : List Ed :=
 (G.V.filter (goneV H)).map (fun p => eRm p.1) ++ (G.E.filter (goneE H)).map (fun p => ePt p.1) ++ (H.V.filter (goneV G)).map vEd ++ H.V.flatMap (chgOfV (look G.V)) ++ H.E.flatMap (chgOfE (look G.E))
theorem diff_runs {G H : Gr} (hG : G.Ok) (hH : H.Ok) : Runs G (diffL G H) H := by
 have nGV := hG.sV.nd ordV
 have nHV := hH.sV.nd ordV
 have nGE := hG.sE.nd Go.Pal.ordE
 have nHE := hH.sE.nd Go.Pal.ordE
 -- vertices taken away
 obtain ⟨A, a1, a2, a3, a4⟩ := rm_runs ((G.V.filter (goneV H)).map (·.1)) G hG (keys_nodup (nGV.filter _)) fun x hx => by
   obtain ⟨p, hp, rfl⟩ := List.mem_map.1 hx
   exact look_some.2 ⟨p, (List.mem_filter.1 hp).1, rfl⟩
 have hA : ∀ y, look A.V y = if (look H.V y).isSome = true then look G.V y else none := fun y => by
   rw [a3]
   by_cases hm : y ∈ (G.V.filter (goneV H)).map (·.1)
   · rw [if_pos hm]
     obtain ⟨p, hp, rfl⟩ := List.mem_map.1 hm
     have := (List.mem_filter.1 hp).2
     unfold goneV at this
     rw [if_neg (by simpa using this)]
   · rw [if_neg hm]
     by_cases hh : (look H.V y).isSome = true
     · rw [if_pos hh]
     · rw [if_neg hh]
       refine look_none.2 fun p hp e => hm (List.mem_map.2 ⟨p, List.mem_filter.2 ⟨hp, ?_⟩, e⟩)
       unfold goneV
       rw [e]
       simpa using hh
 have hmem : ∀ y, (look G.V y).isSome = true → (y ∈ (G.V.filter (goneV H)).map (·.1) ↔ ¬ (look H.V y).isSome = true) := fun y hy => by
   obtain ⟨p, hp, rfl⟩ := look_some.1 hy
   constructor
   · intro hm
     obtain ⟨q, hq, e⟩ := List.mem_map.1 hm
     have := (List.mem_filter.1 hq).2
     unfold goneV at this
     rw [e] at this
     simpa using this
   · intro hn
     refine List.mem_map.2 ⟨p, List.mem_filter.2 ⟨hp, ?_⟩, rfl⟩
     unfold goneV
     simpa using hn
 have hAE : ∀ e : Int × Int, look A.E e = if (look H.V e.1).isSome = true ∧ (look H.V e.2).isSome = true then look G.E e else none := fun e => by
   rw [a4]
   cases hg : look G.E e with
   | none => simp
   | some t =>
     obtain ⟨-, g1, g2⟩ := hG.endsOf (e := e) (by rw [hg]; rfl)
     have q1 := hmem _ g1
     have q2 := hmem _ g2
     by_cases h1 : (look H.V e.1).isSome = true
     · by_cases h2 : (look H.V e.2).isSome = true
       · rw [if_neg (fun h => h.elim (fun h => q1.1 h h1) (fun h => q2.1 h h2)), if_pos ⟨h1, h2⟩]
       · rw [if_pos (.inr (q2.2 h2)), if_neg (fun h => h2 h.2)]
     · rw [if_pos (.inl (q1.2 h1)), if_neg (fun h => h1 h.1)]
 -- edges taken away
 obtain ⟨B, b1, b2, b3, b4⟩ := pt_runs ((G.E.filter (goneE H)).map (·.1)) A a2 (keys_nodup (nGE.filter _)) fun e he => by
   obtain ⟨p, hp, rfl⟩ := List.mem_map.1 he
   obtain ⟨hp, hq⟩ := List.mem_filter.1 hp
   unfold goneE at hq
   simp only [Bool.and_eq_true] at hq
   rw [hAE, if_pos hq.1]
   exact look_some.2 ⟨p, hp, rfl⟩
 have hBE : ∀ e : Int × Int, look B.E e = if (look H.E e).isSome = true then look G.E e else none := fun e => by
   rw [b4, hAE]
   cases hg : look G.E e with
   | none => simp
   | some t =>
     have hmE : e ∈ (G.E.filter (goneE H)).map (·.1) ↔ ((look H.V e.1).isSome = true ∧ (look H.V e.2).isSome = true) ∧ ¬ (look H.E e).isSome = true := by
       constructor
       · intro hm
         obtain ⟨q, hq, rfl⟩ := List.mem_map.1 hm
         have := (List.mem_filter.1 hq).2
         unfold goneE at this
         simpa using this
       · intro hn
         refine List.mem_map.2 ⟨(e, t), List.mem_filter.2 ⟨(look_mem nGE).1 hg, ?_⟩, rfl⟩
         unfold goneE
         simpa using hn
     by_cases h3 : (look H.E e).isSome = true
     · obtain ⟨-, g1, g2⟩ := hH.endsOf h3
       rw [if_neg (fun hm => (hmE.1 hm).2 h3), if_pos ⟨g1, g2⟩, if_pos h3]
     · rw [if_neg h3]
       by_cases h4 : (look H.V e.1).isSome = true ∧ (look H.V e.2).isSome = true
       · rw [if_pos (hmE.2 ⟨h4, h3⟩)]
       · rw [if_neg h4]
         split <;> rfl
 -- vertices added
 obtain ⟨C, c1, c2, c3, c4⟩ := add_runs (H.V.filter (goneV G)) B b2 (nHV.filter _) fun p hp => by
   obtain ⟨hp, hq⟩ := List.mem_filter.1 hp
   refine ⟨hH.ids p hp, hH.thV p hp, ?_⟩
   rw [b3, hA, if_pos (look_some.2 ⟨p, hp, rfl⟩)]
   unfold goneV at hq
   cases hl : look G.V p.1 with
   | none => rfl
   | some t => rw [hl] at hq; simp at hq
 have hC : ∀ y, look C.V y = if (look H.V y).isSome = true then (look G.V y).or (look H.V y) else none := fun y => by
   have hf : look (H.V.filter (goneV G)) y = if (!(look G.V y).isSome) = true then look H.V y else none := look_filter_key (fun y => !(look G.V y).isSome) y H.V
   rw [c4, b3, hA, hf]
   cases hg : look G.V y <;> cases hh : look H.V y <;> simp
 -- labels and weights of vertices
 obtain ⟨D, d1, d2, d3, d4⟩ := chgVs_runs (look G.V) H.V C c2 nHV hH.thV fun p hp => by
   have hl : look H.V p.1 = some p.2 := (look_mem nHV).2 hp
   rw [hC, hl]
   rfl
 have hD : ∀ y, look D.V y = look H.V y := fun y => by
   rw [d4, hC]
   cases hh : look H.V y <;> simp
 have hDE : ∀ e, look D.E e = if (look H.E e).isSome = true then look G.E e else none := fun e => by rw [d3, c3, hBE]
 -- edges
 obtain ⟨F, f1, f2, f3, f4⟩ := chgEs_runs (look G.E) hH H.E D d2 nHE (fun p hp => hp) (fun p hp => by
     rw [hDE, if_pos (look_some.2 ⟨p, hp, rfl⟩)]) (fun y hy => by
     rw [hDE] at hy
     by_cases h1 : (look H.E y).isSome = true
     · exact h1
     · rw [if_neg h1] at hy
       cases hy) (fun x hx => by rw [hD]; exact hx)
 have hF : F = H := by
   have e1 : F.V = H.V := srt_look_eq ordV f2.sV hH.sV fun x => by rw [f3]; exact hD x
   have e2 : F.E = H.E := srt_look_eq Go.Pal.ordE f2.sE hH.sE fun x => by
     rw [f4, hDE]
     cases hh : look H.E x <;> simp
   cases F
   cases H
   simp only at e1 e2
   rw [e1, e2]
 rw [← hF]
 have r1 : Runs G ((G.V.filter (goneV H)).map (fun p => eRm p.1)) A := by rw [List.map_map] at a1; exact a1
 have r2 : Runs A ((G.E.filter (goneE H)).map (fun p => ePt p.1)) B := by rw [List.map_map] at b1; exact b1
 unfold diffL
 rw [hF]
 rw [hF] at f1
 exact (((r1.trans r2).trans c1).trans d1).trans f1
end Go.Pal
namespace Go.Pal
open Go Go.RowKit Go.ChangeMaps
section
variable {α β : Type} {C : Cod α β} {P : Program} {k : TypeId}
theorem ranges_tight {w : World} {R : Value → Option (DataW Unit × List MemPlace)} {b r n : Nat} {D : DataW Unit} {left : Lit → Bool} {cnt : Nat} (h : w.ranges P k R b r n D left cnt) : w.ranges P k R b r (Maps.size D) D left cnt := by
 obtain ⟨es, clock, since, seen, c0, hb, F, hs, rfl, hr⟩ := h
 exact ⟨es, clock, since, seen, c0, hb, F, by simp [Maps.size, length_sorted], rfl, hr⟩
theorem left_congr {w w' : World} {b r : Nat} (hb : w'.heap[b]? = w.heap[b]?) (hr : w'.heap[r]? = w.heap[r]?) : w'.rangeLeft b r = w.rangeLeft b r := by
 unfold World.rangeLeft
 rw [hb, hr]
theorem Rng.next2 [DecidableEq α] {w : World} {b r : Nat} {l rest : List (α × β)} (h : Rng C P k w b r l rest) (G : C.Good P k) (ty : TypeId) :
   (rest = [] ∧ (Instr.next (.pointer (some ⟨r, 0, none⟩)) false ty).run P w = .ok (.tuple #[.bool false]) w) ∨
   ∃ x y r1 r2 w', rest = r1 ++ (x, y) :: r2 ∧ (Instr.next (.pointer (some ⟨r, 0, none⟩)) false ty).run P w = .ok (.tuple #[.bool true, C.key x, C.val y]) w' ∧ Rng C P k w' b r l (r1 ++ r2) ∧ w.grownBy w' (some r) ∧ w'.heap.size = w.heap.size ∧
     (Instr.entry (.pointer (some ⟨r, 0, none⟩))).run P w' = .ok (.tuple #[C.key x, C.val y]) w' ∧ w'.rangeLeft b r < w.rangeLeft b r := by
 rcases h.next G ty with hn | ⟨x, y, r1, r2, w', e1, hrun, h1, h2, h3, h4⟩
 · exact .inl hn
 · refine .inr ⟨x, y, r1, r2, w', e1, hrun, h1, h2, h3, h4, ?_⟩
   obtain ⟨D, left, cnt, hR, -⟩ := h
   rcases hR.next G.keyed ty with ⟨_, _, hrun2⟩ | ⟨key, v, kl, y', w2, cnt', _, _, _, _, hrun2, hr', hlt, _⟩
   · rw [hrun] at hrun2
     simp at hrun2
   · rw [hrun] at hrun2
     injection hrun2 with _ e2
     subst e2
     rw [hR.left_eq, hr'.left_eq]
     exact hlt
theorem Rng.drop [DecidableEq α] {w : World} {b r : Nat} {l rest : List (α × β)} (h : Rng C P k w b r l rest) (G : C.Good P k) {t e : TypeId} (ht : P.underlying t = some (.map k e)) {x : α} (hx : C.ok x) (hxr : ∀ p ∈ rest, p.1 ≠ x) (ty : TypeId) :
   ∃ w', (Builtin.delete_ #[t, k] ty #[.map (some b), C.key x]).run P w = .ok (.tuple #[]) w' ∧ Rng C P k w' b r (Pal.del x l) rest ∧ w.grownBy w' (some b) ∧ w'.heap.size = w.heap.size ∧ w'.rangeLeft b r ≤ w.rangeLeft b r := by
 obtain ⟨D, left, cnt, h1, h2, h3, h4, h5⟩ := h
 obtain ⟨w', cnt', hrun, hr', hle, hg⟩ := h1.drop G.keyed ht (G.keyOf x hx) ty
 have hD' := MRd.del G h2 hx
 refine ⟨w', hrun, ⟨_, _, cnt', by rw [← hD'.size]; exact ranges_tight hr', hD', fun p hp => mem_del.2 ⟨h3 p hp, hxr p hp⟩, h4, fun kk => ?_⟩, hg.grown, ?_, ?_⟩
 · show (left kk && !kk.sameKey (C.kl x)) = _
   rw [h5, Bool.eq_iff_iff, Bool.and_eq_true]
   constructor
   · exact fun h => h.1
   · intro hk
     refine ⟨hk, ?_⟩
     obtain ⟨p, hp, hs⟩ := List.any_eq_true.1 hk
     have := WideAt.sameKey_eq hs
     rw [← this, Maps.sameKey_ne (kl_ne G (h2.ok p (h3 p hp)) hx (hxr p hp))]
     rfl
 · obtain ⟨es, clock, es', clock', -, rfl⟩ := hg
   simp [setBlock]
 · rw [h1.left_eq, hr'.left_eq]
   exact hle
end
theorem struck_end {L E : List ((Int × Int) × Th)} {pd : (Int × Int) × Th → Bool} (hE : Srt ltE E) (hs : L.Sublist E) (hm : ∀ p, p ∈ L ↔ p ∈ E ∧ pd p = false) : L = E.filter fun p => !pd p := by
 have h1 : Srt ltE L := hE.sublist hs
 have h2 : Srt ltE (E.filter fun p => !pd p) := hE.filter _
 refine srt_unique ordE h1 h2 ((List.perm_ext_iff_of_nodup ?_ ?_).2 fun p => ?_)
 · exact (h1.nd ordE).imp fun {a b} h e => h (by rw [e])
 · exact (h2.nd ordE).imp fun {a b} h e => h (by rw [e])
 · rw [hm, List.mem_filter]
   simp
theorem struck_skip {L E r1 r2 : List ((Int × Int) × Th)} {z : (Int × Int) × Th} {pd : (Int × Int) × Th → Bool} (hz : pd z = false) (hm : ∀ p, p ∈ L ↔ p ∈ E ∧ (p ∈ r1 ++ z :: r2 ∨ pd p = false)) : ∀ p, p ∈ L ↔ p ∈ E ∧ (p ∈ r1 ++ r2 ∨ pd p = false) := by
 intro p
 rw [hm]
 simp only [List.mem_append, List.mem_cons]
 constructor
 · rintro ⟨h1, (h2 | rfl | h2) | h2⟩
   · exact ⟨h1, .inl (.inl h2)⟩
   · exact ⟨h1, .inr hz⟩
   · exact ⟨h1, .inl (.inr h2)⟩
   · exact ⟨h1, .inr h2⟩
 · rintro ⟨h1, (h2 | h2) | h2⟩
   · exact ⟨h1, .inl (.inl h2)⟩
   · exact ⟨h1, .inl (.inr (.inr h2))⟩
   · exact ⟨h1, .inr h2⟩
theorem struck_del {L E r1 r2 : List ((Int × Int) × Th)} {z : (Int × Int) × Th} {pd : (Int × Int) × Th → Bool} (hE : NoDup E) (hr : NoDup (r1 ++ z :: r2)) (hzE : z ∈ E) (hz : pd z = true) (hm : ∀ p, p ∈ L ↔ p ∈ E ∧ (p ∈ r1 ++ z :: r2 ∨ pd p = false)) :
   (∀ p ∈ r1 ++ r2, p.1 ≠ z.1) ∧ ∀ p, p ∈ del z.1 L ↔ p ∈ E ∧ (p ∈ r1 ++ r2 ∨ pd p = false) := by
 have h0 : ∀ p ∈ r1 ++ r2, p.1 ≠ z.1 := by
   have h1 := hr.perm List.perm_middle
   unfold NoDup at h1
   rw [List.pairwise_cons] at h1
   exact fun p hp e => h1.1 p hp e.symm
 refine ⟨h0, fun p => ?_⟩
 rw [mem_del, hm]
 simp only [List.mem_append, List.mem_cons] at h0 ⊢
 constructor
 · rintro ⟨⟨h1, (h2 | rfl | h2) | h2⟩, hne⟩
   · exact ⟨h1, .inl (.inl h2)⟩
   · exact absurd rfl hne
   · exact ⟨h1, .inl (.inr h2)⟩
   · exact ⟨h1, .inr h2⟩
 · rintro ⟨h1, h2⟩
   have hne : p.1 ≠ z.1 := by
     rcases h2 with h2 | h2
     · exact h0 p h2
     · intro e
       rw [hE.one h1 hzE e, hz] at h2
       cases h2
   refine ⟨⟨h1, ?_⟩, hne⟩
   rcases h2 with (h2 | h2) | h2
   · exact .inl (.inl h2)
   · exact .inl (.inr (.inr h2))
   · exact .inr h2
end Go.Pal
namespace Go.Proofs.YtglnhnjmelilmaaGreatDoor
open Go Go.RowKit Go.Pal
attribute [local go_sem] Oper.semAt_some
@[go_sem ↓ high] theorem loadEN (a : Addr) : loadVar 159 a = loadLater 159 a := rfl
@[go_sem] theorem loadEN_run (w : World) (a : Addr) : (loadLater 159 a).run Tryz.prog w = rowLoad Tryz.prog 159 a w := rfl
@[go_sem] theorem loadEN_at (w : World) (g : Nat) : rowLoad Tryz.prog 159 ⟨g, 0, none⟩ w = match row? w g with
     | some c => if c.size = 2 then .ok (.agg c) w else laterLoad Tryz.prog 159 ⟨g, 0, none⟩ w
     | none => laterLoad Tryz.prog 159 ⟨g, 0, none⟩ w := load_row Tryz.isAgg159 Tryz.sizeOf159 w g
def onB (u : Int) (p : (Int × Int) × Th) : Bool := decide (p.1.1 = u) || decide (p.1.2 = u)
theorem gdrop1_any (x : Int × Int) (y : Th) (gb : Nat) (e : Ed) (w : World) (hr : row? w gb = some (edC e)) :
   Calls Tryz.prog 185 #[endsV x, thV y, .pointer (some ⟨gb, 0, none⟩)] w fun r w' => r = .returned (.bool (onB e.u (x, y))) ∧ Below w.heap.size w w' := by
 have hl := row?_lt hr
 unfold endsV thV
 obtain ⟨x1, x2⟩ := x
 have hO : Hid (onB e.u ((x1, x2), y) = (decide (x1 = e.u) || decide (x2 = e.u))) := Lib.hid rfl
 rw [hO.out]
 obtain ⟨U, hU⟩ : ∃ U, U = e.u := ⟨_, rfl⟩
 rw [← hU]
 have c1 : ∀ o1 o2, ((w.alloc o1).alloc o2).cell? ⟨gb, 1, none⟩ = some (.int .i64 U) := fun o1 o2 => by rw [hU]; exact (cell?_row (i := 1) ((row?_alloc_past _ _ _ (by simp; omega)).trans ((row?_alloc_past _ _ _ hl).trans hr))).trans rfl
 have hB : ∀ o1 o2, Below w.heap.size w ((w.alloc o1).alloc o2) := fun o1 o2 => ((Below.refl _ w).alloc (Nat.le_refl _) _).alloc (by simp) _
 have HB := Lib.hid hB
 clear hU hr hB
 go_enter Tryz.func185, Tryz.ntmps185
 by_cases h1 : x1 = U
 · subst h1
   go_wp2_with fail
   go_ret
   exact ⟨by simp, HB.out _ _⟩
 · have hd1 : decide (x1 = U) = false := by simpa using h1
   go_wp2_with fail
   go_ret
   exact ⟨by rw [show decide (x1 = U) = false by simpa using h1]; show Ending.returned (.bool (x1 == U || x2 == U)) = _; rw [show (x1 == U) = false by simpa using h1]; rfl, HB.out _ _⟩
theorem gdelE_any (e : Ed) (gb bE : Nat) (E : List ((Int × Int) × Th)) (hE : Srt ltE E) (w : World) (hr : row? w gb = some (edC e)) (hne : gb ≠ bE) (h : Pal.Own CE Tryz.prog 159 w bE E) :
   Calls Tryz.prog 184 #[.map (some bE), .func (.func 185) #[] #[.pointer (some ⟨gb, 0, none⟩)]] w fun r w' => r = .returned (.tuple #[]) ∧ Pal.Own CE Tryz.prog 159 w' bE (E.filter fun p => !onB e.u p) ∧ Same (fun k => k ≠ bE) w w' := by
 have HE := Lib.hid hE
 have HNE := Lib.hid hne
 have hgl := row?_lt hr
 have hbl := h.lt
 have hndE := hE.nd ordE
 have HND := Lib.hid hndE
 have hokE := h.okd
 have HOK := Lib.hid hokE
 obtain ⟨w1, hrg, hR, hb, hs1⟩ := h.range goodE Tryz.underlying154
 have HR := Lib.hid hR
 have HS : Hid (Same (fun k => k < w.heap.size ∧ k ≠ bE) w w1) := Lib.hid ((Same.of_below hb).mono fun k hk _ => hk)
 have HRow := Lib.hid hr
 clear h hR hb hE hne hr hndE hokE
 go_enter Tryz.func184, Tryz.ntmps184
 go_wp2_with fail
 go_loopw [8] (fun _ wr => ∃ L rest, L.Sublist E ∧ (∀ p, p ∈ L ↔ p ∈ E ∧ (p ∈ rest ∨ onB e.u p = false)) ∧ NoDup rest ∧ (∀ p ∈ rest, p ∈ E) ∧ Rng CE Tryz.prog 159 wr bE w.heap.size L rest ∧ Same (fun k => k < w.heap.size ∧ k ≠ bE) w wr) (fun _ wr => wr.rangeLeft bE w.heap.size)
 case atStart => exact ⟨E, E, List.Sublist.refl _, fun p => by simp; exact fun h => .inl h, HND.out, fun p hp => hp, HR.out, HS.out⟩
 case round =>
   obtain ⟨L, rest, hsub, hm, hnd, hin, hRr, hS⟩ := hrel
   have HSub := Lib.hid hsub
   have HS := Lib.hid hS
   have hsz := hS.size
   have hRlt := hRr.lt
   have hRne := hRr.ne
   have hrowr := (row?_congr (hS.block gb hgl ⟨hgl, HNE.out⟩)).trans HRow.out
   rcases hRr.next2 goodE 0 with ⟨rfl, hrun⟩ | ⟨x, y, r1, r2, w2, rfl, hrun, hR2, hgr, hsz2, hen, hlt⟩
   · have hO := hRr.own
     have hL : L = E.filter fun p => !onB e.u p := struck_end HE.out hsub fun p => by rw [hm]; simp
     rw [hL] at hO
     have HO := Lib.hid hO
     clear hsub hm hnd hin hRr hS hL hO hrowr
     go_wp2_with fail
     go_end0
     exact ⟨rfl, HO.out, HS.out.mono fun k hk h => ⟨hk, h⟩⟩
   · have hS2 := same_grown hgr
     have hzE : (x, y) ∈ E := hin _ (by simp)
     have hrow2 := (row?_congr (hS2.block gb (by omega) (by intro e; cases e; omega))).trans hrowr
     have hR2l := hR2.lt
     have HR2 := Lib.hid hR2
     have HS2 : Hid (Same (fun k => k < w.heap.size ∧ k ≠ bE) w w2) := Lib.hid (hS.trans (hS2.mono fun k hk h => fun e => by cases e; omega))
     have HRow2 := Lib.hid hrow2
     have HM := Lib.hid hm
     have HNd := Lib.hid hnd
     have HIn := Lib.hid hin
     have HZ := Lib.hid hzE
     have HLt := Lib.hid hlt
     have hrun1 : (Instr.next (.pointer (some ⟨w.heap.size, 0, none⟩)) false 0).run Tryz.prog wr = .ok (.tuple #[.bool true, .agg #[.int .i64 x.1, .int .i64 x.2], .agg #[.int .u8 (y.1 : Int), .int .i64 y.2]]) w2 := hrun
     have hen1 : (Instr.entry (.pointer (some ⟨w.heap.size, 0, none⟩))).run Tryz.prog w2 = .ok (.tuple #[.agg #[.int .i64 x.1, .int .i64 x.2], .agg #[.int .u8 (y.1 : Int), .int .i64 y.2]]) w2 := hen
     clear hsub hm hnd hin hRr hS hS2 hgr hR2 hrun hen hzE hrow2 hrowr hlt
     go_wp2_with fail
     generalize hW3 : World.alloc (World.alloc w2 _) _ = W3
     have hB3 : Below w2.heap.size w2 W3 := by rw [← hW3]; exact ((Below.refl _ w2).alloc (Nat.le_refl _) _).alloc (by simp) _
     have hr3 : row? W3 wr.heap.size = some #[.int .i64 x.1, .int .i64 x.2] := by
       rw [← hW3, row?_alloc_past _ _ _ (by simp [hsz2]), ← hsz2]
       exact row?_alloc_at _ _ _ _ rfl
     clear hW3
     have hl3 := row?_lt hr3
     have hd := gdrop1_any x y gb e W3 ((row?_below hB3 (by omega)).trans HRow2.out)
     obtain ⟨q, hq⟩ : ∃ q, q = onB e.u (x, y) := ⟨_, rfl⟩
     rw [← hq] at hd
     have HQ := Lib.hid hq
     refine hd.mono ?_
     clear hd hq
     rintro r w4 ⟨rfl, hb4⟩
     have hB4 : Below w2.heap.size w2 w4 := hB3.trans (hb4.mono hB3.size)
     have HR4 := Lib.hid (HR2.out.congr (hB4.block _ (by omega)) (hB4.block _ hR2l))
     have hleft : w4.rangeLeft bE w.heap.size = w2.rangeLeft bE w.heap.size := left_congr (hB4.block _ (by omega)) (hB4.block _ hR2l)
     have HLt4 : Hid (w4.rangeLeft bE w.heap.size < wr.rangeLeft bE w.heap.size) := Lib.hid (by rw [hleft]; exact HLt.out)
     have hr4 := (row?_below hb4 hl3).trans hr3
     have HS4 : Hid (Same (fun k => k < w.heap.size ∧ k ≠ bE) w w4) := Lib.hid (HS2.out.trans ((Same.of_below hB4).mono fun k hk h => hk))
     have HNd2 : Hid (NoDup (r1 ++ r2)) := Lib.hid (List.Pairwise.sublist (List.Sublist.append_left (List.sublist_cons_self _ _) _) HNd.out)
     have HIn2 : Hid (∀ p ∈ r1 ++ r2, p ∈ E) := Lib.hid fun p hp => HIn.out p (by
       rcases List.mem_append.1 hp with h | h
       · exact List.mem_append_left _ h
       · exact List.mem_append_right _ (List.mem_cons_of_mem _ h))
     have hxok := HOK.out _ HZ.out
     have HXok := Lib.hid hxok
     clear hb4 hB3 hB4 hr3 hl3 hleft HR2 HS2 HRow2 HLt HIn hxok
     cases q with
     | false =>
       clear hr4
       go_wp2_with fail
       go_roundw
       case rel => exact ⟨L, r1 ++ r2, HSub.out, struck_skip HQ.out.symm HM.out, HNd2.out, HIn2.out, HR4.out, HS4.out⟩
       case measure => exact HLt4.out
     | true =>
       obtain ⟨hxr, hmem⟩ := struck_del HND.out HNd.out HZ.out HQ.out.symm HM.out
       have HXr := Lib.hid hxr
       have HMem := Lib.hid hmem
       clear hxr hmem
       obtain ⟨w5, hrun, hR5, hg5, hs5, hl5⟩ := HR4.out.drop goodE Tryz.underlying154 HXok.out HXr.out 0
       have hrun1 : (Builtin.delete_ #[154, 159] 0 #[.map (some bE), .agg #[.int .i64 x.1, .int .i64 x.2]]).run Tryz.prog w4 = .ok (.tuple #[]) w5 := hrun
       clear hrun
       have HR5 := Lib.hid hR5
       have HL5 := Lib.hid (Nat.lt_of_le_of_lt hl5 HLt4.out)
       have HS5 : Hid (Same (fun k => k < w.heap.size ∧ k ≠ bE) w w5) := Lib.hid (HS4.out.trans ((same_grown hg5).mono fun k hk h => by simpa using h.2))
       clear hR5 hg5 hs5 hl5
       go_wp2_with fail
       go_roundw
       case rel => exact ⟨Pal.del x L, r1 ++ r2, List.filter_sublist.trans HSub.out, HMem.out, HNd2.out, HIn2.out, HR5.out, HS5.out⟩
       case measure => exact HL5.out
theorem gdrop_any (e : Ed) (he : e.Wf) (g bV bE : Nat) (G : Gr) (hG : G.Ok) (w : World) (h : GOk w g bV bE G) :
   Calls Tryz.prog 149 #[.pointer (some ⟨g, 0, none⟩), .agg (edC e)] w fun r w' => r = .returned (.tuple #[]) ∧ Did w w' g bV bE { V := Pal.del e.u G.V, E := G.E.filter fun p => !onB e.u p } := by
 have H0 := Lib.hid h
 have HG := Lib.hid hG
 have HE := Lib.hid he
 have hgl := h.lt
 have hgn := h.gne
 have hbn := h.ne
 have hed : edC e = #[.int .i64 e.op, .int .i64 e.u, .int .i64 e.v, .int .u8 (e.lab : Int), .int .i64 e.wt] := rfl
 rw [hed]
 clear h he hG hed
 go_enter Tryz.func149, Tryz.ntmps149
 go_wp2_with fail
 generalize hW0 : World.alloc w _ = W0
 obtain ⟨hre, hB0⟩ := alloc_row hW0
 have hs0 := row?_lt hre
 clear hW0
 have k0 := cell?_row (i := 0) (H0.out.below hB0).row
 have k1 := cell?_row (i := 1) hre
 simp at k0 k1
 have HB0 := Lib.hid hB0
 have HRE := Lib.hid hre
 clear hre hB0
 refine wp_region_free_tail (fun w' => w' = W0.drew) 6 (by kernel_rfl) (by kernel_rfl) rfl ?_
 simp only [List.take_succ_cons, List.take_zero, List.drop_succ_cons, List.drop_zero]
 repeat (apply wpFree_still; (intro w hw; subst hw; go_simp; (try go_ints); (first | with_reducible rfl | (go_simp; with_reducible rfl))); with_reducible rfl; (intro K hK; go_simp; (try go_ints); refine hK _ ?_; clear hK K))
 with_reducible refine wpFree_nil ?_
 rintro w' rfl
 refine wpList_delOwn rfl _ _ _ rfl goodV Tryz.underlying151 bV G.V rfl (H0.out.below HB0.out).V.drew e.u rfl HE.out.u ?_
 intro w1 hown hgr hsz
 have hS : Same (fun k => k ≠ bV) w w1 := ((Same.of_below HB0.out).mono fun k hk _ => hk).trans ((Same.drew _ _).trans ((same_grown hgr).mono fun k _ hk => by simpa using hk))
 have hS0 : Same (fun k => k ≠ bV) W0 w1 := (Same.drew _ _).trans ((same_grown hgr).mono fun k _ hk => by simpa using hk)
 have hre1 := (row?_congr (hS0.block _ hs0 (by omega))).trans HRE.out
 have hE1 := H0.out.E.congr (hS.block _ hgl.2.2 (fun h => hbn h.symm))
 have hg1 := (row?_congr (hS.block _ hgl.1 hgn.1)).trans H0.out.row
 have k3 := cell?_row (i := 1) hg1
 simp at k3
 have HDE := Lib.hid (gdelE_any e w.heap.size bE G.E HG.out.sE w1 hre1 (by omega) hE1)
 have HS := Lib.hid hS
 have HOwn := Lib.hid hown
 have HG1 := Lib.hid hg1
 clear hS hS0 hown hgr hre1 hE1 hg1 k0 k1
 go_wp2_with fail
 refine HDE.out.mono ?_
 rintro r w2 ⟨rfl, hE2, hS2⟩
 have hD : Did w w2 g bV bE { V := Pal.del e.u G.V, E := G.E.filter fun p => !onB e.u p } := by
   have hs1 := HS.out.size
   refine ⟨⟨(row?_congr (hS2.block _ (by omega) hgn.2)).trans HG1.out, HOwn.out.congr (hS2.block _ (by omega) hbn), hE2, hbn⟩, ?_⟩
   exact (HS.out.mono fun k _ h => h.1).trans (hS2.mono fun k _ h => h.2)
 have HD := Lib.hid hD
 clear hE2 hS2 hD k3
 go_wp2_with fail
 go_end0
 exact ⟨rfl, HD.out⟩
theorem gapply1_any (e : Ed) (he : e.Wf) (hop : e.op = 1) (g bV bE : Nat) (G : Gr) (hG : G.Ok) (w : World) (h : GOk w g bV bE G) :
   Calls Tryz.prog 36 #[.pointer (some ⟨g, 0, none⟩), .agg (edC e)] w fun r w' => r = .returned (.int .i64 (G.wrong e : Int)) ∧ Did w w' g bV bE (G.app e) := by
 have HOP := Lib.hid hop
 have H0 := Lib.hid h
 have HG := Lib.hid hG
 have HE := Lib.hid he
 have HWf := wrong_fits G e
 obtain ⟨n, hn⟩ : ∃ n, n = G.wrong e := ⟨_, rfl⟩
 have hed : edC e = #[.int .i64 e.op, .int .i64 e.u, .int .i64 e.v, .int .u8 (e.lab : Int), .int .i64 e.wt] := rfl
 have HN := Lib.hid hn
 rw [hed, ← hn]
 clear h he hG hed hn hop
 go_enter Tryz.func36, Tryz.ntmps36
 go_wp2_with fail
 generalize hW0 : World.alloc w _ = W0
 obtain ⟨hre, hB0⟩ := alloc_row hW0
 have hs0 := row?_lt hre
 clear hW0
 have HW := Lib.hid (gwrong_any e HE.out g bV bE G W0 (H0.out.below hB0))
 have HB0 := Lib.hid hB0
 have HRE := Lib.hid fun W (hb : Below W0.heap.size W0 W) => show W.cell? ⟨w.heap.size, 0, none⟩ = some (.int .i64 e.op) ∧ W.cell? ⟨w.heap.size, 1, none⟩ = some (.int .i64 e.u) ∧ W.cell? ⟨w.heap.size, 2, none⟩ = some (.int .i64 e.v) ∧ W.cell? ⟨w.heap.size, 3, none⟩ = some (.int .u8 (e.lab : Int)) ∧ W.cell? ⟨w.heap.size, 4, none⟩ = some (.int .i64 e.wt) from
   ⟨(cell?_row (i := 0) ((row?_below hb (by omega)).trans hre)).trans rfl, (cell?_row (i := 1) ((row?_below hb (by omega)).trans hre)).trans rfl, (cell?_row (i := 2) ((row?_below hb (by omega)).trans hre)).trans rfl, (cell?_row (i := 3) ((row?_below hb (by omega)).trans hre)).trans rfl, (cell?_row (i := 4) ((row?_below hb (by omega)).trans hre)).trans rfl⟩
 clear hre hB0
 rw [← HN.out] at HW
 refine HW.out.mono ?_
 rintro r W1 ⟨rfl, hb1⟩
 have hbw := HB0.out.trans (hb1.mono HB0.out.size)
 have HB1 := Lib.hid hb1
 have HBW := Lib.hid hbw
 clear HW hb1 hbw
 by_cases hn0 : n = 0
 · subst hn0
   obtain ⟨op, u, v, lab, wt⟩ := e
   have happ := HN.out
   have HD := Lib.hid fun W => gdeeds_any W
   have HDrop := Lib.hid fun W (hb : Below W1.heap.size W1 W) => gdrop_any ⟨op, u, v, lab, wt⟩ HE.out g bV bE G HG.out W (H0.out.below (HBW.out.trans (hb.mono HBW.out.size)))
   have HApp : Hid (G.app ⟨op, u, v, lab, wt⟩ = G.doit ⟨op, u, v, lab, wt⟩) := Lib.hid (by unfold Gr.app; rw [if_pos happ.symm])
   clear happ
   have hop := HOP.out
   simp only at hop
   clear HOP
   unfold edC at HDrop
   subst hop
   have hix := fun w => gindex_any #[.func (.func 148) #[] #[], .func (.func 149) #[] #[], .func (.func 150) #[] #[], .func (.func 151) #[] #[], .func (.func 152) #[] #[], .func (.func 153) #[] #[], .func (.func 154) #[] #[], .func (.func 155) #[] #[]] 1 _ w (by omega) rfl
   simp only [show ((1 : Nat) : Int) = 1 from rfl] at hix
   go_wp2_with fail
   refine wp_region_free_tail (fun W => Below W1.heap.size W1 W) 6 (by kernel_rfl) (by kernel_rfl) (Below.refl _ _).drew ?_
   simp only [List.take_succ_cons, List.take_zero, List.drop_succ_cons, List.drop_zero]
   apply wpFree_call
   · intro w hw; go_simp; first | with_reducible rfl | with_reducible exact ⟨rfl, rfl⟩
   · with_reducible rfl
   · intro w hw; exact (HD.out w).mono fun e w' ⟨h1, h2⟩ => ⟨h1, hw.trans (h2.mono hw.size)⟩
   intro K hK; go_simp; (try go_ints); refine hK _ ?_; clear hK K
   repeat (apply wpFree_still; (intro w hw; obtain ⟨k1, k2, k3, k4, k5⟩ := HRE.out w (HB1.out.trans (hw.mono HB1.out.size)); clear hw; go_simp; (try go_ints); (first | with_reducible rfl | (go_simp; with_reducible rfl))); with_reducible rfl; (intro K hK; go_simp; (try go_ints); refine hK _ ?_; clear hK K))
   with_reducible refine wpFree_nil ?_
   intro w' hb'
   have HB' := Lib.hid hb'
   clear hb'
   go_wp2_with fail
   refine (HDrop.out _ HB'.out).mono ?_
   rintro r w5 ⟨rfl, hd⟩
   have HDid := Lib.hid (hd.after (HBW.out.trans (HB'.out.mono HBW.out.size)))
   clear hd
   go_wp2_with fail
   go_ret
   refine ⟨rfl, ?_⟩
   rw [HApp.out]
   exact HDid.out
 · have h1 : ((n : Int) == 0) = false := by simpa using hn0
   have h2 : ((n : Int) != 0) = true := by simpa using hn0
   have h3 : (n != 0) = true := by simpa using hn0
   go_wp2_with fail
   go_ret
   refine ⟨rfl, ?_⟩
   unfold Gr.app
   rw [← HN.out, if_neg hn0]
   exact Did.of_below H0.out HBW.out
@[go_sem ↓ high] theorem storeEN (a : Addr) (v : Value) : storeVar 159 a v = storeLater 159 a v := rfl
@[go_sem] theorem storeEN_run (w : World) (a : Addr) (v : Value) : (storeLater 159 a v).run Tryz.prog w = rowStore Tryz.prog 159 a v w := rfl
@[go_sem] theorem storeEN_at (w : World) (g : Nat) (d : Array Value) : rowStore Tryz.prog 159 ⟨g, 0, none⟩ (.agg d) w = match row? w g with
     | some c => if c.size = 2 ∧ d.size = 2 ∧ allOne d = true then .ok () (w.setRow g d) else laterStore Tryz.prog 159 ⟨g, 0, none⟩ (.agg d) w
     | none => laterStore Tryz.prog 159 ⟨g, 0, none⟩ (.agg d) w := store_row Tryz.sizeOf159 w g d
@[go_sem ↓ high] theorem zeroEN (w : World) : (zeroValue 159).run Tryz.prog w = .ok (.agg #[.int .i64 0, .int .i64 0]) w := by kernel_rfl
theorem gpart_any (e : Ed) (he : e.Wf) (g bV bE : Nat) (G : Gr) (w : World) (h : GOk w g bV bE G) :
   Calls Tryz.prog 151 #[.pointer (some ⟨g, 0, none⟩), .agg (edC e)] w fun r w' => r = .returned (.tuple #[]) ∧ Did w w' g bV bE { G with E := Pal.del (btw e.u e.v) G.E } := by
 have H0 := Lib.hid h
 have HE := Lib.hid he
 have hgl := h.lt
 have hgn := h.gne
 have hbn := h.ne
 clear h he
 unfold edC
 go_enter Tryz.func151, Tryz.ntmps151
 go_wp2_with fail
 generalize hW0 : World.alloc w _ = W0
 obtain ⟨hre, hB0⟩ := alloc_row hW0
 have hs0 := row?_lt hre
 clear hW0
 have HR := Lib.hid fun W (hb : Below W0.heap.size W0 W) => show W.cell? ⟨g, 1, none⟩ = some (.map (some bE)) ∧ W.cell? ⟨w.heap.size, 1, none⟩ = some (.int .i64 e.u) ∧ W.cell? ⟨w.heap.size, 2, none⟩ = some (.int .i64 e.v) from
   ⟨(cell?_row (i := 1) ((row?_below hb (by have := hB0.size; omega)).trans (H0.out.below hB0).row)).trans rfl, (cell?_row (i := 1) ((row?_below hb (by omega)).trans hre)).trans rfl, (cell?_row (i := 2) ((row?_below hb (by omega)).trans hre)).trans rfl⟩
 have HB0 := Lib.hid hB0
 have HBT := Lib.hid fun W => gbetween_any e.u e.v W
 clear hre hB0
 refine wp_region_free_tail (fun W => Below W0.heap.size W0 W) 9 (by kernel_rfl) (by kernel_rfl) (Below.refl _ _).drew ?_
 simp only [List.take_succ_cons, List.take_zero, List.drop_succ_cons, List.drop_zero]
 repeat (apply wpFree_still; (intro w hw; obtain ⟨k1, k2, k3⟩ := HR.out w hw; clear hw; go_simp; (try go_ints); (first | with_reducible rfl | (go_simp; with_reducible rfl))); with_reducible rfl; (intro K hK; go_simp; (try go_ints); refine hK _ ?_; clear hK K))
 apply wpFree_call
 · intro w hw; go_simp; first | with_reducible rfl | with_reducible exact ⟨rfl, rfl⟩
 · with_reducible rfl
 · intro w hw; exact (HBT.out w).mono fun e w' ⟨h1, h2⟩ => ⟨h1, hw.trans (h2.mono hw.size)⟩
 intro K hK; go_simp; (try go_ints); refine hK _ ?_; clear hK K
 with_reducible refine wpFree_nil ?_
 intro w' hb'
 have hB := HB0.out.trans (hb'.mono HB0.out.size)
 refine wpList_delOwn rfl _ _ _ rfl goodE Tryz.underlying154 bE G.E rfl (H0.out.below hB).E (btw e.u e.v) rfl (Ed.pair HE.out) ?_
 intro w1 hown hgr hsz
 have hS : Same (fun k => k ≠ bE) w w1 := ((Same.of_below hB).mono fun k hk _ => hk).trans ((same_grown hgr).mono fun k _ hk => by simpa using hk)
 have hD : Did w w1 g bV bE { G with E := Pal.del (btw e.u e.v) G.E } := ⟨⟨(row?_congr (hS.block _ hgl.1 hgn.2)).trans H0.out.row, H0.out.V.congr (hS.block _ hgl.2.1 hbn), hown, hbn⟩, hS.mono fun k _ h => h.2⟩
 have HD := Lib.hid hD
 clear hS hown hgr hD hB hb'
 go_wp2_with fail
 go_end0
 exact ⟨rfl, HD.out⟩
@[go_sem ↓ high] theorem fieldTH0 (a b : Int) (w : World) : (Instr.field 153 (.agg #[.int .u8 a, .int .i64 b]) 0).run Tryz.prog w = .ok (.int .u8 a) w := by kernel_rfl
@[go_sem ↓ high] theorem fieldTH1 (a b : Int) (w : World) : (Instr.field 153 (.agg #[.int .u8 a, .int .i64 b]) 1).run Tryz.prog w = .ok (.int .i64 b) w := by kernel_rfl
theorem gmark_any (e : Ed) (he : e.Wf) (g bV bE : Nat) (G : Gr) (hG : G.Ok) (w : World) (h : GOk w g bV bE G) :
   Calls Tryz.prog 152 #[.pointer (some ⟨g, 0, none⟩), .agg (edC e)] w fun r w' => r = .returned (.tuple #[]) ∧ Did w w' g bV bE { G with V := putS ltV e.u (e.lab, ((Pal.look G.V e.u).getD (0, 0)).2) G.V } := by
 have H0 := Lib.hid h
 have HG := Lib.hid hG
 have HE := Lib.hid he
 have hgl := h.lt
 have hgn := h.gne
 have hbn := h.ne
 obtain ⟨t, ht⟩ : ∃ t, t = (Pal.look G.V e.u).getD (0, 0) := ⟨_, rfl⟩
 rw [← ht]
 have HT := Lib.hid ht
 clear h he hG ht
 unfold edC
 go_enter Tryz.func152, Tryz.ntmps152
 go_wp2_with fail
 generalize hW0 : World.alloc w _ = W0
 obtain ⟨hre, hB0⟩ := alloc_row hW0
 have hs0 := row?_lt hre
 clear hW0
 have k0 := cell?_row (i := 0) (H0.out.below hB0).row
 have k1 := cell?_row (i := 1) hre
 have k3 := cell?_row (i := 3) hre
 simp at k0 k1 k3
 have hlk : (Instr.lookup 151 (.map (some bV)) (.int .i64 e.u) false).run Tryz.prog W0.drew = .ok (.agg #[.int .u8 (((Pal.look G.V e.u).getD (0, 0)).1 : Int), .int .i64 ((Pal.look G.V e.u).getD (0, 0)).2]) W0.drew := (H0.out.below hB0).V.drew.look goodV Tryz.underlying151 (b0 := (0, 0)) zeroThing HE.out.u
 rw [← HT.out] at hlk
 have HB0 := Lib.hid hB0
 clear hre hB0
 refine wp_region_free_tail (fun w' => w' = W0.drew) 17 (by kernel_rfl) (by kernel_rfl) rfl ?_
 simp only [List.take_succ_cons, List.take_zero, List.drop_succ_cons, List.drop_zero]
 repeat (apply wpFree_still; (intro w hw; subst hw; go_simp; (try go_ints); (first | with_reducible rfl | (go_simp; with_reducible rfl))); with_reducible rfl; (intro K hK; go_simp; (try go_ints); refine hK _ ?_; clear hK K))
 with_reducible refine wpFree_nil ?_
 rintro w' rfl
 refine wpList_putOwn rfl _ _ _ _ rfl goodV Tryz.underlying151 bV G.V _ rfl (H0.out.below HB0.out).V.drew e.u (e.lab, t.2) rfl rfl HE.out.u (putS_perm ordV _ _ HG.out.sV) (by have := HG.out.len; omega) ?_
 intro w1 hown hgr hsz
 have hS : Same (fun k => k ≠ bV) w w1 := ((Same.of_below HB0.out).mono fun k hk _ => hk).trans ((Same.drew _ _).trans ((same_grown hgr).mono fun k _ hk => by simpa using hk))
 have hD := (⟨⟨(row?_congr (hS.block _ hgl.1 hgn.1)).trans H0.out.row, hown, H0.out.E.congr (hS.block _ hgl.2.2 (fun h => hbn h.symm)), hbn⟩, hS.mono fun k _ h => h.1⟩ : Did w w1 g bV bE { G with V := putS ltV e.u (e.lab, t.2) G.V })
 have HD := Lib.hid hD
 clear hS hown hgr hD
 go_wp2_with fail
 go_end0
 exact ⟨rfl, HD.out⟩
theorem gweigh_any (e : Ed) (he : e.Wf) (g bV bE : Nat) (G : Gr) (hG : G.Ok) (w : World) (h : GOk w g bV bE G) :
   Calls Tryz.prog 153 #[.pointer (some ⟨g, 0, none⟩), .agg (edC e)] w fun r w' => r = .returned (.tuple #[]) ∧ Did w w' g bV bE { G with V := putS ltV e.u (((Pal.look G.V e.u).getD (0, 0)).1, e.wt) G.V } := by
 have H0 := Lib.hid h
 have HG := Lib.hid hG
 have HE := Lib.hid he
 have hgl := h.lt
 have hgn := h.gne
 have hbn := h.ne
 obtain ⟨t, ht⟩ : ∃ t, t = (Pal.look G.V e.u).getD (0, 0) := ⟨_, rfl⟩
 rw [← ht]
 have HT := Lib.hid ht
 clear h he hG ht
 unfold edC
 go_enter Tryz.func153, Tryz.ntmps153
 go_wp2_with fail
 generalize hW0 : World.alloc w _ = W0
 obtain ⟨hre, hB0⟩ := alloc_row hW0
 have hs0 := row?_lt hre
 clear hW0
 have k0 := cell?_row (i := 0) (H0.out.below hB0).row
 have k1 := cell?_row (i := 1) hre
 have k3 := cell?_row (i := 4) hre
 simp at k0 k1 k3
 have hlk : (Instr.lookup 151 (.map (some bV)) (.int .i64 e.u) false).run Tryz.prog W0.drew = .ok (.agg #[.int .u8 (((Pal.look G.V e.u).getD (0, 0)).1 : Int), .int .i64 ((Pal.look G.V e.u).getD (0, 0)).2]) W0.drew := (H0.out.below hB0).V.drew.look goodV Tryz.underlying151 (b0 := (0, 0)) zeroThing HE.out.u
 rw [← HT.out] at hlk
 have HB0 := Lib.hid hB0
 clear hre hB0
 refine wp_region_free_tail (fun w' => w' = W0.drew) 17 (by kernel_rfl) (by kernel_rfl) rfl ?_
 simp only [List.take_succ_cons, List.take_zero, List.drop_succ_cons, List.drop_zero]
 repeat (apply wpFree_still; (intro w hw; subst hw; go_simp; (try go_ints); (first | with_reducible rfl | (go_simp; with_reducible rfl))); with_reducible rfl; (intro K hK; go_simp; (try go_ints); refine hK _ ?_; clear hK K))
 with_reducible refine wpFree_nil ?_
 rintro w' rfl
 refine wpList_putOwn rfl _ _ _ _ rfl goodV Tryz.underlying151 bV G.V _ rfl (H0.out.below HB0.out).V.drew e.u (t.1, e.wt) rfl rfl HE.out.u (putS_perm ordV _ _ HG.out.sV) (by have := HG.out.len; omega) ?_
 intro w1 hown hgr hsz
 have hS : Same (fun k => k ≠ bV) w w1 := ((Same.of_below HB0.out).mono fun k hk _ => hk).trans ((Same.drew _ _).trans ((same_grown hgr).mono fun k _ hk => by simpa using hk))
 have hD := (⟨⟨(row?_congr (hS.block _ hgl.1 hgn.1)).trans H0.out.row, hown, H0.out.E.congr (hS.block _ hgl.2.2 (fun h => hbn h.symm)), hbn⟩, hS.mono fun k _ h => h.1⟩ : Did w w1 g bV bE { G with V := putS ltV e.u (t.1, e.wt) G.V })
 have HD := Lib.hid hD
 clear hS hown hgr hD
 go_wp2_with fail
 go_end0
 exact ⟨rfl, HD.out⟩
theorem gmarkEdge_any (e : Ed) (he : e.Wf) (g bV bE : Nat) (G : Gr) (hG : G.Ok) (w : World) (h : GOk w g bV bE G) :
   Calls Tryz.prog 154 #[.pointer (some ⟨g, 0, none⟩), .agg (edC e)] w fun r w' => r = .returned (.tuple #[]) ∧ Did w w' g bV bE { G with E := putS ltE (btw e.u e.v) (e.lab, ((Pal.look G.E (btw e.u e.v)).getD (0, 0)).2) G.E } := by
 have H0 := Lib.hid h
 have HG := Lib.hid hG
 have HE := Lib.hid he
 have hgl := h.lt
 have hgn := h.gne
 have hbn := h.ne
 have HBT := Lib.hid fun W => gbetween_any e.u e.v W
 have HP := Lib.hid (Ed.pair he)
 obtain ⟨⟨x1, x2⟩, hx⟩ : ∃ x, x = btw e.u e.v := ⟨_, rfl⟩
 rw [← hx] at HP HBT ⊢
 obtain ⟨t, ht⟩ : ∃ t, t = (Pal.look G.E (x1, x2)).getD (0, 0) := ⟨_, rfl⟩
 rw [← ht]
 have HT := Lib.hid ht
 clear h he hG ht hx
 unfold edC
 go_enter Tryz.func154, Tryz.ntmps154
 go_wp2_with fail
 generalize hW0 : World.alloc w _ = W0
 obtain ⟨hre, hB0⟩ := alloc_row hW0
 have hs0 := row?_lt hre
 have HB0 := Lib.hid hB0
 have HRE := Lib.hid hre
 have k1 := cell?_row (i := 1) hre
 have k2 := cell?_row (i := 2) hre
 simp at k1 k2
 clear hW0 hre hB0
 go_wp2_with fail
 refine (HBT.out W0).mono ?_
 rintro r W1 ⟨rfl, hb1⟩
 have HB1 := Lib.hid (HB0.out.trans (hb1.mono HB0.out.size))
 have HRE1 := Lib.hid ((row?_below hb1 hs0).trans HRE.out)
 have hs1 := hb1.size
 have hev : endsV (x1, x2) = .agg #[.int .i64 x1, .int .i64 x2] := rfl
 rw [hev]
 clear hb1 HRE k1 k2 hev
 go_wp2_with fail
 generalize hW2 : World.alloc W1 _ = W2
 obtain ⟨hrx, hb12⟩ := alloc_row hW2
 have hB2 := HB1.out.trans (hb12.mono HB1.out.size)
 have hre := (row?_below hb12 (by omega)).trans HRE1.out
 have k0 := cell?_row (i := 1) (H0.out.below hB2).row
 have k3 := cell?_row (i := 3) hre
 simp at k0 k3
 have hlk : (Instr.lookup 154 (.map (some bE)) (.agg #[.int .i64 x1, .int .i64 x2]) false).run Tryz.prog W2.drew = .ok (.agg #[.int .u8 (((Pal.look G.E (x1, x2)).getD (0, 0)).1 : Int), .int .i64 ((Pal.look G.E (x1, x2)).getD (0, 0)).2]) W2.drew := (H0.out.below hB2).E.drew.look goodE Tryz.underlying154 (b0 := (0, 0)) (x := (x1, x2)) zeroThing HP.out
 rw [← HT.out] at hlk
 have HB2 := Lib.hid hB2
 have hrxd : row? W2.drew W1.heap.size = some #[.int .i64 x1, .int .i64 x2] := hrx
 clear hre hB2 hb12 hW2
 refine wp_region_free_tail (fun w' => w' = W2.drew) 15 (by kernel_rfl) (by kernel_rfl) rfl ?_
 simp only [List.take_succ_cons, List.take_zero, List.drop_succ_cons, List.drop_zero]
 repeat (apply wpFree_still; (intro w hw; subst hw; go_simp; (try go_ints); (first | with_reducible rfl | (go_simp; with_reducible rfl))); with_reducible rfl; (intro K hK; go_simp; (try go_ints); refine hK _ ?_; clear hK K))
 with_reducible refine wpFree_nil ?_
 rintro w' rfl
 refine wpList_putOwn rfl _ _ _ _ rfl goodE Tryz.underlying154 bE G.E _ rfl (H0.out.below HB2.out).E.drew (x1, x2) (e.lab, t.2) rfl rfl HP.out (putS_perm ordE _ _ HG.out.sE) (by have := HG.out.most; omega) ?_
 intro w1 hown hgr hsz
 have hS : Same (fun k => k ≠ bE) w w1 := ((Same.of_below HB2.out).mono fun k hk _ => hk).trans ((Same.drew _ _).trans ((same_grown hgr).mono fun k _ hk => by simpa using hk))
 have hD := (⟨⟨(row?_congr (hS.block _ hgl.1 hgn.2)).trans H0.out.row, H0.out.V.congr (hS.block _ hgl.2.1 hbn), hown, hbn⟩, hS.mono fun k _ h => h.2⟩ : Did w w1 g bV bE { G with E := putS ltE (x1, x2) (e.lab, t.2) G.E })
 have HD := Lib.hid hD
 clear hS hown hgr hD
 go_wp2_with fail
 go_end0
 exact ⟨rfl, HD.out⟩
theorem gweighEdge_any (e : Ed) (he : e.Wf) (g bV bE : Nat) (G : Gr) (hG : G.Ok) (w : World) (h : GOk w g bV bE G) :
   Calls Tryz.prog 155 #[.pointer (some ⟨g, 0, none⟩), .agg (edC e)] w fun r w' => r = .returned (.tuple #[]) ∧ Did w w' g bV bE { G with E := putS ltE (btw e.u e.v) (((Pal.look G.E (btw e.u e.v)).getD (0, 0)).1, e.wt) G.E } := by
 have H0 := Lib.hid h
 have HG := Lib.hid hG
 have HE := Lib.hid he
 have hgl := h.lt
 have hgn := h.gne
 have hbn := h.ne
 have HBT := Lib.hid fun W => gbetween_any e.u e.v W
 have HP := Lib.hid (Ed.pair he)
 obtain ⟨⟨x1, x2⟩, hx⟩ : ∃ x, x = btw e.u e.v := ⟨_, rfl⟩
 rw [← hx] at HP HBT ⊢
 obtain ⟨t, ht⟩ : ∃ t, t = (Pal.look G.E (x1, x2)).getD (0, 0) := ⟨_, rfl⟩
 rw [← ht]
 have HT := Lib.hid ht
 clear h he hG ht hx
 unfold edC
 go_enter Tryz.func155, Tryz.ntmps155
 go_wp2_with fail
 generalize hW0 : World.alloc w _ = W0
 obtain ⟨hre, hB0⟩ := alloc_row hW0
 have hs0 := row?_lt hre
 have HB0 := Lib.hid hB0
 have HRE := Lib.hid hre
 have k1 := cell?_row (i := 1) hre
 have k2 := cell?_row (i := 2) hre
 simp at k1 k2
 clear hW0 hre hB0
 go_wp2_with fail
 refine (HBT.out W0).mono ?_
 rintro r W1 ⟨rfl, hb1⟩
 have HB1 := Lib.hid (HB0.out.trans (hb1.mono HB0.out.size))
 have HRE1 := Lib.hid ((row?_below hb1 hs0).trans HRE.out)
 have hs1 := hb1.size
 have hev : endsV (x1, x2) = .agg #[.int .i64 x1, .int .i64 x2] := rfl
 rw [hev]
 clear hb1 HRE k1 k2 hev
 go_wp2_with fail
 generalize hW2 : World.alloc W1 _ = W2
 obtain ⟨hrx, hb12⟩ := alloc_row hW2
 have hB2 := HB1.out.trans (hb12.mono HB1.out.size)
 have hre := (row?_below hb12 (by omega)).trans HRE1.out
 have k0 := cell?_row (i := 1) (H0.out.below hB2).row
 have k3 := cell?_row (i := 4) hre
 simp at k0 k3
 have hlk : (Instr.lookup 154 (.map (some bE)) (.agg #[.int .i64 x1, .int .i64 x2]) false).run Tryz.prog W2.drew = .ok (.agg #[.int .u8 (((Pal.look G.E (x1, x2)).getD (0, 0)).1 : Int), .int .i64 ((Pal.look G.E (x1, x2)).getD (0, 0)).2]) W2.drew := (H0.out.below hB2).E.drew.look goodE Tryz.underlying154 (b0 := (0, 0)) (x := (x1, x2)) zeroThing HP.out
 rw [← HT.out] at hlk
 have HB2 := Lib.hid hB2
 have hrxd : row? W2.drew W1.heap.size = some #[.int .i64 x1, .int .i64 x2] := hrx
 clear hre hB2 hb12 hW2
 refine wp_region_free_tail (fun w' => w' = W2.drew) 15 (by kernel_rfl) (by kernel_rfl) rfl ?_
 simp only [List.take_succ_cons, List.take_zero, List.drop_succ_cons, List.drop_zero]
 repeat (apply wpFree_still; (intro w hw; subst hw; go_simp; (try go_ints); (first | with_reducible rfl | (go_simp; with_reducible rfl))); with_reducible rfl; (intro K hK; go_simp; (try go_ints); refine hK _ ?_; clear hK K))
 with_reducible refine wpFree_nil ?_
 rintro w' rfl
 refine wpList_putOwn rfl _ _ _ _ rfl goodE Tryz.underlying154 bE G.E _ rfl (H0.out.below HB2.out).E.drew (x1, x2) (t.1, e.wt) rfl rfl HP.out (putS_perm ordE _ _ HG.out.sE) (by have := HG.out.most; omega) ?_
 intro w1 hown hgr hsz
 have hS : Same (fun k => k ≠ bE) w w1 := ((Same.of_below HB2.out).mono fun k hk _ => hk).trans ((Same.drew _ _).trans ((same_grown hgr).mono fun k _ hk => by simpa using hk))
 have hD := (⟨⟨(row?_congr (hS.block _ hgl.1 hgn.2)).trans H0.out.row, H0.out.V.congr (hS.block _ hgl.2.1 hbn), hown, hbn⟩, hS.mono fun k _ h => h.2⟩ : Did w w1 g bV bE { G with E := putS ltE (x1, x2) (t.1, e.wt) G.E })
 have HD := Lib.hid hD
 clear hS hown hgr hD
 go_wp2_with fail
 go_end0
 exact ⟨rfl, HD.out⟩
def deedsC : Array Value := #[.func (.func 148) #[] #[], .func (.func 149) #[] #[], .func (.func 150) #[] #[], .func (.func 151) #[] #[], .func (.func 152) #[] #[], .func (.func 153) #[] #[], .func (.func 154) #[] #[], .func (.func 155) #[] #[]]
theorem gapply_of (e : Ed) (he : e.Wf) (i F : Nat) (hi : i < 8) (hop : e.op = (i : Int)) (hF : deedsC[i]? = some (.func (.func F) #[] #[])) (eF : ∀ args w, (callFunc F args).run Tryz.prog w = .ok (.enter F args) w) (g bV bE : Nat) (G : Gr) (w : World) (h : GOk w g bV bE G)
   (hdo : ∀ W, GOk W g bV bE G → Calls Tryz.prog F #[.pointer (some ⟨g, 0, none⟩), .agg (edC e)] W fun r w' => r = .returned (.tuple #[]) ∧ Did W w' g bV bE (G.doit e)) :
   Calls Tryz.prog 36 #[.pointer (some ⟨g, 0, none⟩), .agg (edC e)] w fun r w' => r = .returned (.int .i64 (G.wrong e : Int)) ∧ Did w w' g bV bE (G.app e) := by
 have H0 := Lib.hid h
 have HE := Lib.hid he
 have HWf := wrong_fits G e
 obtain ⟨n, hn⟩ : ∃ n, n = G.wrong e := ⟨_, rfl⟩
 have HN := Lib.hid hn
 have HDo := Lib.hid hdo
 have HW := Lib.hid fun W (hW : GOk W g bV bE G) => gwrong_any e he g bV bE G W hW
 have HD := Lib.hid fun W => gdeeds_any W
 have hix : ∀ w, (Instr.index 179 (.agg deedsC) (.int .i64 (i : Int))).run Tryz.prog w = .ok (.func (.func F) #[] #[]) w := fun w => gindex_any deedsC i _ w hi hF
 unfold deedsC at hix
 obtain ⟨op, u, v, lab, wt⟩ := e
 simp only at hop
 subst hop
 rw [← hn] at HW ⊢
 have hed : edC ⟨(i : Int), u, v, lab, wt⟩ = #[.int .i64 (i : Int), .int .i64 u, .int .i64 v, .int .u8 (lab : Int), .int .i64 wt] := rfl
 rw [hed] at HW HDo ⊢
 clear h he hed hn hdo
 go_enter Tryz.func36, Tryz.ntmps36
 go_wp2_with fail
 generalize hW0 : World.alloc w _ = W0
 obtain ⟨hre, hB0⟩ := alloc_row hW0
 have hs0 := row?_lt hre
 clear hW0
 have HB0 := Lib.hid hB0
 have HRE := Lib.hid fun W (hb : Below W0.heap.size W0 W) => show W.cell? ⟨w.heap.size, 0, none⟩ = some (.int .i64 (i : Int)) ∧ W.cell? ⟨w.heap.size, 1, none⟩ = some (.int .i64 u) ∧ W.cell? ⟨w.heap.size, 2, none⟩ = some (.int .i64 v) ∧ W.cell? ⟨w.heap.size, 3, none⟩ = some (.int .u8 (lab : Int)) ∧ W.cell? ⟨w.heap.size, 4, none⟩ = some (.int .i64 wt) from
   ⟨(cell?_row (i := 0) ((row?_below hb (by omega)).trans hre)).trans rfl, (cell?_row (i := 1) ((row?_below hb (by omega)).trans hre)).trans rfl, (cell?_row (i := 2) ((row?_below hb (by omega)).trans hre)).trans rfl, (cell?_row (i := 3) ((row?_below hb (by omega)).trans hre)).trans rfl, (cell?_row (i := 4) ((row?_below hb (by omega)).trans hre)).trans rfl⟩
 clear hre hB0
 refine (HW.out _ (H0.out.below HB0.out)).mono ?_
 rintro r W1 ⟨rfl, hb1⟩
 have hbw := HB0.out.trans (hb1.mono HB0.out.size)
 have HB1 := Lib.hid hb1
 have HBW := Lib.hid hbw
 clear HW hb1 hbw
 by_cases hn0 : n = 0
 · subst hn0
   have HApp : Hid (G.app ⟨(i : Int), u, v, lab, wt⟩ = G.doit ⟨(i : Int), u, v, lab, wt⟩) := Lib.hid (app_of HN.out.symm)
   go_wp2_with fail
   refine wp_region_free_tail (fun W => Below W1.heap.size W1 W) 6 (by kernel_rfl) (by kernel_rfl) (Below.refl _ _).drew ?_
   simp only [List.take_succ_cons, List.take_zero, List.drop_succ_cons, List.drop_zero]
   apply wpFree_call
   · intro w hw; go_simp; first | with_reducible rfl | with_reducible exact ⟨rfl, rfl⟩
   · with_reducible rfl
   · intro w hw; exact (HD.out w).mono fun e w' ⟨h1, h2⟩ => ⟨h1, hw.trans (h2.mono hw.size)⟩
   intro K hK; go_simp; (try go_ints); refine hK _ ?_; clear hK K
   repeat (apply wpFree_still; (intro w hw; obtain ⟨k1, k2, k3, k4, k5⟩ := HRE.out w (HB1.out.trans (hw.mono HB1.out.size)); clear hw; go_simp; (try go_ints); (first | with_reducible rfl | (go_simp; with_reducible rfl))); with_reducible rfl; (intro K hK; go_simp; (try go_ints); refine hK _ ?_; clear hK K))
   with_reducible refine wpFree_nil ?_
   intro w' hb'
   have HB' := Lib.hid hb'
   clear hb'
   go_wp2_with fail
   refine (HDo.out _ (H0.out.below (HBW.out.trans (HB'.out.mono HBW.out.size)))).mono ?_
   rintro r w5 ⟨rfl, hd⟩
   have HDid := Lib.hid (hd.after (HBW.out.trans (HB'.out.mono HBW.out.size)))
   clear hd
   go_wp2_with fail
   go_ret
   refine ⟨rfl, ?_⟩
   rw [HApp.out]
   exact HDid.out
 · have h1 : ((n : Int) == 0) = false := by simpa using hn0
   have h2 : ((n : Int) != 0) = true := by simpa using hn0
   have h3 : (n != 0) = true := by simpa using hn0
   go_wp2_with fail
   go_ret
   refine ⟨rfl, ?_⟩
   unfold Gr.app
   rw [← HN.out, if_neg hn0]
   exact Did.of_below H0.out HBW.out
theorem gapplyW_any (e : Ed) (he : e.Wf) (g bV bE : Nat) (G : Gr) (hG : G.Ok) (w : World) (h : GOk w g bV bE G) (hw : G.wrong e = 0) :
   Calls Tryz.prog 36 #[.pointer (some ⟨g, 0, none⟩), .agg (edC e)] w fun r w' => r = .returned (.int .i64 0) ∧ Did w w' g bV bE (G.app e) := by
 have hf := (Gr.fine_of hw).op
 have key : Calls Tryz.prog 36 #[.pointer (some ⟨g, 0, none⟩), .agg (edC e)] w fun r w' => r = .returned (.int .i64 (G.wrong e : Int)) ∧ Did w w' g bV bE (G.app e) := by
   have hc : e.op = 0 ∨ e.op = 1 ∨ e.op = 2 ∨ e.op = 3 ∨ e.op = 4 ∨ e.op = 5 ∨ e.op = 6 ∨ e.op = 7 := by omega
   rcases hc with h0 | h0 | h0 | h0 | h0 | h0 | h0 | h0
   · exact gapply_any e he (.inl h0) g bV bE G hG w h
   · exact gapply1_any e he h0 g bV bE G hG w h
   · exact gapply_any e he (.inr h0) g bV bE G hG w h
   · refine gapply_of e he 3 151 (by decide) h0 rfl (fun args w => by simp [go_sem]) g bV bE G w h fun W hW => ?_
     rw [show G.doit e = { G with E := Pal.del (btw e.u e.v) G.E } by unfold Gr.doit; simp [h0]]
     exact gpart_any e he g bV bE G W hW
   · refine gapply_of e he 4 152 (by decide) h0 rfl (fun args w => by simp [go_sem]) g bV bE G w h fun W hW => ?_
     rw [show G.doit e = { G with V := putS ltV e.u (e.lab, ((Pal.look G.V e.u).getD (0, 0)).2) G.V } by unfold Gr.doit; simp [h0]]
     exact gmark_any e he g bV bE G hG W hW
   · refine gapply_of e he 5 153 (by decide) h0 rfl (fun args w => by simp [go_sem]) g bV bE G w h fun W hW => ?_
     rw [show G.doit e = { G with V := putS ltV e.u (((Pal.look G.V e.u).getD (0, 0)).1, e.wt) G.V } by unfold Gr.doit; simp [h0]]
     exact gweigh_any e he g bV bE G hG W hW
   · refine gapply_of e he 6 154 (by decide) h0 rfl (fun args w => by simp [go_sem]) g bV bE G w h fun W hW => ?_
     rw [show G.doit e = { G with E := putS ltE (btw e.u e.v) (e.lab, ((Pal.look G.E (btw e.u e.v)).getD (0, 0)).2) G.E } by unfold Gr.doit; simp [h0]]
     exact gmarkEdge_any e he g bV bE G hG W hW
   · refine gapply_of e he 7 155 (by decide) h0 rfl (fun args w => by simp [go_sem]) g bV bE G w h fun W hW => ?_
     rw [show G.doit e = { G with E := putS ltE (btw e.u e.v) (((Pal.look G.E (btw e.u e.v)).getD (0, 0)).1, e.wt) G.E } by unfold Gr.doit; simp [h0]]
     exact gweighEdge_any e he g bV bE G hG W hW
 rw [hw] at key
 exact key
end Go.Proofs.YtglnhnjmelilmaaGreatDoor
