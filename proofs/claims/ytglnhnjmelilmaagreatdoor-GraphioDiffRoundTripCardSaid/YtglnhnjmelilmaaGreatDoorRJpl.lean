/- Plain: the vertices, then the edges, of a graph added in their order build it; orders of .. -/
import Derived.Test.YtglnhnjmelilmaaGreatDoorRGp
import Derived.Test.YtglnhnjmelilmaaGreatDoorRGx
set_option linter.all false
namespace Go.Pal
open Go
def vEd (p : Int × Th) : Ed := ⟨0, p.1, 0, p.2.1, p.2.2⟩
def eEd (p : (Int × Int) × Th) : Ed := ⟨2, p.1.1, p.1.2, p.2.1, p.2.2⟩
theorem putS_last {α β : Type} [DecidableEq α] {lt : α → α → Bool} (O : Ord lt) {x : α} {t : β} : ∀ {l : List (α × β)}, (∀ p ∈ l, lt p.1 x = true) → putS lt x t l = l ++ [(x, t)]
 | [], _ => rfl
 | p :: r, h => by
   have h1 := h p (by simp)
   unfold putS
   rw [if_neg (fun h2 => by have := O.trans _ _ _ h1 h2; rw [O.irrefl] at this; cases this), if_neg (fun e => by rw [e, O.irrefl] at h1; cases h1), putS_last O fun q hq => h q (by simp [hq])]
   rfl
theorem srt_take_lt {α β : Type} {lt : α → α → Bool} {l : List (α × β)} (h : Srt lt l) {k : Nat} {x : α × β} (hx : l[k]? = some x) : ∀ p ∈ l.take k, lt p.1 x.1 = true := by
 intro p hp
 obtain ⟨i, hi, rfl⟩ := List.mem_iff_getElem.1 hp
 rw [List.length_take] at hi
 rw [List.getElem_take]
 obtain ⟨hk, rfl⟩ := List.getElem?_eq_some_iff.1 hx
 exact List.pairwise_iff_getElem.1 h i k (by omega) hk (by omega)
theorem look_absent {α β : Type} [DecidableEq α] {l : List (α × β)} {x : α} (h : ∀ p ∈ l, p.1 ≠ x) : (look l x).isSome = false := by
 cases hl : (look l x).isSome with
 | false => rfl
 | true =>
   obtain ⟨p, hp, e⟩ := look_some.1 hl
   exact absurd e (h p hp)
theorem look_before {α β : Type} [DecidableEq α] {lt : α → α → Bool} (O : Ord lt) {l : List (α × β)} (h : Srt lt l) {k : Nat} {x : α × β} (hx : l[k]? = some x) : (look (l.take k) x.1).isSome = false :=
 look_absent fun p hp e => by
   have := srt_take_lt h hx p hp
   rw [e, O.irrefl] at this
   cases this
theorem take_snoc {α : Type} {l : List α} {k : Nat} {x : α} (h : l[k]? = some x) : l.take (k + 1) = l.take k ++ [x] := by rw [List.take_add_one, h]; rfl
def Gr.vPart (G : Gr) (k : Nat) : Gr := ⟨G.V.take k, []⟩
def Gr.ePart (G : Gr) (k : Nat) : Gr := ⟨G.V, G.E.take k⟩
theorem Gr.vPart_ok {G : Gr} (h : G.Ok) (k : Nat) : (G.vPart k).Ok :=
 ⟨h.sV.sublist (List.take_sublist _ _), List.Pairwise.nil, fun p hp => h.ids p (List.mem_of_mem_take hp), by simp [Gr.vPart], fun p hp => h.thV p (List.mem_of_mem_take hp), by simp [Gr.vPart], by simp [Gr.vPart]⟩
theorem Gr.ePart_ok {G : Gr} (h : G.Ok) (k : Nat) : (G.ePart k).Ok :=
 ⟨h.sV, h.sE.sublist (List.take_sublist _ _), h.ids, fun p hp => h.ends p (List.mem_of_mem_take hp), h.thV, fun p hp => h.thE p (List.mem_of_mem_take hp), by have := h.most; unfold Gr.ePart; simp only [List.length_take]; omega⟩
theorem inI_0 : InI 0 := ⟨by decide, by decide⟩
theorem inI_2 : InI 2 := ⟨by decide, by decide⟩
theorem vEd_wf {G : Gr} (h : G.Ok) {x : Int × Th} (hx : x ∈ G.V) : (vEd x).Wf := by
 have h1 := h.ids x hx
 obtain ⟨h2, h3, h4⟩ := h.thV x hx
 exact ⟨inI_0, ⟨by show _ ≤ x.1; omega, by show x.1 ≤ _; omega⟩, inI_0, h2, ⟨by show _ ≤ x.2.2; omega, by show x.2.2 ≤ _; omega⟩⟩
theorem eEd_wf {G : Gr} (h : G.Ok) {x : (Int × Int) × Th} (hx : x ∈ G.E) : (eEd x).Wf := by
 have h1 := h.endsI x hx
 obtain ⟨h2, h3, h4⟩ := h.thE x hx
 exact ⟨inI_2, ⟨by show _ ≤ x.1.1; omega, by show x.1.1 ≤ _; omega⟩, ⟨by show _ ≤ x.1.2; omega, by show x.1.2 ≤ _; omega⟩, h2, ⟨by show _ ≤ x.2.2; omega, by show x.2.2 ≤ _; omega⟩⟩
theorem Gr.v_wrong {G : Gr} (h : G.Ok) {k : Nat} {x : Int × Th} (hx : G.V[k]? = some x) : (G.vPart k).wrong (vEd x) = 0 := by
 have hm := List.mem_of_getElem? hx
 have h1 := h.ids x hm
 obtain ⟨h2, h3, h4⟩ := h.thV x hm
 have hl := look_before ordV h.sV hx
 have e1 : idB (vEd x).u = true := by show idB x.1 = true; unfold idB; simp; omega
 have e2 : heavyB (vEd x).wt = false := by show heavyB x.2.2 = false; unfold heavyB; simp; omega
 have e3 : (look (G.vPart k).V (vEd x).u).isSome = false := hl
 have e4 : (vEd x).pairs = false := rfl
 have e5 : (vEd x).op = 0 := rfl
 unfold Gr.wrong
 simp [e1, e2, e3, e4, e5]
theorem Gr.v_app {G : Gr} (h : G.Ok) {k : Nat} {x : Int × Th} (hx : G.V[k]? = some x) : (G.vPart k).app (vEd x) = G.vPart (k + 1) := by
 unfold Gr.app
 rw [if_pos (Gr.v_wrong h hx)]
 unfold Gr.doit
 rw [if_pos (show (vEd x).op = 0 from rfl)]
 show Gr.mk (putS ltV x.1 (x.2.1, x.2.2) (G.V.take k)) [] = Gr.mk (G.V.take (k + 1)) []
 rw [putS_last ordV (srt_take_lt h.sV hx), take_snoc hx]
theorem btw_of {u v : Int} (h : u < v) : btw u v = (u, v) := by
 unfold btw
 rw [Int.min_eq_left (by omega), Int.max_eq_right (by omega)]
theorem Gr.e_wrong {G : Gr} (h : G.Ok) {k : Nat} {x : (Int × Int) × Th} (hx : G.E[k]? = some x) : (G.ePart k).wrong (eEd x) = 0 := by
 have hm := List.mem_of_getElem? hx
 have h1 := h.endsI x hm
 obtain ⟨h2, h3, h4⟩ := h.thE x hm
 obtain ⟨h5, h6, h7⟩ := h.ends x hm
 have hl := look_before Go.Pal.ordE h.sE hx
 have hb : btw (eEd x).u (eEd x).v = x.1 := by rw [show (eEd x).u = x.1.1 from rfl, show (eEd x).v = x.1.2 from rfl, btw_of h5]
 have e0 : idB (eEd x).u = true := by show idB x.1.1 = true; unfold idB; simp; omega
 have e1 : idB (eEd x).v = true := by show idB x.1.2 = true; unfold idB; simp; omega
 have e2 : heavyB (eEd x).wt = false := by show heavyB x.2.2 = false; unfold heavyB; simp; omega
 have e3 : (look (G.ePart k).E x.1).isSome = false := hl
 have e4 : (eEd x).pairs = true := rfl
 have e5 : (eEd x).op = 2 := rfl
 have e6 : (look (G.ePart k).V (eEd x).u).isSome = true := h6
 have e7 : (look (G.ePart k).V (eEd x).v).isSome = true := h7
 have e8 : ¬ (eEd x).u = (eEd x).v := by show ¬ x.1.1 = x.1.2; omega
 have e9 : ¬ 1024 ≤ (G.ePart k).E.length := by
   have := (List.getElem?_eq_some_iff.1 hx).1
   have := h.most
   unfold Gr.ePart
   simp only [List.length_take]
   omega
 unfold Gr.wrong
 rw [hb]
 simp only [e0, e1, e2, e3, e4, e5, e6, e7, decide_eq_false e8, decide_eq_false e9]
 simp
theorem Gr.e_app {G : Gr} (h : G.Ok) {k : Nat} {x : (Int × Int) × Th} (hx : G.E[k]? = some x) : (G.ePart k).app (eEd x) = G.ePart (k + 1) := by
 unfold Gr.app
 rw [if_pos (Gr.e_wrong h hx)]
 unfold Gr.doit
 rw [if_neg (by show ¬ (2 : Int) = 0; omega), if_neg (by show ¬ (2 : Int) = 1; omega), if_pos (show (eEd x).op = 2 from rfl)]
 show Gr.mk G.V (putS ltE (btw x.1.1 x.1.2) (x.2.1, x.2.2) (G.E.take k)) = Gr.mk G.V (G.E.take (k + 1))
 rw [btw_of (h.ends x (List.mem_of_getElem? hx)).1, putS_last Go.Pal.ordE (srt_take_lt h.sE hx), take_snoc hx]
def madeTo (l : List Ed) (k : Nat) : Gr := (l.take k).foldl Gr.app Gr.none
theorem madeTo_succ {l : List Ed} {k : Nat} {e : Ed} (h : l[k]? = some e) : madeTo l (k + 1) = (madeTo l k).app e := by
 unfold madeTo
 rw [take_snoc h, List.foldl_append]
 rfl
theorem madeTo_ok {l : List Ed} (h : ∀ e ∈ l, e.Wf) : ∀ k, (madeTo l k).Ok := by
 intro k
 unfold madeTo
 suffices ∀ (m : List Ed) G, (∀ e ∈ m, e.Wf) → G.Ok → (m.foldl Gr.app G).Ok from this _ _ (fun e he => h e (List.mem_of_mem_take he)) gr_none_ok
 intro m
 induction m with
 | nil => exact fun G _ h => h
 | cons e r ih => exact fun G hw hG => ih _ (fun x hx => hw x (by simp [hx])) (hG.app (hw e (by simp)))
def Gr.ids' (G : Gr) : List Int := G.V.map (·.1)
theorem vsetTo_bit {l : List (Int × Th)} (h : ∀ p ∈ l, 0 ≤ p.1) (m : Nat) : ∀ k, k ≤ l.length → (vsetTo l k).testBit m = decide ((m : Int) ∈ (l.take k).map (·.1)) := by
 intro k
 induction k with
 | zero => intro _; simp [vsetTo]
 | succ k ih =>
   intro hk
   obtain ⟨x, hx⟩ : ∃ x, l[k]? = some x := ⟨_, List.getElem?_eq_getElem hk⟩
   have := h x (List.mem_of_getElem? hx)
   rw [vsetTo_succ hx, sIns_testBit, ih (by omega), take_snoc hx, List.map_append]
   rw [Bool.eq_iff_iff]
   simp only [Bool.or_eq_true, decide_eq_true_eq, List.mem_append, List.map_cons, List.map_nil, List.mem_singleton]
   constructor
   · rintro (h | h)
     · exact .inl h
     · exact .inr (by omega)
   · rintro (h | h)
     · exact .inl h
     · exact .inr (by omega)
theorem Gr.Ok.vset_bit {G : Gr} (h : G.Ok) (m : Nat) : G.vset.testBit m = decide ((m : Int) ∈ G.ids') := by
 unfold Gr.vset Gr.ids'
 rw [vsetTo_bit (fun p hp => (h.ids p hp).1) m _ (Nat.le_refl _), List.take_length]
theorem Gr.Ok.ids_range {G : Gr} (h : G.Ok) : ∀ n ∈ G.ids', 0 ≤ n ∧ n < 1024 := by
 intro n hn
 obtain ⟨p, hp, rfl⟩ := List.mem_map.1 hn
 exact h.ids p hp
end Go.Pal
