/-
  Plain: the vertices, then the edges, of a graph added in their order build it; orders of all vertices.
  Plain: the reference's game of elimination and its decomposition are the program's.
-/
import Derived.Test.YtpflnkedolmamaaGreatDoorQGp
import Derived.Test.YtpflnkedolmamaaGreatDoorQGL
import Derived.Test.YtpflnkedolmamaaGreatDoorQGrM
import Derived.Test.YtpflnkedolmamaaGreatDoorQPlain
set_option linter.unusedSimpArgs false
set_option linter.unusedVariables false
namespace Go.Pal
open Go

def vEd (p : Int × Th) : Ed := ⟨0, p.1, 0, p.2.1, p.2.2⟩
def eEd (p : (Int × Int) × Th) : Ed := ⟨2, p.1.1, p.1.2, p.2.1, p.2.2⟩
theorem putS_last {α β : Type} [DecidableEq α] {lt : α → α → Bool} (O : Ord lt) {x : α} {t : β} : ∀ {l : List (α × β)}, (∀ p ∈ l, lt p.1 x = true) → putS lt x t l = l ++ [(x, t)]
  | [], _ => rfl
  | p :: r, h => by
    have h1 := h p (by simp)
    unfold putS
    rw [if_neg (fun h2 => by have := O.trans _ _ _ h1 h2; rw [O.irrefl] at this; cases this), if_neg (fun e => by rw [e, O.irrefl] at h1; cases h1), putS_last O fun q hq => h q (by simp [hq])]
    rfl
theorem srt_take_lt {α β : Type} {lt : α → α → Bool} {l : List (α × β)} (h : Srt lt l) {k : Nat} {x : α × β} (hx : l[k]? = some x) : ∀ p ∈ l.take k, lt p.1 x.1 = true := by
  intro p hp
  obtain ⟨i, hi, rfl⟩ := List.mem_iff_getElem.1 hp
  rw [List.length_take] at hi
  rw [List.getElem_take]
  obtain ⟨hk, rfl⟩ := List.getElem?_eq_some_iff.1 hx
  exact List.pairwise_iff_getElem.1 h i k (by omega) hk (by omega)
theorem look_absent {α β : Type} [DecidableEq α] {l : List (α × β)} {x : α} (h : ∀ p ∈ l, p.1 ≠ x) : (look l x).isSome = false := by
  cases hl : (look l x).isSome with
  | false => rfl
  | true =>
    obtain ⟨p, hp, e⟩ := look_some.1 hl
    exact absurd e (h p hp)
theorem look_before {α β : Type} [DecidableEq α] {lt : α → α → Bool} (O : Ord lt) {l : List (α × β)} (h : Srt lt l) {k : Nat} {x : α × β} (hx : l[k]? = some x) : (look (l.take k) x.1).isSome = false :=
  look_absent fun p hp e => by
    have := srt_take_lt h hx p hp
    rw [e, O.irrefl] at this
    cases this
theorem take_snoc {α : Type} {l : List α} {k : Nat} {x : α} (h : l[k]? = some x) : l.take (k + 1) = l.take k ++ [x] := by rw [List.take_add_one, h]; rfl
/-- The first vertices; all vertices and the first edges. -/
def Gr.vPart (G : Gr) (k : Nat) : Gr := ⟨G.V.take k, []⟩
def Gr.ePart (G : Gr) (k : Nat) : Gr := ⟨G.V, G.E.take k⟩
theorem Gr.vPart_ok {G : Gr} (h : G.Ok) (k : Nat) : (G.vPart k).Ok :=
  ⟨h.sV.sublist (List.take_sublist _ _), List.Pairwise.nil, fun p hp => h.ids p (List.mem_of_mem_take hp), by simp [Gr.vPart], fun p hp => h.thV p (List.mem_of_mem_take hp), by simp [Gr.vPart], by simp [Gr.vPart]⟩
theorem Gr.ePart_ok {G : Gr} (h : G.Ok) (k : Nat) : (G.ePart k).Ok :=
  ⟨h.sV, h.sE.sublist (List.take_sublist _ _), h.ids, fun p hp => h.ends p (List.mem_of_mem_take hp), h.thV, fun p hp => h.thE p (List.mem_of_mem_take hp), by have := h.most; unfold Gr.ePart; simp only [List.length_take]; omega⟩
theorem inI_0 : InI 0 := ⟨by decide, by decide⟩
theorem inI_2 : InI 2 := ⟨by decide, by decide⟩
theorem vEd_wf {G : Gr} (h : G.Ok) {x : Int × Th} (hx : x ∈ G.V) : (vEd x).Wf := by
  have h1 := h.ids x hx
  obtain ⟨h2, h3, h4⟩ := h.thV x hx
  exact ⟨inI_0, ⟨by show _ ≤ x.1; omega, by show x.1 ≤ _; omega⟩, inI_0, h2, ⟨by show _ ≤ x.2.2; omega, by show x.2.2 ≤ _; omega⟩⟩
theorem eEd_wf {G : Gr} (h : G.Ok) {x : (Int × Int) × Th} (hx : x ∈ G.E) : (eEd x).Wf := by
  have h1 := h.endsI x hx
  obtain ⟨h2, h3, h4⟩ := h.thE x hx
  exact ⟨inI_2, ⟨by show _ ≤ x.1.1; omega, by show x.1.1 ≤ _; omega⟩, ⟨by show _ ≤ x.1.2; omega, by show x.1.2 ≤ _; omega⟩, h2, ⟨by show _ ≤ x.2.2; omega, by show x.2.2 ≤ _; omega⟩⟩
theorem Gr.v_wrong {G : Gr} (h : G.Ok) {k : Nat} {x : Int × Th} (hx : G.V[k]? = some x) : (G.vPart k).wrong (vEd x) = 0 := by
  have hm := List.mem_of_getElem? hx
  have h1 := h.ids x hm
  obtain ⟨h2, h3, h4⟩ := h.thV x hm
  have hl := look_before ordV h.sV hx
  have e1 : idB (vEd x).u = true := by show idB x.1 = true; unfold idB; simp; omega
  have e2 : heavyB (vEd x).wt = false := by show heavyB x.2.2 = false; unfold heavyB; simp; omega
  have e3 : (look (G.vPart k).V (vEd x).u).isSome = false := hl
  have e4 : (vEd x).pairs = false := rfl
  have e5 : (vEd x).op = 0 := rfl
  unfold Gr.wrong
  simp [e1, e2, e3, e4, e5]
theorem Gr.v_app {G : Gr} (h : G.Ok) {k : Nat} {x : Int × Th} (hx : G.V[k]? = some x) : (G.vPart k).app (vEd x) = G.vPart (k + 1) := by
  unfold Gr.app
  rw [if_pos (Gr.v_wrong h hx)]
  unfold Gr.doit
  rw [if_pos (show (vEd x).op = 0 from rfl)]
  show Gr.mk (putS ltV x.1 (x.2.1, x.2.2) (G.V.take k)) [] = Gr.mk (G.V.take (k + 1)) []
  rw [putS_last ordV (srt_take_lt h.sV hx), take_snoc hx]
theorem btw_of {u v : Int} (h : u < v) : btw u v = (u, v) := by
  unfold btw
  rw [Int.min_eq_left (by omega), Int.max_eq_right (by omega)]
theorem Gr.e_wrong {G : Gr} (h : G.Ok) {k : Nat} {x : (Int × Int) × Th} (hx : G.E[k]? = some x) : (G.ePart k).wrong (eEd x) = 0 := by
  have hm := List.mem_of_getElem? hx
  have h1 := h.endsI x hm
  obtain ⟨h2, h3, h4⟩ := h.thE x hm
  obtain ⟨h5, h6, h7⟩ := h.ends x hm
  have hl := look_before Go.Pal.ordE h.sE hx
  have hb : btw (eEd x).u (eEd x).v = x.1 := by rw [show (eEd x).u = x.1.1 from rfl, show (eEd x).v = x.1.2 from rfl, btw_of h5]
  have e0 : idB (eEd x).u = true := by show idB x.1.1 = true; unfold idB; simp; omega
  have e1 : idB (eEd x).v = true := by show idB x.1.2 = true; unfold idB; simp; omega
  have e2 : heavyB (eEd x).wt = false := by show heavyB x.2.2 = false; unfold heavyB; simp; omega
  have e3 : (look (G.ePart k).E x.1).isSome = false := hl
  have e4 : (eEd x).pairs = true := rfl
  have e5 : (eEd x).op = 2 := rfl
  have e6 : (look (G.ePart k).V (eEd x).u).isSome = true := h6
  have e7 : (look (G.ePart k).V (eEd x).v).isSome = true := h7
  have e8 : ¬ (eEd x).u = (eEd x).v := by show ¬ x.1.1 = x.1.2; omega
  have e9 : ¬ 1024 ≤ (G.ePart k).E.length := by
    have := (List.getElem?_eq_some_iff.1 hx).1
    have := h.most
    unfold Gr.ePart
    simp only [List.length_take]
    omega
  unfold Gr.wrong
  rw [hb]
  simp only [e0, e1, e2, e3, e4, e5, e6, e7, decide_eq_false e8, decide_eq_false e9]
  simp
theorem Gr.e_app {G : Gr} (h : G.Ok) {k : Nat} {x : (Int × Int) × Th} (hx : G.E[k]? = some x) : (G.ePart k).app (eEd x) = G.ePart (k + 1) := by
  unfold Gr.app
  rw [if_pos (Gr.e_wrong h hx)]
  unfold Gr.doit
  rw [if_neg (by show ¬ (2 : Int) = 0; omega), if_neg (by show ¬ (2 : Int) = 1; omega), if_pos (show (eEd x).op = 2 from rfl)]
  show Gr.mk G.V (putS ltE (btw x.1.1 x.1.2) (x.2.1, x.2.2) (G.E.take k)) = Gr.mk G.V (G.E.take (k + 1))
  rw [btw_of (h.ends x (List.mem_of_getElem? hx)).1, putS_last Go.Pal.ordE (srt_take_lt h.sE hx), take_snoc hx]

/-- What the edits of a list make. -/
def madeTo (l : List Ed) (k : Nat) : Gr := (l.take k).foldl Gr.app Gr.none
theorem madeTo_succ {l : List Ed} {k : Nat} {e : Ed} (h : l[k]? = some e) : madeTo l (k + 1) = (madeTo l k).app e := by
  unfold madeTo
  rw [take_snoc h, List.foldl_append]
  rfl
theorem madeTo_ok {l : List Ed} (h : ∀ e ∈ l, e.Wf) : ∀ k, (madeTo l k).Ok := by
  intro k
  unfold madeTo
  suffices ∀ (m : List Ed) G, (∀ e ∈ m, e.Wf) → G.Ok → (m.foldl Gr.app G).Ok from this _ _ (fun e he => h e (List.mem_of_mem_take he)) gr_none_ok
  intro m
  induction m with
  | nil => exact fun G _ h => h
  | cons e r ih => exact fun G hw hG => ih _ (fun x hx => hw x (by simp [hx])) (hG.app (hw e (by simp)))

/-! ### orders of all vertices -/
def Gr.ids' (G : Gr) : List Int := G.V.map (·.1)
theorem insR_bit (S : Nat) (n : Int) (m : Nat) : (insR S n).testBit m = (S.testBit m || decide (n = (m : Int) ∧ m < 1024)) := by
  unfold insR
  split
  · rw [sIns_testBit]
    congr 1
    rw [Bool.eq_iff_iff]
    simp
    omega
  · have : decide (n = (m : Int) ∧ m < 1024) = false := by simp; omega
    rw [this, Bool.or_false]
theorem foldl_insR_bit (l : List Int) : ∀ (S m : Nat), (l.foldl insR S).testBit m = (S.testBit m || decide ((m : Int) ∈ l ∧ m < 1024)) := by
  induction l with
  | nil => intro S m; simp
  | cons x r ih =>
    intro S m
    rw [List.foldl_cons, ih, insR_bit, Bool.or_assoc]
    congr 1
    rw [Bool.eq_iff_iff]
    simp
    constructor
    · rintro (⟨h1, h2⟩ | ⟨h1, h2⟩)
      · exact ⟨.inl h1.symm, h2⟩
      · exact ⟨.inr h1, h2⟩
    · rintro ⟨h1 | h1, h2⟩
      · exact .inl ⟨h1.symm, h2⟩
      · exact .inr ⟨h1, h2⟩
theorem ofTo_bit (l : List Int) (m : Nat) : (ofTo l l.length).testBit m = decide ((m : Int) ∈ l ∧ m < 1024) := by
  unfold ofTo
  rw [List.take_length, foldl_insR_bit]
  simp
theorem vsetTo_bit {l : List (Int × Th)} (h : ∀ p ∈ l, 0 ≤ p.1) (m : Nat) : ∀ k, k ≤ l.length → (vsetTo l k).testBit m = decide ((m : Int) ∈ (l.take k).map (·.1)) := by
  intro k
  induction k with
  | zero => intro _; simp [vsetTo]
  | succ k ih =>
    intro hk
    obtain ⟨x, hx⟩ : ∃ x, l[k]? = some x := ⟨_, List.getElem?_eq_getElem hk⟩
    have := h x (List.mem_of_getElem? hx)
    rw [vsetTo_succ hx, sIns_testBit, ih (by omega), take_snoc hx, List.map_append]
    rw [Bool.eq_iff_iff]
    simp only [Bool.or_eq_true, decide_eq_true_eq, List.mem_append, List.map_cons, List.map_nil, List.mem_singleton]
    constructor
    · rintro (h | h)
      · exact .inl h
      · exact .inr (by omega)
    · rintro (h | h)
      · exact .inl h
      · exact .inr (by omega)
theorem Gr.Ok.vset_bit {G : Gr} (h : G.Ok) (m : Nat) : G.vset.testBit m = decide ((m : Int) ∈ G.ids') := by
  unfold Gr.vset Gr.ids'
  rw [vsetTo_bit (fun p hp => (h.ids p hp).1) m _ (Nat.le_refl _), List.take_length]
theorem Gr.Ok.ids_range {G : Gr} (h : G.Ok) : ∀ n ∈ G.ids', 0 ≤ n ∧ n < 1024 := by
  intro n hn
  obtain ⟨p, hp, rfl⟩ := List.mem_map.1 hn
  exact h.ids p hp
theorem Gr.Ok.ids_nodup {G : Gr} (h : G.Ok) : G.ids'.Nodup := by
  unfold Gr.ids' List.Nodup
  rw [List.pairwise_map]
  exact h.sV.nd ordV
theorem perm_of_nodup {α : Type} [DecidableEq α] : ∀ {l m : List α}, l.Nodup → (∀ x ∈ l, x ∈ m) → m.length ≤ l.length → l.Perm m
  | [], m, _, _, hl => by
    have : m = [] := List.length_eq_zero_iff.1 (by simpa using hl)
    rw [this]
  | a :: r, m, hn, hs, hl => by
    rw [List.nodup_cons] at hn
    have ha := hs a (by simp)
    have hp := List.perm_cons_erase ha
    refine List.Perm.trans (List.Perm.cons a (perm_of_nodup hn.2 (fun x hx => ?_) ?_)) hp.symm
    · exact (List.mem_erase_of_ne (fun e => hn.1 (by rw [← e]; exact hx))).2 (hs x (by simp [hx]))
    · have := hp.length_eq
      simp at this hl
      rw [List.length_erase_of_mem ha]
      omega
/-- An order fits exactly if it is all vertices, each once. -/
theorem Gr.Ok.ordE_iff {G : Gr} (h : G.Ok) (o : List Int) : G.ordE o = 0 ↔ o.Perm G.ids' := by
  unfold Gr.ordE
  have hl : G.ids'.length = G.V.length := by simp [Gr.ids']
  constructor
  · intro h0
    split at h0
    · rename_i h1
      refine (perm_of_nodup h.ids_nodup (fun n hn => ?_) (by omega)).symm
      have hr := h.ids_range n hn
      have h2 : G.vset.testBit n.toNat = true := by rw [h.vset_bit, decide_eq_true_eq, show ((n.toNat : Nat) : Int) = n by omega]; exact hn
      rw [← h1.2, ofTo_bit] at h2
      simp at h2
      rw [show max n 0 = n by omega] at h2
      exact h2.1
    · cases h0
  · intro hp
    rw [if_pos]
    refine ⟨by rw [hp.length_eq, hl], ?_⟩
    apply Nat.eq_of_testBit_eq
    intro m
    rw [ofTo_bit, h.vset_bit, Bool.eq_iff_iff]
    simp only [decide_eq_true_eq, hp.mem_iff]
    constructor
    · exact fun h => h.1
    · exact fun hm => ⟨hm, by have := h.ids_range _ hm; omega⟩
theorem Gr.Ok.near_bit {G : Gr} (h : G.Ok) (n m : Nat) : (G.near n).testBit m = (look G.E (btw n m)).isSome := by
  have key : ∀ k, k ≤ G.E.length → ((nearTo G.E n k).testBit m = true ↔ ∃ p ∈ G.E.take k, p.1 = btw n m) := by
    intro k
    induction k with
    | zero => intro _; simp [nearTo]
    | succ k ih =>
      intro hk
      obtain ⟨x, hx⟩ : ∃ x, G.E[k]? = some x := ⟨_, List.getElem?_eq_getElem hk⟩
      have h1 := h.endsI x (List.mem_of_getElem? hx)
      rw [nearTo_succ hx, take_snoc hx]
      have ih' := ih (by omega)
      have e : (∃ p ∈ G.E.take k ++ [x], p.1 = btw n m) ↔ (∃ p ∈ G.E.take k, p.1 = btw n m) ∨ x.1 = btw n m := by
        constructor
        · rintro ⟨p, hp, e⟩
          rcases List.mem_append.1 hp with hp | hp
          · exact .inl ⟨p, hp, e⟩
          · simp at hp
            subst hp
            exact .inr e
        · rintro (⟨p, hp, e⟩ | e)
          · exact ⟨p, List.mem_append_left _ hp, e⟩
          · exact ⟨x, by simp, e⟩
      rw [e, ← ih']
      obtain ⟨⟨xu, xv⟩, xt⟩ := x
      unfold btw
      simp only at h1 ⊢
      rw [Prod.mk.injEq]
      split
      · rename_i h2
        rw [sIns_testBit]
        simp only [Bool.or_eq_true, decide_eq_true_eq]
        constructor
        · rintro (h | h)
          · exact .inl h
          · exact .inr (by omega)
        · rintro (h | h)
          · exact .inl h
          · exact .inr (by omega)
      · split
        · rename_i h2 h3
          rw [sIns_testBit]
          simp only [Bool.or_eq_true, decide_eq_true_eq]
          constructor
          · rintro (h | h)
            · exact .inl h
            · exact .inr (by omega)
          · rintro (h | h)
            · exact .inl h
            · exact .inr (by omega)
        · rename_i h2 h3
          constructor
          · exact .inl
          · rintro (h | h)
            · exact h
            · omega
  have := key G.E.length (Nat.le_refl _)
  unfold Gr.near
  rw [Bool.eq_iff_iff, this, List.take_length, look_some]
theorem Gr.Ok.near_ids {G : Gr} (h : G.Ok) {n m : Nat} (hb : (G.near n).testBit m = true) : (n : Int) ∈ G.ids' ∧ (m : Int) ∈ G.ids' := by
  rw [h.near_bit] at hb
  obtain ⟨h1, h2⟩ := h.edge_ends hb
  obtain ⟨p, hp, hpe⟩ := look_some.1 h1
  obtain ⟨q, hq, hqe⟩ := look_some.1 h2
  exact ⟨List.mem_map.2 ⟨p, hp, hpe⟩, List.mem_map.2 ⟨q, hq, hqe⟩⟩
/-- What an order of all vertices fulfils. -/
theorem Gr.Ok.order {G : Gr} (h : G.Ok) {o : List Int} (hp : o.Perm G.ids') : ∃ o' : List Nat, o = o'.map (fun i : Nat => (i : Int)) ∧ (∀ x ∈ o', x < 1024) ∧ o'.Nodup ∧ Closed (fun x => G.near (x : Int)) o' ∧ o'.length ≤ 1024 ∧ (∀ x : Nat, x ∈ o' ↔ (x : Int) ∈ G.ids') := by
  have hr : ∀ n ∈ o, 0 ≤ n ∧ n < 1024 := fun n hn => h.ids_range n (hp.mem_iff.1 hn)
  have he : o = (o.map Int.toNat).map (fun i : Nat => (i : Int)) := by
    rw [List.map_map]
    conv => lhs; rw [← List.map_id o]
    apply List.map_congr_left
    intro n hn
    have := hr n hn
    simp
    omega
  have hm : ∀ x : Nat, x ∈ o.map Int.toNat ↔ (x : Int) ∈ G.ids' := fun x => by
    rw [← hp.mem_iff]
    constructor
    · intro hx
      obtain ⟨n, hn, rfl⟩ := List.mem_map.1 hx
      rw [show ((n.toNat : Nat) : Int) = n by have := hr n hn; omega]
      exact hn
    · intro hx
      exact List.mem_map.2 ⟨_, hx, by omega⟩
  refine ⟨o.map Int.toNat, he, fun x hx => ?_, ?_, ?_, ?_, hm⟩
  · obtain ⟨n, hn, rfl⟩ := List.mem_map.1 hx
    have := hr n hn
    omega
  · have hn : o.Nodup := (hp.nodup_iff).2 h.ids_nodup
    unfold List.Nodup at hn ⊢
    rw [List.pairwise_map]
    refine hn.imp_of_mem fun {a b} ha hb hab e => hab ?_
    have := hr a ha
    have := hr b hb
    omega
  · intro x hx u hu
    exact (hm u).2 (h.near_ids hu).2
  · rw [List.length_map, hp.length_eq]
    have := h.len
    simpa [Gr.ids'] using this
end Go.Pal
namespace Go.Pal
open Go

/-- An unordered pair in a list; two vertices are adjacent by an edge or by a pair that came. -/
def inP (c : List (Int × Int)) (u v : Int) : Bool := c.any fun p => (decide (p.1 = u) && decide (p.2 = v)) || (decide (p.1 = v) && decide (p.2 = u))
def rAdj (G : Gr) (c : List (Int × Int)) (u v : Int) : Bool := decide (0 ≤ G.edge u v) || inP c u v
theorem edgB_symm (u v : Int) : edgB u v = edgB v u := by
  funext p
  unfold edgB
  rw [Bool.or_comm]
theorem inP_symm (c : List (Int × Int)) (u v : Int) : inP c u v = inP c v u := by
  unfold inP
  congr 1
  funext p
  rw [Bool.or_comm]
theorem rAdj_symm (G : Gr) (c : List (Int × Int)) (u v : Int) : rAdj G c u v = rAdj G c v u := by
  unfold rAdj Gr.edge
  rw [inP_symm, edgB_symm]
theorem inP_snoc (c : List (Int × Int)) (p : Int × Int) (u v : Int) : inP (c ++ [p]) u v = (inP c u v || ((decide (p.1 = u) && decide (p.2 = v)) || (decide (p.1 = v) && decide (p.2 = u)))) := by
  unfold inP
  rw [List.any_append]
  simp

/-- The later neighbours of a vertex. -/
def rnStep (G : Gr) (c : List (Int × Int)) (x S y : Nat) : Nat := if rAdj G c (x : Int) (y : Int) = true then sIns S y else S
def rnS (G : Gr) (c : List (Int × Int)) (x : Nat) (l : List Nat) : Nat := l.foldl (rnStep G c x) 0
def rnTo (G : Gr) (c : List (Int × Int)) (o : List Nat) (i k : Nat) : Nat := rnS G c (o.getD i 0) ((o.take k).drop (i + 1))
theorem rnS_bit (G : Gr) (c : List (Int × Int)) (x v : Nat) : ∀ (l : List Nat) (S : Nat), (l.foldl (rnStep G c x) S).testBit v = (S.testBit v || (decide (v ∈ l) && rAdj G c (x : Int) (v : Int)))
  | [], S => by simp
  | y :: r, S => by
    rw [List.foldl_cons, rnS_bit G c x v r]
    by_cases hy : v = y
    · subst hy
      unfold rnStep
      cases hr : rAdj G c (x : Int) (v : Int) <;> simp [sIns_testBit, hr]
    · have : (rnStep G c x S y).testBit v = S.testBit v := by
        unfold rnStep
        split
        · rw [sIns_testBit]; simp; omega
        · rfl
      rw [this]
      simp [hy]
/-- The pairs that come when a vertex goes. -/
def rfStep (G : Gr) (a : Int) (c : List (Int × Int)) (b : Int) : List (Int × Int) := if rAdj G c a b = true then c else c ++ [(b, a)]
def rfIn (G : Gr) (near : List Int) (a k : Nat) (c : List (Int × Int)) : List (Int × Int) := (near.take k).foldl (rfStep G (near.getD a 0)) c
def rfTo (G : Gr) (near : List Int) (c : List (Int × Int)) (a : Nat) : List (Int × Int) := (List.range a).foldl (fun c a => rfIn G near a a c) c
theorem rfTo_succ (G : Gr) (near : List Int) (c : List (Int × Int)) (a : Nat) : rfTo G near c (a + 1) = rfIn G near a a (rfTo G near c a) := by
  unfold rfTo
  rw [List.range_succ, List.foldl_append]
  rfl
theorem rfStep_adj (G : Gr) (a b : Int) (c : List (Int × Int)) (u v : Int) : rAdj G (rfStep G a c b) u v = true ↔ rAdj G c u v = true ∨ (u = a ∧ v = b) ∨ (u = b ∧ v = a) := by
  unfold rfStep
  split
  · rename_i h
    constructor
    · exact .inl
    · rintro (h1 | ⟨rfl, rfl⟩ | ⟨rfl, rfl⟩)
      · exact h1
      · exact h
      · rw [rAdj_symm]; exact h
  · unfold rAdj
    rw [inP_snoc, ← Bool.or_assoc, Bool.or_eq_true]
    refine or_congr Iff.rfl ?_
    simp only [Bool.or_eq_true, Bool.and_eq_true, decide_eq_true_eq]
    constructor
    · rintro (⟨h1, h2⟩ | ⟨h1, h2⟩)
      · exact .inr ⟨h1.symm, h2.symm⟩
      · exact .inl ⟨h2.symm, h1.symm⟩
    · rintro (⟨h1, h2⟩ | ⟨h1, h2⟩)
      · exact .inr ⟨h2.symm, h1.symm⟩
      · exact .inl ⟨h1.symm, h2.symm⟩
theorem rfold_adj (G : Gr) (a : Int) (u v : Int) : ∀ (l : List Int) (c : List (Int × Int)), rAdj G (l.foldl (rfStep G a) c) u v = true ↔ rAdj G c u v = true ∨ ∃ b ∈ l, (u = a ∧ v = b) ∨ (u = b ∧ v = a)
  | [], c => by simp
  | b :: r, c => by
    rw [List.foldl_cons, rfold_adj G a u v r, rfStep_adj, or_assoc]
    refine or_congr Iff.rfl ?_
    simp only [List.mem_cons, exists_eq_or_imp]
theorem rfTo_adj (G : Gr) (near : List Int) (c : List (Int × Int)) (u v : Int) : ∀ k, rAdj G (rfTo G near c k) u v = true ↔ rAdj G c u v = true ∨ ∃ a < k, ∃ b ∈ near.take a, (u = near.getD a 0 ∧ v = b) ∨ (u = b ∧ v = near.getD a 0)
  | 0 => by simp [rfTo]
  | k + 1 => by
    rw [rfTo_succ, rfIn, rfold_adj, rfTo_adj G near c u v k, or_assoc]
    refine or_congr Iff.rfl ?_
    constructor
    · rintro (⟨a, h1, h2⟩ | h)
      · exact ⟨a, by omega, h2⟩
      · exact ⟨k, by omega, h⟩
    · rintro ⟨a, h1, h2⟩
      by_cases h : a = k
      · subst h; exact .inr h2
      · exact .inl ⟨a, by omega, h2⟩
theorem rf_all (G : Gr) {near : List Int} (hnd : near.Nodup) (c : List (Int × Int)) (u v : Int) : rAdj G (rfTo G near c near.length) u v = true ↔ rAdj G c u v = true ∨ (u ∈ near ∧ v ∈ near ∧ u ≠ v) := by
  rw [rfTo_adj]
  refine or_congr Iff.rfl ?_
  have hget : ∀ a, a < near.length → near[a]? = some (near.getD a 0) := fun a ha => by
    rw [List.getD_eq_getElem?_getD, List.getElem?_eq_getElem ha]; rfl
  have hne : ∀ a b, a < near.length → b ∈ near.take a → b ≠ near.getD a 0 := fun a b ha hb e => by
    obtain ⟨i, hi, rfl⟩ := List.mem_iff_getElem.1 hb
    rw [List.length_take] at hi
    rw [List.getElem_take] at e
    obtain ⟨h1, h2⟩ := List.getElem?_eq_some_iff.1 (hget a ha)
    exact List.pairwise_iff_getElem.1 hnd i a (by omega) h1 (by omega) (e.trans h2.symm)
  constructor
  · rintro ⟨a, ha, b, hb, ⟨rfl, rfl⟩ | ⟨rfl, rfl⟩⟩
    · exact ⟨List.mem_of_getElem? (hget a ha), List.mem_of_mem_take hb, (hne a _ ha hb).symm⟩
    · exact ⟨List.mem_of_mem_take hb, List.mem_of_getElem? (hget a ha), hne a _ ha hb⟩
  · rintro ⟨hu, hv, huv⟩
    obtain ⟨i, hi, rfl⟩ := List.mem_iff_getElem.1 hu
    obtain ⟨j, hj, rfl⟩ := List.mem_iff_getElem.1 hv
    have ei := hget i hi
    rw [List.getElem?_eq_getElem hi] at ei
    have ej := hget j hj
    rw [List.getElem?_eq_getElem hj] at ej
    simp only [Option.some.injEq] at ei ej
    have hmem : ∀ a b (ha : a < near.length), a < b → near[a] ∈ near.take b := fun a b ha hab => List.mem_iff_getElem.2 ⟨a, by rw [List.length_take]; omega, by rw [List.getElem_take]⟩
    rcases Nat.lt_trichotomy i j with h | h | h
    · exact ⟨j, hj, _, hmem i j hi h, .inr ⟨rfl, ej⟩⟩
    · subst h; exact absurd rfl huv
    · exact ⟨i, hi, _, hmem j i hj h, .inl ⟨ei, rfl⟩⟩

/-- The game as the reference plays it: the sets of later neighbours, and the pairs that came. -/
def rGame (G : Gr) (o : List Nat) : Nat → List Nat × List (Int × Int)
  | 0 => ([], [])
  | i + 1 => ((rGame G o i).1 ++ [rnTo G (rGame G o i).2 o i o.length], rfTo G (elemsI (rnTo G (rGame G o i).2 o i o.length)) (rGame G o i).2 (elemsI (rnTo G (rGame G o i).2 o i o.length)).length)
structure GInv (G : Gr) (f : Nat → Nat) (o : List Nat) (i : Nat) (c : List (Int × Int)) : Prop where
  adj : ∀ u ∈ o.drop i, ∀ v ∈ o.drop i, u ≠ v → rAdj G c u v = (gameAt f o i u).testBit v
  sup : ∀ u ∈ o.drop i, ∀ v, (gameAt f o i u).testBit v = true → v ∈ o.drop i ∧ v ≠ u
theorem gstep_bit (f : Nat → Nat) (x u v : Nat) : (gstep f x u).testBit v = if (f x).testBit u = true then (((f u).testBit v || (f x).testBit v) && !decide (u = v) && !decide (x = v)) else (f u).testBit v := by
  unfold gstep
  split
  · rw [sDel_testBit, sDel_testBit, Nat.testBit_or]
  · rfl
theorem ginv_row {G : Gr} {f : Nat → Nat} {o : List Nat} {i x : Nat} {c : List (Int × Int)} (hnd : o.Nodup) (hx : o[i]? = some x) (h : GInv G f o i c) : rnTo G c o i o.length = gameAt f o i x := by
  have hi := (List.getElem?_eq_some_iff.1 hx).1
  have hd : o.drop i = x :: o.drop (i + 1) := by
    rw [List.drop_eq_getElem_cons hi, (List.getElem?_eq_some_iff.1 hx).2]
  have hg : o.getD i 0 = x := by rw [List.getD_eq_getElem?_getD, hx]; rfl
  have hxn : x ∉ o.drop (i + 1) := by
    have := hnd.sublist (List.drop_sublist i o)
    rw [hd, List.nodup_cons] at this
    exact this.1
  apply Nat.eq_of_testBit_eq
  intro v
  unfold rnTo rnS
  rw [hg, List.take_length, rnS_bit, Nat.zero_testBit, Bool.false_or]
  have hxm : x ∈ o.drop i := by rw [hd]; simp
  by_cases hv : v ∈ o.drop (i + 1)
  · rw [decide_eq_true hv, Bool.true_and]
    exact h.adj x hxm v (by rw [hd]; simp [hv]) (fun e => hxn (by rw [e]; exact hv))
  · rw [decide_eq_false hv, Bool.false_and]
    cases hb : (gameAt f o i x).testBit v with
    | false => rfl
    | true =>
      obtain ⟨h1, h2⟩ := h.sup x hxm v hb
      rw [hd] at h1
      rcases List.mem_cons.1 h1 with e | e
      · exact absurd e h2
      · exact absurd e hv
theorem ginv_step {G : Gr} {f : Nat → Nat} {o : List Nat} {i x : Nat} {c : List (Int × Int)} (hnd : o.Nodup) (hs : ∀ u, IsSet (gameAt f o i u)) (hx : o[i]? = some x) (h : GInv G f o i c) :
    GInv G f o (i + 1) (rfTo G (elemsI (gameAt f o i x)) c (elemsI (gameAt f o i x)).length) := by
  have hi := (List.getElem?_eq_some_iff.1 hx).1
  have hd : o.drop i = x :: o.drop (i + 1) := by
    rw [List.drop_eq_getElem_cons hi, (List.getElem?_eq_some_iff.1 hx).2]
  have hxn : x ∉ o.drop (i + 1) := by
    have := hnd.sublist (List.drop_sublist i o)
    rw [hd, List.nodup_cons] at this
    exact this.1
  have hxm : x ∈ o.drop i := by rw [hd]; simp
  have hsub : ∀ u ∈ o.drop (i + 1), u ∈ o.drop i := fun u hu => by rw [hd]; simp [hu]
  have hne : ∀ u ∈ o.drop (i + 1), u ≠ x := fun u hu e => hxn (by rw [← e]; exact hu)
  have hndI : (elemsI (gameAt f o i x)).Nodup := (elemsI_sorted _).imp fun h => by omega
  have hsym : ∀ u ∈ o.drop (i + 1), (gameAt f o i u).testBit x = (gameAt f o i x).testBit u := fun u hu => by
    rw [← h.adj u (hsub u hu) x hxm (hne u hu), ← h.adj x hxm u (hsub u hu) (hne u hu).symm, rAdj_symm]
  refine ⟨fun u hu v hv huv => ?_, fun u hu v hb => ?_⟩
  · rw [gameAt_succ hx, gstep_bit, Bool.eq_iff_iff, rf_all G hndI, mem_elemsI (hs x), mem_elemsI (hs x), h.adj u (hsub u hu) v (hsub v hv) huv]
    have h1 := hne v hv
    have h2 : ¬ ((u : Int) = (v : Int)) := by omega
    cases hb : (gameAt f o i x).testBit u
    · simp
    · have h3 : decide (u = v) = false := by simp [huv]
      have h4 : decide (x = v) = false := by simp [Ne.symm h1]
      simp [h2, h3, h4]
  · rw [gameAt_succ hx, gstep_bit] at hb
    split at hb
    · simp only [Bool.and_eq_true, Bool.or_eq_true, Bool.not_eq_true', decide_eq_false_iff_not] at hb
      obtain ⟨⟨h1, h2⟩, h3⟩ := hb
      refine ⟨?_, Ne.symm h2⟩
      have h4 : v ∈ o.drop i := by
        rcases h1 with h1 | h1
        · exact (h.sup u (hsub u hu) v h1).1
        · exact (h.sup x hxm v h1).1
      rw [hd] at h4
      rcases List.mem_cons.1 h4 with e | e
      · exact absurd e.symm h3
      · exact e
    · rename_i hn
      obtain ⟨h1, h2⟩ := h.sup u (hsub u hu) v hb
      refine ⟨?_, h2⟩
      rw [hd] at h1
      rcases List.mem_cons.1 h1 with e | e
      · subst e
        rw [hsym u hu] at hb
        exact absurd hb hn
      · exact e
theorem ginv_start {G : Gr} (h : G.Ok) {o : List Nat} (hcl : Closed (fun x => G.near (x : Int)) o) : GInv G (fun x => G.near (x : Int)) o 0 [] := by
  refine ⟨fun u _ v _ _ => ?_, fun u hu v hb => ?_⟩
  · show (decide (0 ≤ G.edge u v) || inP [] u v) = (G.near (u : Int)).testBit v
    rw [h.near_bit, Gr.edge_some h]
    simp [inP]
  · have hb' : (G.near (u : Int)).testBit v = true := hb
    refine ⟨hcl u hu v hb', fun e => ?_⟩
    subst e
    rw [h.near_bit] at hb'
    obtain ⟨p, hp, hq⟩ := look_some.1 hb'
    have := (h.ends p hp).1
    rw [hq] at this
    unfold btw at this
    simp at this
theorem rGame_all {G : Gr} (hG : G.Ok) {o : List Nat} (hnd : o.Nodup) (hcl : Closed (fun x => G.near (x : Int)) o) : ∀ k, k ≤ o.length → (rGame G o k).1 = (List.range k).map (fun i => gameAt (fun x => G.near (x : Int)) o i (o.getD i 0)) ∧ GInv G (fun x => G.near (x : Int)) o k (rGame G o k).2
  | 0, _ => ⟨rfl, ginv_start hG hcl⟩
  | k + 1, hk => by
    obtain ⟨ih1, ih2⟩ := rGame_all hG hnd hcl k (by omega)
    have hx := getD_of (o := o) (i := k) (by omega)
    have hr := ginv_row hnd hx ih2
    unfold rGame
    rw [hr]
    refine ⟨?_, ginv_step hnd (isSet_gameAt (fun u => hG.isSet_near _) o k) hx ih2⟩
    rw [ih1, List.range_succ, List.map_append]
    rfl

theorem parTo_all (o : List Nat) (p : Int) : ∀ (l : List Nat), parTo o p l ≤ p ∧ (∀ u ∈ l, parTo o p l ≤ ((o.idxOf u : Nat) : Int)) ∧ (parTo o p l = p ∨ ∃ u ∈ l, parTo o p l = ((o.idxOf u : Nat) : Int)) := by
  suffices ∀ (l : List Nat) (p : Int), parTo o p l ≤ p ∧ (∀ u ∈ l, parTo o p l ≤ ((o.idxOf u : Nat) : Int)) ∧ (parTo o p l = p ∨ ∃ u ∈ l, parTo o p l = ((o.idxOf u : Nat) : Int)) from fun l => this l p
  intro l
  induction l with
  | nil => intro p; simp [parTo]
  | cons u r ih =>
    intro p
    have e : parTo o p (u :: r) = parTo o (min p ((o.idxOf u : Nat) : Int)) r := rfl
    rw [e]
    obtain ⟨h1, h2, h3⟩ := ih (min p ((o.idxOf u : Nat) : Int))
    refine ⟨by omega, fun v hv => ?_, ?_⟩
    · rcases List.mem_cons.1 hv with rfl | hv
      · omega
      · exact h2 v hv
    · rcases h3 with h | ⟨v, hv, h⟩
      · rcases Int.le_total p ((o.idxOf u : Nat) : Int) with hm | hm
        · exact .inl (by omega)
        · exact .inr ⟨u, by simp, by omega⟩
      · exact .inr ⟨v, by simp [hv], h⟩
theorem idxOf_getD {o : List Nat} (hnd : o.Nodup) {k : Nat} (hk : k < o.length) : o.idxOf (o.getD k 0) = k := by
  have h1 := getD_of (o := o) hk
  obtain ⟨h2, h3⟩ := List.getElem?_eq_some_iff.1 h1
  have h4 : o.idxOf (o.getD k 0) < o.length := List.idxOf_lt_length_of_mem (List.mem_of_getElem? h1)
  have h5 : o[o.idxOf (o.getD k 0)] = o.getD k 0 := List.getElem_idxOf h4
  rcases Nat.lt_trichotomy (o.idxOf (o.getD k 0)) k with h | h | h
  · exact absurd (h5.trans h3.symm) (List.pairwise_iff_getElem.1 hnd _ _ h4 h2 h)
  · exact h
  · exact absurd (h3.trans h5.symm) (List.pairwise_iff_getElem.1 hnd _ _ h2 h4 h)
/-! ### lengths -/
theorem nodup_length {α : Type} [DecidableEq α] {l m : List α} (h : l.Nodup) (hs : ∀ x ∈ l, x ∈ m) : l.length ≤ m.length := by
  rcases Nat.lt_or_ge m.length l.length with h1 | h1
  · have := (perm_of_nodup h hs (by omega)).length_eq
    omega
  · exact h1
end Go.Pal
