/- Plain: the vertices, then the edges, of a graph added in their order build it; orders of .. -/
import Derived.Test.YtglnhnjmelilmaaGreatDoorQGp
import Derived.Test.YtglnhnjmelilmaaGreatDoorQGx
set_option linter.all false
namespace Go.Pal
open Go
def vEd (p : Int × Th) : Ed := ⟨0, p.1, 0, p.2.1, p.2.2⟩
def eEd (p : (Int × Int) × Th) : Ed := ⟨2, p.1.1, p.1.2, p.2.1, p.2.2⟩
theorem putS_last {α β : Type} [DecidableEq α] {lt : α → α → Bool} (O : Ord lt) {x : α} {t : β} : ∀ {l : List (α × β)}, (∀ p ∈ l, lt p.1 x = true) → putS lt x t l = l ++ [(x, t)]
 | [], _ => rfl
 | p :: r, h => by
   have h1 := h p (by simp)
   unfold putS
   rw [if_neg (fun h2 => by have := O.trans _ _ _ h1 h2; rw [O.irrefl] at this; cases this), if_neg (fun e => by rw [e, O.irrefl] at h1; cases h1), putS_last O fun q hq => h q (by simp [hq])]
   rfl
theorem srt_take_lt {α β : Type} {lt : α → α → Bool} {l : List (α × β)} (h : Srt lt l) {k : Nat} {x : α × β} (hx : l[k]? = some x) : ∀ p ∈ l.take k, lt p.1 x.1 = true := by
 intro p hp
 obtain ⟨i, hi, rfl⟩ := List.mem_iff_getElem.1 hp
 rw [List.length_take] at hi
 rw [List.getElem_take]
 obtain ⟨hk, rfl⟩ := List.getElem?_eq_some_iff.1 hx
 exact List.pairwise_iff_getElem.1 h i k (by omega) hk (by omega)
theorem look_absent {α β : Type} [DecidableEq α] {l : List (α × β)} {x : α} (h : ∀ p ∈ l, p.1 ≠ x) : (look l x).isSome = false := by
 cases hl : (look l x).isSome with
 | false => rfl
 | true =>
   obtain ⟨p, hp, e⟩ := look_some.1 hl
   exact absurd e (h p hp)
theorem look_before {α β : Type} [DecidableEq α] {lt : α → α → Bool} (O : Ord lt) {l : List (α × β)} (h : Srt lt l) {k : Nat} {x : α × β} (hx : l[k]? = some x) : (look (l.take k) x.1).isSome = false :=
 look_absent fun p hp e => by
   have := srt_take_lt h hx p hp
   rw [e, O.irrefl] at this
   cases this
theorem take_snoc {α : Type} {l : List α} {k : Nat} {x : α} (h : l[k]? = some x) : l.take (k + 1) = l.take k ++ [x] := by rw [List.take_add_one, h]; rfl
def Gr.vPart (G : Gr) (k : Nat) : Gr := ⟨G.V.take k, []⟩
def Gr.ePart (G : Gr) (k : Nat) : Gr := ⟨G.V, G.E.take k⟩
theorem Gr.vPart_ok {G : Gr} (h : G.Ok) (k : Nat) : (G.vPart k).Ok :=
 ⟨h.sV.sublist (List.take_sublist _ _), List.Pairwise.nil, fun p hp => h.ids p (List.mem_of_mem_take hp), by simp [Gr.vPart], fun p hp => h.thV p (List.mem_of_mem_take hp), by simp [Gr.vPart], by simp [Gr.vPart]⟩
theorem Gr.ePart_ok {G : Gr} (h : G.Ok) (k : Nat) : (G.ePart k).Ok :=
 ⟨h.sV, h.sE.sublist (List.take_sublist _ _), h.ids, fun p hp => h.ends p (List.mem_of_mem_take hp), h.thV, fun p hp => h.thE p (List.mem_of_mem_take hp), by have := h.most; unfold Gr.ePart; simp only [List.length_take]; omega⟩
theorem inI_0 : InI 0 := ⟨by decide, by decide⟩
theorem inI_2 : InI 2 := ⟨by decide, by decide⟩
theorem vEd_wf {G : Gr} (h : G.Ok) {x : Int × Th} (hx : x ∈ G.V) : (vEd x).Wf := by
 have h1 := h.ids x hx
 obtain ⟨h2, h3, h4⟩ := h.thV x hx
 exact ⟨inI_0, ⟨by show _ ≤ x.1; omega, by show x.1 ≤ _; omega⟩, inI_0, h2, ⟨by show _ ≤ x.2.2; omega, by show x.2.2 ≤ _; omega⟩⟩
theorem eEd_wf {G : Gr} (h : G.Ok) {x : (Int × Int) × Th} (hx : x ∈ G.E) : (eEd x).Wf := by
 have h1 := h.endsI x hx
 obtain ⟨h2, h3, h4⟩ := h.thE x hx
 exact ⟨inI_2, ⟨by show _ ≤ x.1.1; omega, by show x.1.1 ≤ _; omega⟩, ⟨by show _ ≤ x.1.2; omega, by show x.1.2 ≤ _; omega⟩, h2, ⟨by show _ ≤ x.2.2; omega, by show x.2.2 ≤ _; omega⟩⟩
theorem Gr.v_wrong {G : Gr} (h : G.Ok) {k : Nat} {x : Int × Th} (hx : G.V[k]? = some x) : (G.vPart k).wrong (vEd x) = 0 := by
 have hm := List.mem_of_getElem? hx
 have h1 := h.ids x hm
 obtain ⟨h2, h3, h4⟩ := h.thV x hm
 have hl := look_before ordV h.sV hx
 have e1 : idB (vEd x).u = true := by show idB x.1 = true; unfold idB; simp; omega
 have e2 : heavyB (vEd x).wt = false := by show heavyB x.2.2 = false; unfold heavyB; simp; omega
 have e3 : (look (G.vPart k).V (vEd x).u).isSome = false := hl
 have e4 : (vEd x).pairs = false := rfl
 have e5 : (vEd x).op = 0 := rfl
 unfold Gr.wrong
 simp [e1, e2, e3, e4, e5]
theorem Gr.v_app {G : Gr} (h : G.Ok) {k : Nat} {x : Int × Th} (hx : G.V[k]? = some x) : (G.vPart k).app (vEd x) = G.vPart (k + 1) := by
 unfold Gr.app
 rw [if_pos (Gr.v_wrong h hx)]
 unfold Gr.doit
 rw [if_pos (show (vEd x).op = 0 from rfl)]
 show Gr.mk (putS ltV x.1 (x.2.1, x.2.2) (G.V.take k)) [] = Gr.mk (G.V.take (k + 1)) []
 rw [putS_last ordV (srt_take_lt h.sV hx), take_snoc hx]
theorem btw_of {u v : Int} (h : u < v) : btw u v = (u, v) := by
 unfold btw
 rw [Int.min_eq_left (by omega), Int.max_eq_right (by omega)]
theorem Gr.e_wrong {G : Gr} (h : G.Ok) {k : Nat} {x : (Int × Int) × Th} (hx : G.E[k]? = some x) : (G.ePart k).wrong (eEd x) = 0 := by
 have hm := List.mem_of_getElem? hx
 have h1 := h.endsI x hm
 obtain ⟨h2, h3, h4⟩ := h.thE x hm
 obtain ⟨h5, h6, h7⟩ := h.ends x hm
 have hl := look_before Go.Pal.ordE h.sE hx
 have hb : btw (eEd x).u (eEd x).v = x.1 := by rw [show (eEd x).u = x.1.1 from rfl, show (eEd x).v = x.1.2 from rfl, btw_of h5]
 have e0 : idB (eEd x).u = true := by show idB x.1.1 = true; unfold idB; simp; omega
 have e1 : idB (eEd x).v = true := by show idB x.1.2 = true; unfold idB; simp; omega
 have e2 : heavyB (eEd x).wt = false := by show heavyB x.2.2 = false; unfold heavyB; simp; omega
 have e3 : (look (G.ePart k).E x.1).isSome = false := hl
 have e4 : (eEd x).pairs = true := rfl
 have e5 : (eEd x).op = 2 := rfl
 have e6 : (look (G.ePart k).V (eEd x).u).isSome = true := h6
 have e7 : (look (G.ePart k).V (eEd x).v).isSome = true := h7
 have e8 : ¬ (eEd x).u = (eEd x).v := by show ¬ x.1.1 = x.1.2; omega
 have e9 : ¬ 1024 ≤ (G.ePart k).E.length := by
   have := (List.getElem?_eq_some_iff.1 hx).1
   have := h.most
   unfold Gr.ePart
   simp only [List.length_take]
   omega
 unfold Gr.wrong
 rw [hb]
 simp only [e0, e1, e2, e3, e4, e5, e6, e7, decide_eq_false e8, decide_eq_false e9]
 simp
theorem Gr.e_app {G : Gr} (h : G.Ok) {k : Nat} {x : (Int × Int) × Th} (hx : G.E[k]? = some x) : (G.ePart k).app (eEd x) = G.ePart (k + 1) := by
 unfold Gr.app
 rw [if_pos (Gr.e_wrong h hx)]
 unfold Gr.doit
 rw [if_neg (by show ¬ (2 : Int) = 0; omega), if_neg (by show ¬ (2 : Int) = 1; omega), if_pos (show (eEd x).op = 2 from rfl)]
 show Gr.mk G.V (putS ltE (btw x.1.1 x.1.2) (x.2.1, x.2.2) (G.E.take k)) = Gr.mk G.V (G.E.take (k + 1))
 rw [btw_of (h.ends x (List.mem_of_getElem? hx)).1, putS_last Go.Pal.ordE (srt_take_lt h.sE hx), take_snoc hx]
def madeTo (l : List Ed) (k : Nat) : Gr := (l.take k).foldl Gr.app Gr.none
theorem madeTo_succ {l : List Ed} {k : Nat} {e : Ed} (h : l[k]? = some e) : madeTo l (k + 1) = (madeTo l k).app e := by
 unfold madeTo
 rw [take_snoc h, List.foldl_append]
 rfl
theorem madeTo_ok {l : List Ed} (h : ∀ e ∈ l, e.Wf) : ∀ k, (madeTo l k).Ok := by
 intro k
 unfold madeTo
 suffices ∀ (m : List Ed) G, (∀ e ∈ m, e.Wf) → G.Ok → (m.foldl Gr.app G).Ok from this _ _ (fun e he => h e (List.mem_of_mem_take he)) gr_none_ok
 intro m
 induction m with
 | nil => exact fun G _ h => h
 | cons e r ih => exact fun G hw hG => ih _ (fun x hx => hw x (by simp [hx])) (hG.app (hw e (by simp)))
def Gr.ids' (G : Gr) : List Int := G.V.map (·.1)
theorem insR_bit (S : Nat) (n : Int) (m : Nat) : (insR S n).testBit m = (S.testBit m || decide (n = (m : Int) ∧ m < 1024)) := by
 unfold insR
 split
 · rw [sIns_testBit]
   congr 1
   rw [Bool.eq_iff_iff]
   simp
   omega
 · have : decide (n = (m : Int) ∧ m < 1024) = false := by simp; omega
   rw [this, Bool.or_false]
theorem foldl_insR_bit (l : List Int) : ∀ (S m : Nat), (l.foldl insR S).testBit m = (S.testBit m || decide ((m : Int) ∈ l ∧ m < 1024)) := by
 induction l with
 | nil => intro S m; simp
 | cons x r ih =>
   intro S m
   rw [List.foldl_cons, ih, insR_bit, Bool.or_assoc]
   congr 1
   rw [Bool.eq_iff_iff]
   simp
   constructor
   · rintro (⟨h1, h2⟩ | ⟨h1, h2⟩)
     · exact ⟨.inl h1.symm, h2⟩
     · exact ⟨.inr h1, h2⟩
   · rintro ⟨h1 | h1, h2⟩
     · exact .inl ⟨h1.symm, h2⟩
     · exact .inr ⟨h1, h2⟩
theorem ofTo_bit (l : List Int) (m : Nat) : (ofTo l l.length).testBit m = decide ((m : Int) ∈ l ∧ m < 1024) := by
 unfold ofTo
 rw [List.take_length, foldl_insR_bit]
 simp
theorem vsetTo_bit {l : List (Int × Th)} (h : ∀ p ∈ l, 0 ≤ p.1) (m : Nat) : ∀ k, k ≤ l.length → (vsetTo l k).testBit m = decide ((m : Int) ∈ (l.take k).map (·.1)) := by
 intro k
 induction k with
 | zero => intro _; simp [vsetTo]
 | succ k ih =>
   intro hk
   obtain ⟨x, hx⟩ : ∃ x, l[k]? = some x := ⟨_, List.getElem?_eq_getElem hk⟩
   have := h x (List.mem_of_getElem? hx)
   rw [vsetTo_succ hx, sIns_testBit, ih (by omega), take_snoc hx, List.map_append]
   rw [Bool.eq_iff_iff]
   simp only [Bool.or_eq_true, decide_eq_true_eq, List.mem_append, List.map_cons, List.map_nil, List.mem_singleton]
   constructor
   · rintro (h | h)
     · exact .inl h
     · exact .inr (by omega)
   · rintro (h | h)
     · exact .inl h
     · exact .inr (by omega)
theorem Gr.Ok.vset_bit {G : Gr} (h : G.Ok) (m : Nat) : G.vset.testBit m = decide ((m : Int) ∈ G.ids') := by
 unfold Gr.vset Gr.ids'
 rw [vsetTo_bit (fun p hp => (h.ids p hp).1) m _ (Nat.le_refl _), List.take_length]
theorem Gr.Ok.ids_range {G : Gr} (h : G.Ok) : ∀ n ∈ G.ids', 0 ≤ n ∧ n < 1024 := by
 intro n hn
 obtain ⟨p, hp, rfl⟩ := List.mem_map.1 hn
 exact h.ids p hp
theorem Gr.Ok.ids_nodup {G : Gr} (h : G.Ok) : G.ids'.Nodup := by
 unfold Gr.ids' List.Nodup
 rw [List.pairwise_map]
 exact h.sV.nd ordV
theorem perm_of_nodup {α : Type} [DecidableEq α] : ∀ {l m : List α}, l.Nodup → (∀ x ∈ l, x ∈ m) → m.length ≤ l.length → l.Perm m
 | [], m, _, _, hl => by
   have : m = [] := List.length_eq_zero_iff.1 (by simpa using hl)
   rw [this]
 | a :: r, m, hn, hs, hl => by
   rw [List.nodup_cons] at hn
   have ha := hs a (by simp)
   have hp := List.perm_cons_erase ha
   refine List.Perm.trans (List.Perm.cons a (perm_of_nodup hn.2 (fun x hx => ?_) ?_)) hp.symm
   · exact (List.mem_erase_of_ne (fun e => hn.1 (by rw [← e]; exact hx))).2 (hs x (by simp [hx]))
   · have := hp.length_eq
     simp at this hl
     rw [List.length_erase_of_mem ha]
     omega
theorem Gr.Ok.ordE_iff {G : Gr} (h : G.Ok) (o : List Int) : G.ordE o = 0 ↔ o.Perm G.ids' := by
 unfold Gr.ordE
 have hl : G.ids'.length = G.V.length := by simp [Gr.ids']
 constructor
 · intro h0
   split at h0
   · rename_i h1
     refine (perm_of_nodup h.ids_nodup (fun n hn => ?_) (by omega)).symm
     have hr := h.ids_range n hn
     have h2 : G.vset.testBit n.toNat = true := by rw [h.vset_bit, decide_eq_true_eq, show ((n.toNat : Nat) : Int) = n by omega]; exact hn
     rw [← h1.2, ofTo_bit] at h2
     simp at h2
     rw [show max n 0 = n by omega] at h2
     exact h2.1
   · cases h0
 · intro hp
   rw [if_pos]
   refine ⟨by rw [hp.length_eq, hl], ?_⟩
   apply Nat.eq_of_testBit_eq
   intro m
   rw [ofTo_bit, h.vset_bit, Bool.eq_iff_iff]
   simp only [decide_eq_true_eq, hp.mem_iff]
   constructor
   · exact fun h => h.1
   · exact fun hm => ⟨hm, by have := h.ids_range _ hm; omega⟩
theorem Gr.Ok.near_bit {G : Gr} (h : G.Ok) (n m : Nat) : (G.near n).testBit m = (look G.E (btw n m)).isSome := by
 have key : ∀ k, k ≤ G.E.length → ((nearTo G.E n k).testBit m = true ↔ ∃ p ∈ G.E.take k, p.1 = btw n m) := by
   intro k
   induction k with
   | zero => intro _; simp [nearTo]
   | succ k ih =>
     intro hk
     obtain ⟨x, hx⟩ : ∃ x, G.E[k]? = some x := ⟨_, List.getElem?_eq_getElem hk⟩
     have h1 := h.endsI x (List.mem_of_getElem? hx)
     rw [nearTo_succ hx, take_snoc hx]
     have ih' := ih (by omega)
     have e : (∃ p ∈ G.E.take k ++ [x], p.1 = btw n m) ↔ (∃ p ∈ G.E.take k, p.1 = btw n m) ∨ x.1 = btw n m := by
       constructor
       · rintro ⟨p, hp, e⟩
         rcases List.mem_append.1 hp with hp | hp
         · exact .inl ⟨p, hp, e⟩
         · simp at hp
           subst hp
           exact .inr e
       · rintro (⟨p, hp, e⟩ | e)
         · exact ⟨p, List.mem_append_left _ hp, e⟩
         · exact ⟨x, by simp, e⟩
     rw [e, ← ih']
     obtain ⟨⟨xu, xv⟩, xt⟩ := x
     unfold btw
     simp only at h1 ⊢
     rw [Prod.mk.injEq]
     split
     · rename_i h2
       rw [sIns_testBit]
       simp only [Bool.or_eq_true, decide_eq_true_eq]
       constructor
       · rintro (h | h)
         · exact .inl h
         · exact .inr (by omega)
       · rintro (h | h)
         · exact .inl h
         · exact .inr (by omega)
     · split
       · rename_i h2 h3
         rw [sIns_testBit]
         simp only [Bool.or_eq_true, decide_eq_true_eq]
         constructor
         · rintro (h | h)
           · exact .inl h
           · exact .inr (by omega)
         · rintro (h | h)
           · exact .inl h
           · exact .inr (by omega)
       · rename_i h2 h3
         constructor
         · exact .inl
         · rintro (h | h)
           · exact h
           · omega
 have := key G.E.length (Nat.le_refl _)
 unfold Gr.near
 rw [Bool.eq_iff_iff, this, List.take_length, look_some]
theorem Gr.Ok.near_ids {G : Gr} (h : G.Ok) {n m : Nat} (hb : (G.near n).testBit m = true) : (n : Int) ∈ G.ids' ∧ (m : Int) ∈ G.ids' := by
 rw [h.near_bit] at hb
 obtain ⟨h1, h2⟩ := h.edge_ends hb
 obtain ⟨p, hp, hpe⟩ := look_some.1 h1
 obtain ⟨q, hq, hqe⟩ := look_some.1 h2
 exact ⟨List.mem_map.2 ⟨p, hp, hpe⟩, List.mem_map.2 ⟨q, hq, hqe⟩⟩
theorem Gr.Ok.order {G : Gr} (h : G.Ok) {o : List Int} (hp : o.Perm G.ids') : ∃ o' : List Nat, o = o'.map (fun i : Nat => (i : Int)) ∧ (∀ x ∈ o', x < 1024) ∧ o'.Nodup ∧ Closed (fun x => G.near (x : Int)) o' ∧ o'.length ≤ 1024 ∧ (∀ x : Nat, x ∈ o' ↔ (x : Int) ∈ G.ids') := by
 have hr : ∀ n ∈ o, 0 ≤ n ∧ n < 1024 := fun n hn => h.ids_range n (hp.mem_iff.1 hn)
 have he : o = (o.map Int.toNat).map (fun i : Nat => (i : Int)) := by
   rw [List.map_map]
   conv => lhs; rw [← List.map_id o]
   apply List.map_congr_left
   intro n hn
   have := hr n hn
   simp
   omega
 have hm : ∀ x : Nat, x ∈ o.map Int.toNat ↔ (x : Int) ∈ G.ids' := fun x => by
   rw [← hp.mem_iff]
   constructor
   · intro hx
     obtain ⟨n, hn, rfl⟩ := List.mem_map.1 hx
     rw [show ((n.toNat : Nat) : Int) = n by have := hr n hn; omega]
     exact hn
   · intro hx
     exact List.mem_map.2 ⟨_, hx, by omega⟩
 refine ⟨o.map Int.toNat, he, fun x hx => ?_, ?_, ?_, ?_, hm⟩
 · obtain ⟨n, hn, rfl⟩ := List.mem_map.1 hx
   have := hr n hn
   omega
 · have hn : o.Nodup := (hp.nodup_iff).2 h.ids_nodup
   unfold List.Nodup at hn ⊢
   rw [List.pairwise_map]
   refine hn.imp_of_mem fun {a b} ha hb hab e => hab ?_
   have := hr a ha
   have := hr b hb
   omega
 · intro x hx u hu
   exact (hm u).2 (h.near_ids hu).2
 · rw [List.length_map, hp.length_eq]
   have := h.len
   simpa [Gr.ids'] using this
end Go.Pal
