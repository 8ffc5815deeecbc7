/- Plain: the texts of vertices, edges and graphs as bytes; a graph is built by its own .. -/
import Derived.Test.YtglnhnjmelilmaaGreatDoorQJpl
import Derived.Test.YtglnhnjmelilmaaGreatDoorQVb
set_option linter.all false
namespace Go.Pal
open Go
def vLine (p : Int × Th) : List UInt8 := lineB [118, 101, 114, 116, 101, 120] [p.1, (p.2.1 : Int), p.2.2] ++ [10]
def eLine (p : (Int × Int) × Th) : List UInt8 := lineB [101, 100, 103, 101] [p.1.1, p.1.2, (p.2.1 : Int), p.2.2] ++ [10]
def Gr.text (G : Gr) : List UInt8 := G.V.flatMap vLine ++ G.E.flatMap eLine
theorem vLine_len {G : Gr} (h : G.Ok) {x : Int × Th} (hx : x ∈ G.V) : (vLine x).length ≤ 73 := by
 have h1 := h.ids x hx
 obtain ⟨h2, h3, h4⟩ := h.thV x hx
 have := lineB_len (s := [118, 101, 114, 116, 101, 120]) (ns := [x.1, (x.2.1 : Int), x.2.2]) (by
   intro n hn
   simp only [List.mem_cons, List.not_mem_nil, or_false] at hn
   rcases hn with rfl | rfl | rfl
   · exact inI_of (by omega) (by omega)
   · exact inI_of (by omega) (by omega)
   · exact inI_of (by omega) (by omega))
 unfold vLine
 simp only [List.length_append, List.length_cons, List.length_nil] at this ⊢
 omega
theorem eLine_len {G : Gr} (h : G.Ok) {x : (Int × Int) × Th} (hx : x ∈ G.E) : (eLine x).length ≤ 93 := by
 have h1 := h.endsI x hx
 obtain ⟨h2, h3, h4⟩ := h.thE x hx
 have := lineB_len (s := [101, 100, 103, 101]) (ns := [x.1.1, x.1.2, (x.2.1 : Int), x.2.2]) (by
   intro n hn
   simp only [List.mem_cons, List.not_mem_nil, or_false] at hn
   rcases hn with rfl | rfl | rfl | rfl
   · exact inI_of (by omega) (by omega)
   · exact inI_of (by omega) (by omega)
   · exact inI_of (by omega) (by omega)
   · exact inI_of (by omega) (by omega))
 unfold eLine
 simp only [List.length_append, List.length_cons, List.length_nil] at this ⊢
 omega
theorem Gr.textV_len {G : Gr} (h : G.Ok) (k : Nat) : ((G.V.take k).flatMap vLine).length ≤ 74752 := by
 have := flatMap_len (f := vLine) (b := 73) (l := G.V.take k) fun x hx => vLine_len h (List.mem_of_mem_take hx)
 have h1 := h.len
 rw [List.length_take] at this
 omega
theorem Gr.textE_len {G : Gr} (h : G.Ok) (k : Nat) : ((G.E.take k).flatMap eLine).length ≤ 95232 := by
 have := flatMap_len (f := eLine) (b := 93) (l := G.E.take k) fun x hx => eLine_len h (List.mem_of_mem_take hx)
 have h1 := h.most
 rw [List.length_take] at this
 omega
theorem flatMap_take_snoc {α : Type} {f : α → List UInt8} {l : List α} {k : Nat} {x : α} (h : l[k]? = some x) : (l.take (k + 1)).flatMap f = (l.take k).flatMap f ++ f x := by
 rw [take_snoc h]
 simp
def nrmE (p : (Int × Int) × Th) : (Int × Int) × Th := (btw p.1.1 p.1.2, p.2)
def flipE (p : (Int × Int) × Th) : (Int × Int) × Th := ((p.1.2, p.1.1), p.2)
theorem btw_comm (u v : Int) : btw u v = btw v u := by
 unfold btw
 rw [Int.min_comm, Int.max_comm]
theorem nrm_flip (p : (Int × Int) × Th) : nrmE (flipE p) = nrmE p := by
 unfold nrmE flipE
 simp only
 rw [btw_comm]
theorem nrm_own {G : Gr} (h : G.Ok) : G.E.map nrmE = G.E := by
 conv => rhs; rw [← List.map_id G.E]
 refine List.map_congr_left fun x hx => ?_
 unfold nrmE
 rw [btw_of (h.ends x hx).1]
 rfl
theorem del_putS {α β : Type} [DecidableEq α] {lt : α → α → Bool} (O : Ord lt) {l : List (α × β)} (h : Srt lt l) {x : α} (t : β) (hx : ∀ p ∈ l, p.1 ≠ x) : del x (putS lt x t l) = l := by
 refine srt_unique O (del_srt (putS_srt O x t h) x) h ?_
 have h1 := (putS_perm O x t h).filter fun p => !decide (p.1 = x)
 have h2 : ((x, t) :: del x l).filter (fun p => !decide (p.1 = x)) = l := by
   rw [List.filter_cons, if_neg (by simp)]
   rw [del_all hx]
   exact del_all hx
 rw [h2] at h1
 exact h1.symm
theorem putS_new {α β : Type} [DecidableEq α] {lt : α → α → Bool} (O : Ord lt) {l : List (α × β)} (h : Srt lt l) {x : α} (t : β) (hx : ∀ p ∈ l, p.1 ≠ x) : ((x, t) :: l).Perm (putS lt x t l) := by
 have h1 := putS_perm O x t h
 rwa [del_all hx] at h1
theorem take_key {α β : Type} {l : List (α × β)} (h : NoDup l) {k : Nat} {x : α × β} (hx : l[k]? = some x) : ∀ p ∈ l.take k, p.1 ≠ x.1 := by
 intro p hp
 obtain ⟨i, hi, rfl⟩ := List.mem_iff_getElem.1 hp
 rw [List.length_take] at hi
 rw [List.getElem_take]
 obtain ⟨hk, rfl⟩ := List.getElem?_eq_some_iff.1 hx
 exact List.pairwise_iff_getElem.1 h i k (by omega) hk (by omega)
theorem made_v {G : Gr} (h : G.Ok) {vs : List (Int × Th)} (hp : vs.Perm G.V) : ∀ k, k ≤ vs.length → ∃ A : Gr, A = madeTo (vs.map vEd) k ∧ A.Ok ∧ A.E = [] ∧ A.V.Perm (vs.take k) := by
 have hnd : NoDup vs := (h.sV.nd ordV).perm hp.symm
 have hwf : ∀ e ∈ vs.map vEd, e.Wf := by
   intro e he
   obtain ⟨x, hx, rfl⟩ := List.mem_map.1 he
   exact vEd_wf h (hp.mem_iff.1 hx)
 intro k
 induction k with
 | zero => exact fun _ => ⟨_, rfl, madeTo_ok hwf 0, by simp [madeTo, Gr.none], by simp [madeTo, Gr.none]⟩
 | succ k ih =>
   intro hk
   obtain ⟨A, hA, hok, hE, hV⟩ := ih (by omega)
   obtain ⟨x, hx⟩ : ∃ x, vs[k]? = some x := ⟨_, List.getElem?_eq_getElem (by omega)⟩
   have hm := hp.mem_iff.1 (List.mem_of_getElem? hx)
   have h1 := h.ids x hm
   obtain ⟨h2, h3, h4⟩ := h.thV x hm
   have hno : ∀ p ∈ A.V, p.1 ≠ x.1 := fun p hp' => take_key hnd hx p (hV.mem_iff.1 hp')
   have e1 : idB (vEd x).u = true := by show idB x.1 = true; unfold idB; simp; omega
   have e2 : heavyB (vEd x).wt = false := by show heavyB x.2.2 = false; unfold heavyB; simp; omega
   have e3 : (look A.V (vEd x).u).isSome = false := look_absent hno
   have e4 : (vEd x).pairs = false := rfl
   have e5 : (vEd x).op = 0 := rfl
   have hw : A.wrong (vEd x) = 0 := by
     unfold Gr.wrong
     simp [e1, e2, e3, e4, e5]
   have hs : madeTo (vs.map vEd) (k + 1) = A.app (vEd x) := by rw [madeTo_succ (e := vEd x) (by rw [List.getElem?_map, hx]; rfl), ← hA]
   refine ⟨_, rfl, madeTo_ok hwf _, ?_, ?_⟩
   · rw [hs]
     unfold Gr.app
     rw [if_pos hw]
     unfold Gr.doit
     rw [if_pos e5]
     exact hE
   · rw [hs]
     unfold Gr.app
     rw [if_pos hw]
     unfold Gr.doit
     rw [if_pos e5]
     refine (putS_new ordV hok.sV _ hno).symm.trans ?_
     refine (hV.cons _).trans ?_
     rw [take_snoc hx]
     exact List.perm_append_singleton x _ |>.symm
theorem v_step {G : Gr} (h : G.Ok) {vs : List (Int × Th)} (hp : vs.Perm G.V) {k : Nat} {x : Int × Th} (hx : vs[k]? = some x) : (vEd x).Wf ∧ (madeTo (vs.map vEd) k).Ok ∧ (madeTo (vs.map vEd) k).wrong (vEd x) = 0 ∧ (madeTo (vs.map vEd) k).app (vEd x) = madeTo (vs.map vEd) (k + 1) := by
 have hkl := (List.getElem?_eq_some_iff.1 hx).1
 have hnd : NoDup vs := (h.sV.nd ordV).perm hp.symm
 obtain ⟨A, hA, hok, hE, hV⟩ := made_v h hp k (by omega)
 have hm := hp.mem_iff.1 (List.mem_of_getElem? hx)
 have h1 := h.ids x hm
 obtain ⟨h2, h3, h4⟩ := h.thV x hm
 have hno : ∀ p ∈ A.V, p.1 ≠ x.1 := fun p hp' => take_key hnd hx p (hV.mem_iff.1 hp')
 have e1 : idB (vEd x).u = true := by show idB x.1 = true; unfold idB; simp; omega
 have e2 : heavyB (vEd x).wt = false := by show heavyB x.2.2 = false; unfold heavyB; simp; omega
 have e3 : (look A.V (vEd x).u).isSome = false := look_absent hno
 have e4 : (vEd x).pairs = false := rfl
 have e5 : (vEd x).op = 0 := rfl
 rw [← hA]
 refine ⟨vEd_wf h hm, hok, ?_, ?_⟩
 · unfold Gr.wrong
   simp [e1, e2, e3, e4, e5]
 · rw [madeTo_succ (e := vEd x) (by rw [List.getElem?_map, hx]; rfl), ← hA]
theorem made_v_all {G : Gr} (h : G.Ok) {vs : List (Int × Th)} (hp : vs.Perm G.V) : madeTo (vs.map vEd) vs.length = ⟨G.V, []⟩ := by
 obtain ⟨A, hA, hok, hE, hV⟩ := made_v h hp vs.length (Nat.le_refl _)
 rw [List.take_length] at hV
 rw [← hA]
 have := srt_unique ordV hok.sV h.sV (hV.trans hp)
 cases A
 simp only at this hE
 rw [this, hE]
def edgTo (G : Gr) (es : List ((Int × Int) × Th)) (k : Nat) : Gr := ((es.map eEd).take k).foldl Gr.app ⟨G.V, []⟩
theorem edgTo_succ {G : Gr} {es : List ((Int × Int) × Th)} {k : Nat} {x : (Int × Int) × Th} (hx : es[k]? = some x) : edgTo G es (k + 1) = (edgTo G es k).app (eEd x) := by
 unfold edgTo
 rw [take_snoc (x := eEd x) (by rw [List.getElem?_map, hx]; rfl), List.foldl_append]
 rfl
theorem e_facts {G : Gr} (h : G.Ok) {es : List ((Int × Int) × Th)} (hp : (es.map nrmE).Perm G.E) {x : (Int × Int) × Th} (hx : x ∈ es) :
   x.1.1 ≠ x.1.2 ∧ (0 ≤ x.1.1 ∧ x.1.1 < 1024) ∧ (0 ≤ x.1.2 ∧ x.1.2 < 1024) ∧ ThOk x.2 ∧ (look G.V x.1.1).isSome = true ∧ (look G.V x.1.2).isSome = true := by
 have hm : nrmE x ∈ G.E := hp.mem_iff.1 (List.mem_map.2 ⟨x, hx, rfl⟩)
 have h1 := h.endsI _ hm
 have h2 := h.thE _ hm
 obtain ⟨h3, h4, h5⟩ := h.ends _ hm
 obtain ⟨⟨u, v⟩, t⟩ := x
 unfold nrmE btw at h1 h2 h3 h4 h5
 simp only at h1 h2 h3 h4 h5 ⊢
 refine ⟨by omega, by omega, by omega, h2, ?_, ?_⟩
 · rcases Int.le_total u v with hle | hle
   · rwa [Int.min_eq_left hle] at h4
   · rwa [Int.max_eq_left hle] at h5
 · rcases Int.le_total u v with hle | hle
   · rwa [Int.max_eq_right hle] at h5
   · rwa [Int.min_eq_right hle] at h4
theorem eEd_wf2 {G : Gr} (h : G.Ok) {es : List ((Int × Int) × Th)} (hp : (es.map nrmE).Perm G.E) {x : (Int × Int) × Th} (hx : x ∈ es) : (eEd x).Wf := by
 obtain ⟨-, h1, h2, ⟨h3, h4, h5⟩, -, -⟩ := e_facts h hp hx
 exact ⟨inI_2, ⟨by show _ ≤ x.1.1; omega, by show x.1.1 ≤ _; omega⟩, ⟨by show _ ≤ x.1.2; omega, by show x.1.2 ≤ _; omega⟩, h3, ⟨by show _ ≤ x.2.2; omega, by show x.2.2 ≤ _; omega⟩⟩
theorem e_step_of {G : Gr} (h : G.Ok) {es : List ((Int × Int) × Th)} (hp : (es.map nrmE).Perm G.E) {k : Nat} {x : (Int × Int) × Th} (hx : es[k]? = some x) {A : Gr} (hAV : A.V = G.V) (hAE : A.E.Perm ((es.map nrmE).take k)) :
   A.wrong (eEd x) = 0 ∧ ∀ p ∈ A.E, p.1 ≠ btw x.1.1 x.1.2 := by
 have hnd : NoDup (es.map nrmE) := (h.sE.nd Go.Pal.ordE).perm hp.symm
 have hxm := List.mem_of_getElem? hx
 obtain ⟨h1, h2, h3, ⟨h4, h5, h6⟩, h7, h8⟩ := e_facts h hp hxm
 have hxn : (es.map nrmE)[k]? = some (nrmE x) := by rw [List.getElem?_map, hx]; rfl
 have hno : ∀ p ∈ A.E, p.1 ≠ btw x.1.1 x.1.2 := fun p hp' => take_key hnd hxn p (hAE.mem_iff.1 hp')
 refine ⟨?_, hno⟩
 have e0 : idB (eEd x).u = true := by show idB x.1.1 = true; unfold idB; simp; omega
 have e1 : idB (eEd x).v = true := by show idB x.1.2 = true; unfold idB; simp; omega
 have e2 : heavyB (eEd x).wt = false := by show heavyB x.2.2 = false; unfold heavyB; simp; omega
 have e3 : (look A.E (btw (eEd x).u (eEd x).v)).isSome = false := look_absent hno
 have e4 : (eEd x).pairs = true := rfl
 have e5 : (eEd x).op = 2 := rfl
 have e6 : (look A.V (eEd x).u).isSome = true := by rw [hAV]; exact h7
 have e7 : (look A.V (eEd x).v).isSome = true := by rw [hAV]; exact h8
 have e8 : ¬ (eEd x).u = (eEd x).v := h1
 have e9 : ¬ 1024 ≤ A.E.length := by
   have hl := (List.getElem?_eq_some_iff.1 hxn).1
   have h9 := h.most
   rw [← hp.length_eq] at h9
   rw [hAE.length_eq, List.length_take]
   omega
 unfold Gr.wrong
 simp only [e0, e1, e2, e3, e4, e5, e6, e7, decide_eq_false e8, decide_eq_false e9]
 simp
theorem made_e {G : Gr} (h : G.Ok) {es : List ((Int × Int) × Th)} (hp : (es.map nrmE).Perm G.E) : ∀ k, k ≤ es.length → (edgTo G es k).Ok ∧ (edgTo G es k).V = G.V ∧ (edgTo G es k).E.Perm ((es.map nrmE).take k) := by
 intro k
 induction k with
 | zero => exact fun _ => ⟨⟨h.sV, List.Pairwise.nil, h.ids, by simp [edgTo], h.thV, by simp [edgTo], by simp [edgTo]⟩, rfl, by simp [edgTo]⟩
 | succ k ih =>
   intro hk
   obtain ⟨hok, hV, hE⟩ := ih (by omega)
   obtain ⟨x, hx⟩ : ∃ x, es[k]? = some x := ⟨_, List.getElem?_eq_getElem (by omega)⟩
   obtain ⟨hw, hno⟩ := e_step_of h hp hx hV hE
   have hxn : (es.map nrmE)[k]? = some (nrmE x) := by rw [List.getElem?_map, hx]; rfl
   rw [edgTo_succ hx]
   refine ⟨hok.app (eEd_wf2 h hp (List.mem_of_getElem? hx)), ?_, ?_⟩
   · unfold Gr.app
     rw [if_pos hw]
     unfold Gr.doit
     rw [if_neg (by show ¬ (2 : Int) = 0; omega), if_neg (by show ¬ (2 : Int) = 1; omega), if_pos (show (eEd x).op = 2 from rfl)]
     exact hV
   · unfold Gr.app
     rw [if_pos hw]
     unfold Gr.doit
     rw [if_neg (by show ¬ (2 : Int) = 0; omega), if_neg (by show ¬ (2 : Int) = 1; omega), if_pos (show (eEd x).op = 2 from rfl)]
     refine (putS_new Go.Pal.ordE hok.sE _ hno).symm.trans ?_
     refine (hE.cons _).trans ?_
     rw [take_snoc hxn]
     exact List.perm_append_singleton _ _ |>.symm
theorem e_step {G : Gr} (h : G.Ok) {es : List ((Int × Int) × Th)} (hp : (es.map nrmE).Perm G.E) {k : Nat} {x : (Int × Int) × Th} (hx : es[k]? = some x) : (eEd x).Wf ∧ (edgTo G es k).Ok ∧ (edgTo G es k).wrong (eEd x) = 0 ∧ (edgTo G es k).app (eEd x) = edgTo G es (k + 1) := by
 have hkl := (List.getElem?_eq_some_iff.1 hx).1
 obtain ⟨hok, hV, hE⟩ := made_e h hp k (by omega)
 exact ⟨eEd_wf2 h hp (List.mem_of_getElem? hx), hok, (e_step_of h hp hx hV hE).1, (edgTo_succ hx).symm⟩
theorem edgTo_all {G : Gr} (h : G.Ok) {es : List ((Int × Int) × Th)} (hp : (es.map nrmE).Perm G.E) : edgTo G es es.length = G := by
 obtain ⟨hok, hV, hE⟩ := made_e h hp es.length (Nat.le_refl _)
 rw [List.take_of_length_le (by simp)] at hE
 have := srt_unique Go.Pal.ordE hok.sE h.sE (hE.trans hp)
 obtain ⟨A, hA⟩ : ∃ A, A = edgTo G es es.length := ⟨_, rfl⟩
 rw [← hA] at hV this ⊢
 cases A
 cases G
 simp only at hV this
 rw [hV, this]
def plus1000 : Ed := ⟨0, 1000, 0, 0, 0⟩
def drop1000 : Ed := ⟨1, 1000, 0, 0, 0⟩
theorem plus_wf : plus1000.Wf := ⟨inI_0, ⟨by decide, by decide⟩, inI_0, by decide, inI_0⟩
theorem drop_wf : drop1000.Wf := ⟨⟨by decide, by decide⟩, ⟨by decide, by decide⟩, inI_0, by decide, inI_0⟩
theorem plus_drop {G : Gr} (h : G.Ok) (hw : G.wrong plus1000 = 0) : (G.app plus1000).app drop1000 = G := by
 have hf := Gr.fine_of hw
 have hno : ∀ p ∈ G.V, p.1 ≠ 1000 := fun p hp e => by
   have := hf.new rfl
   rw [show plus1000.u = 1000 from rfl] at this
   have h2 := look_some.2 ⟨p, hp, e⟩
   rw [this] at h2
   cases h2
 have hap : G.app plus1000 = ⟨putS ltV 1000 (0, 0) G.V, G.E⟩ := by
   unfold Gr.app
   rw [if_pos hw]
   rfl
 have hl : (look (putS ltV (1000 : Int) ((0, 0) : Th) G.V) 1000).isSome = true := by
   rw [look_putS ordV _ _ h.sV, if_pos rfl]
   rfl
 rw [hap]
 have hw2 : (Gr.mk (putS ltV 1000 (0, 0) G.V) G.E).wrong drop1000 = 0 := by
   have e1 : idB drop1000.u = true := by decide
   have e4 : drop1000.pairs = false := by decide
   have e5 : drop1000.weighs = false := by decide
   have e6 : (look (putS ltV (1000 : Int) ((0, 0) : Th) G.V) drop1000.u).isSome = true := hl
   have e7 : drop1000.op = 1 := rfl
   unfold Gr.wrong
   simp [e1, e4, e5, e6, e7]
 unfold Gr.app
 rw [if_pos hw2]
 unfold Gr.doit
 rw [if_neg (by decide), if_pos (by decide)]
 have hE : (G.E.filter fun p => !(decide (p.1.1 = drop1000.u) || decide (p.1.2 = drop1000.u))) = G.E := by
   rw [List.filter_eq_self]
   intro p hp
   obtain ⟨-, h2, h3⟩ := h.ends p hp
   obtain ⟨q, hq, hq2⟩ := look_some.1 h2
   obtain ⟨r, hr, hr2⟩ := look_some.1 h3
   have n1 : p.1.1 ≠ 1000 := fun e => hno q hq (by rw [hq2, e])
   have n2 : p.1.2 ≠ 1000 := fun e => hno r hr (by rw [hr2, e])
   show (!(decide (p.1.1 = 1000) || decide (p.1.2 = 1000))) = true
   simp [n1, n2]
 have hV : del drop1000.u (putS ltV 1000 (0, 0) G.V) = G.V := del_putS ordV h.sV _ hno
 simp only [hE, hV]
end Go.Pal
