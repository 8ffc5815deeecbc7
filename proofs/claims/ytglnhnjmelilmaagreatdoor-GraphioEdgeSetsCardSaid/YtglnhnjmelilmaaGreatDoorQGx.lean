/- Walks of package elimination: Check. Variables of the elimination's type Step in memory: .. -/
import Derived.Test.YtglnhnjmelilmaaGreatDoorQGrH
import Derived.Test.YtglnhnjmelilmaaGreatDoorQS3
import Derived.Test.YtglnhnjmelilmaaGreatDoorQGrf
import Derived.Test.YtglnhnjmelilmaaGreatDoorQR1g
set_option linter.all false
namespace Go.Pal
open Go
theorem isSet_insR {S : Nat} (h : IsSet S) (n : Int) : IsSet (insR S n) := by
 unfold insR
 split
 · exact isSet_ins h (by omega)
 · exact h
theorem isSet_ofTo (l : List Int) (k : Nat) : IsSet (ofTo l k) := by
 unfold ofTo
 generalize l.take k = m
 suffices ∀ (m : List Int) S, IsSet S → IsSet (m.foldl insR S) from this m 0 isSet_zero
 intro m
 induction m with
 | nil => exact fun S h => h
 | cons x r ih => exact fun S h => ih _ (isSet_insR h x)
theorem Gr.Ok.isSet_vset {G : Gr} (h : G.Ok) : IsSet G.vset := by
 unfold Gr.vset
 have key : ∀ k, k ≤ G.V.length → IsSet (vsetTo G.V k) := by
   intro k
   induction k with
   | zero => intro _; exact isSet_zero
   | succ k ih =>
     intro hk
     obtain ⟨x, hx⟩ : ∃ x, G.V[k]? = some x := ⟨_, List.getElem?_eq_getElem hk⟩
     rw [vsetTo_succ hx]
     have := h.ids x (List.mem_of_getElem? hx)
     exact isSet_ins (ih (by omega)) (by omega)
 exact key _ (Nat.le_refl _)
theorem Gr.Ok.isSet_near {G : Gr} (h : G.Ok) (n : Int) : IsSet (G.near n) := by
 unfold Gr.near
 have key : ∀ k, k ≤ G.E.length → IsSet (nearTo G.E n k) := by
   intro k
   induction k with
   | zero => intro _; exact isSet_zero
   | succ k ih =>
     intro hk
     obtain ⟨x, hx⟩ : ∃ x, G.E[k]? = some x := ⟨_, List.getElem?_eq_getElem hk⟩
     rw [nearTo_succ hx]
     have := h.endsI x (List.mem_of_getElem? hx)
     split
     · exact isSet_ins (ih (by omega)) (by omega)
     · split
       · exact isSet_ins (ih (by omega)) (by omega)
       · exact ih (by omega)
 exact key _ (Nat.le_refl _)
def Gr.ordE (G : Gr) (o : List Int) : Nat := if o.length = G.V.length ∧ ofTo o o.length = G.vset then 0 else 3
end Go.Pal
namespace Go.Proofs.YtglnhnjmelilmaaGreatDoor
open Go Go.RowKit Go.Pal
theorem wordsLit (S : Nat) : words S = #[.int .u64 (wd S 0 : Int), .int .u64 (wd S 1 : Int), .int .u64 (wd S 2 : Int), .int .u64 (wd S 3 : Int), .int .u64 (wd S 4 : Int), .int .u64 (wd S 5 : Int), .int .u64 (wd S 6 : Int), .int .u64 (wd S 7 : Int), .int .u64 (wd S 8 : Int), .int .u64 (wd S 9 : Int), .int .u64 (wd S 10 : Int), .int .u64 (wd S 11 : Int), .int .u64 (wd S 12 : Int), .int .u64 (wd S 13 : Int), .int .u64 (wd S 14 : Int), .int .u64 (wd S 15 : Int)] := by
 apply Array.ext'
 simp [words, List.ofFn_succ, Fin.succ]
theorem stepA_lit (p : Int) (S : Nat) : bagA (p, S) = #[.int .i64 p, .int .u64 (wd S 0 : Int), .int .u64 (wd S 1 : Int), .int .u64 (wd S 2 : Int), .int .u64 (wd S 3 : Int), .int .u64 (wd S 4 : Int), .int .u64 (wd S 5 : Int), .int .u64 (wd S 6 : Int), .int .u64 (wd S 7 : Int), .int .u64 (wd S 8 : Int), .int .u64 (wd S 9 : Int), .int .u64 (wd S 10 : Int), .int .u64 (wd S 11 : Int), .int .u64 (wd S 12 : Int), .int .u64 (wd S 13 : Int), .int .u64 (wd S 14 : Int), .int .u64 (wd S 15 : Int)] := by
 unfold bagA
 rw [wordsLit]
 apply Array.ext'
 simp
def pairA (x : Int × Int) : Array Value := #[.int .i64 x.1, .int .i64 x.2]
end Go.Proofs.YtglnhnjmelilmaaGreatDoor
namespace Go.Pal
open Go
def gstep (f : Nat → Nat) (x : Nat) : Nat → Nat := fun u => if (f x).testBit u then sDel (sDel (f u ||| f x) u) x else f u
def gameAt (f : Nat → Nat) (o : List Nat) (k : Nat) : Nat → Nat := (o.take k).foldl gstep f
theorem gameAt_succ {f : Nat → Nat} {o : List Nat} {k x : Nat} (h : o[k]? = some x) : gameAt f o (k + 1) = gstep (gameAt f o k) x := by
 unfold gameAt
 rw [List.take_add_one, h, List.foldl_append]
 rfl
theorem isSet_gstep {f : Nat → Nat} (h : ∀ u, IsSet (f u)) (x : Nat) : ∀ u, IsSet (gstep f x u) := by
 intro u
 unfold gstep
 split
 · exact isSet_del (isSet_del (isSet_or (h u) (h x)))
 · exact h u
theorem isSet_gameAt {f : Nat → Nat} (h : ∀ u, IsSet (f u)) (o : List Nat) (k : Nat) : ∀ u, IsSet (gameAt f o k u) := by
 unfold gameAt
 generalize o.take k = m
 induction m generalizing f with
 | nil => exact h
 | cons x r ih => exact ih (isSet_gstep h x)
def gpart (f : Nat → Nat) (x : Nat) (l : List Nat) : Nat → Nat := fun u => if u ∈ l then sDel (sDel (f u ||| f x) u) x else f u
theorem gpart_nil (f : Nat → Nat) (x : Nat) : gpart f x [] = f := by funext u; simp [gpart]
theorem gpart_all {f : Nat → Nat} {x : Nat} (h : IsSet (f x)) : gpart f x (elems (f x)) = gstep f x := by
 funext u
 unfold gpart gstep
 by_cases hu : (f x).testBit u = true
 · rw [if_pos ((mem_elems h).2 hu), if_pos hu]
 · rw [if_neg fun hm => hu ((mem_elems h).1 hm), if_neg hu]
theorem isSet_gpart {f : Nat → Nat} (h : ∀ u, IsSet (f u)) (x : Nat) (l : List Nat) : ∀ u, IsSet (gpart f x l u) := by
 intro u
 unfold gpart
 split
 · exact isSet_del (isSet_del (isSet_or (h u) (h x)))
 · exact h u
abbrev BS := {S : Nat // IsSet S}
open Classical in
noncomputable def toBS (S : Nat) : BS := if h : IsSet S then ⟨S, h⟩ else ⟨0, isSet_zero⟩
theorem toBS_val {S : Nat} (h : IsSet S) : (toBS S).1 = S := by
 unfold toBS
 rw [dif_pos h]
noncomputable def mp (f : Nat → Nat) (o : List Nat) : List (Int × BS) := o.map fun x : Nat => ((x : Int), toBS (f x))
theorem mp_length (f : Nat → Nat) (o : List Nat) : (mp f o).length = o.length := by simp [mp]
theorem look_mp {f : Nat → Nat} {o : List Nat} {u : Nat} (h : u ∈ o) : look (mp f o) (u : Int) = some (toBS (f u)) := by
 induction o with
 | nil => simp at h
 | cons a r ih =>
   unfold look mp
   rw [List.map_cons, List.find?_cons]
   by_cases ha : a = u
   · subst ha
     simp
   · have : decide ((a : Int) = (u : Int)) = false := by simp; omega
     rw [this]
     exact ih (List.mem_of_ne_of_mem (fun e => ha e.symm) h)
def updF (f : Nat → Nat) (u S : Nat) : Nat → Nat := fun v => if v = u then S else f v
theorem mp_congr {f g : Nat → Nat} {o : List Nat} (h : ∀ x ∈ o, f x = g x) : mp f o = mp g o := by
 unfold mp
 apply List.map_congr_left
 intro x hx
 rw [h x hx]
theorem del_mp {f : Nat → Nat} {o : List Nat} {u : Nat} (h : u ∉ o) : del (u : Int) (mp f o) = mp f o := del_all fun p hp e => by
 unfold mp at hp
 obtain ⟨x, hx, rfl⟩ := List.mem_map.1 hp
 simp only at e
 exact h (by rw [show u = x by omega]; exact hx)
theorem mp_upd {f : Nat → Nat} {u S : Nat} : ∀ {o : List Nat}, o.Nodup → u ∈ o → (((u : Int), toBS S) :: del (u : Int) (mp f o)).Perm (mp (updF f u S) o)
 | [], _, h => by simp at h
 | a :: r, hn, h => by
   rw [List.nodup_cons] at hn
   by_cases ha : a = u
   · subst ha
     have e1 : del (a : Int) (mp f (a :: r)) = mp f r := by
       show del (a : Int) (((a : Int), toBS (f a)) :: mp f r) = _
       unfold del
       rw [List.filter_cons, if_neg (by simp)]
       exact del_mp hn.1
     have e2 : mp (updF f a S) (a :: r) = ((a : Int), toBS S) :: mp f r := by
       show ((a : Int), toBS (updF f a S a)) :: mp (updF f a S) r = _
       rw [show updF f a S a = S by simp [updF], mp_congr fun x hx => show updF f a S x = f x by unfold updF; rw [if_neg fun e => hn.1 (by rw [← e]; exact hx)]]
     rw [e1, e2]
   · have hm := List.mem_of_ne_of_mem (fun e => ha e.symm) h
     have e1 : del (u : Int) (mp f (a :: r)) = ((a : Int), toBS (f a)) :: del (u : Int) (mp f r) := by
       show del (u : Int) (((a : Int), toBS (f a)) :: mp f r) = _
       unfold del
       rw [List.filter_cons, if_pos (by simp; omega)]
     have e2 : mp (updF f u S) (a :: r) = ((a : Int), toBS (f a)) :: mp (updF f u S) r := by
       show ((a : Int), toBS (updF f u S a)) :: mp (updF f u S) r = _
       rw [show updF f u S a = f a by simp [updF, ha]]
     rw [e1, e2]
     exact (List.Perm.swap _ _ _).trans ((mp_upd hn.2 hm).cons _)
theorem mp_snoc {f : Nat → Nat} {o : List Nat} {k x : Nat} (hn : o.Nodup) (h : o[k]? = some x) : (((x : Int), toBS (f x)) :: del (x : Int) (mp f (o.take k))).Perm (mp f (o.take (k + 1))) := by
 have hx : x ∉ o.take k := by
   intro hm
   obtain ⟨i, hi, he⟩ := List.mem_iff_getElem.1 hm
   rw [List.getElem_take] at he
   rw [List.length_take] at hi
   obtain ⟨hk, hke⟩ := List.getElem?_eq_some_iff.1 h
   exact List.pairwise_iff_getElem.1 hn i k (by omega) hk (by omega) (he.trans hke.symm)
 rw [del_mp hx, List.take_add_one, h]
 unfold mp
 rw [List.map_append]
 exact (List.perm_append_comm (l₁ := [((x : Int), toBS (f x))]))
theorem gpart_snoc {f : Nat → Nat} {x u : Nat} {l : List Nat} (h : u ∉ l) : gpart f x (l ++ [u]) = updF (gpart f x l) u (sDel (sDel (gpart f x l u ||| f x) u) x) := by
 funext v
 unfold gpart updF
 by_cases hv : v = u
 · subst hv
   simp [h]
 · simp [hv]
end Go.Pal
namespace Go.Proofs.YtglnhnjmelilmaaGreatDoor
open Go Go.RowKit Go.Pal
def CN : Cod Int BS := { key := fun n => .int .i64 n, kl := fun n => .int .i64 n, ok := InI, val := fun S => .agg (words S.1), dat := fun S => .agg ((List.range 16).map fun i => .lit (.int .u64 (wd S.1 i : Int))) }
theorem goodN : CN.Good Tryz.prog 3 where
 keyed := Maps.int_keyed Tryz.underlying3
 kinj x y _ _ h := by simpa [CN] using h
 isk x _ := trivial
 keyOf x hx := Maps.keyOf_int_mk Tryz.underlying3 (wf_i64 hx)
 vinj a b h := by
   simp only [CN, Value.agg.injEq] at h
   refine Subtype.ext (set_ext a.2 b.2 fun i hi => ?_)
   have h1 := words_get a.1 hi
   rw [h, words_get b.1 hi] at h1
   simp only [Option.some.injEq, Value.int.injEq, true_and] at h1
   omega
 dinj a b h := by
   simp only [CN, DataW.agg.injEq] at h
   refine Subtype.ext (set_ext a.2 b.2 fun i hi => ?_)
   have h1 := congrArg (fun l => l[i]?) h
   simp only [List.getElem?_map, List.getElem?_range hi, Option.map_some, Option.some.injEq, DataW.lit.injEq, Lit.int.injEq, true_and] at h1
   omega
end Go.Proofs.YtglnhnjmelilmaaGreatDoor
namespace Go.Pal
open Go
def Closed (f : Nat → Nat) (o : List Nat) : Prop := ∀ x ∈ o, ∀ u, (f x).testBit u = true → u ∈ o
theorem closed_gpart {f : Nat → Nat} {o l : List Nat} {x : Nat} (h : Closed f o) (hx : x ∈ o) : Closed (gpart f x l) o := by
 intro y hy u hu
 unfold gpart at hu
 split at hu
 · unfold sDel at hu
   rw [Nat.testBit_xor, Nat.testBit_and, Nat.testBit_xor, Nat.testBit_and, Nat.testBit_or] at hu
   cases h1 : (f y).testBit u with
   | true => exact h y hy u h1
   | false =>
     cases h2 : (f x).testBit u with
     | true => exact h x hx u h2
     | false => rw [h1, h2] at hu; simp at hu
 · exact h y hy u hu
theorem closed_gstep {f : Nat → Nat} {o : List Nat} {x : Nat} (h : Closed f o) (hx : x ∈ o) : Closed (gstep f x) o := by
 intro y hy u hu
 unfold gstep at hu
 split at hu
 · unfold sDel at hu
   rw [Nat.testBit_xor, Nat.testBit_and, Nat.testBit_xor, Nat.testBit_and, Nat.testBit_or] at hu
   cases h1 : (f y).testBit u with
   | true => exact h y hy u h1
   | false =>
     cases h2 : (f x).testBit u with
     | true => exact h x hx u h2
     | false => rw [h1, h2] at hu; simp at hu
 · exact h y hy u hu
theorem closed_gameAt {f : Nat → Nat} {o : List Nat} (h : Closed f o) : ∀ k, k ≤ o.length → Closed (gameAt f o k) o
 | 0, _ => h
 | k + 1, hk => by
   obtain ⟨x, hx⟩ : ∃ x, o[k]? = some x := ⟨_, List.getElem?_eq_getElem hk⟩
   rw [gameAt_succ hx]
   exact closed_gstep (closed_gameAt h k (by omega)) (List.mem_of_getElem? hx)
end Go.Pal
namespace Go.Proofs.YtglnhnjmelilmaaGreatDoor
open Go Go.RowKit Go.Pal
attribute [local go_sem] Oper.semAt_some
end Go.Proofs.YtglnhnjmelilmaaGreatDoor
