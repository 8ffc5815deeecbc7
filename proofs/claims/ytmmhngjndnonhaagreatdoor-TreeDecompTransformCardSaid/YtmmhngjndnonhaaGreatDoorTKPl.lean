/- Plain: valid trees of bags of any size of bags; the decomposition of an order is valid .. -/
import Derived.Test.YtmmhngjndnonhaaGreatDoorTJpl
import Derived.Test.YtmmhngjndnonhaaGreatDoorTPlain
import Derived.Test.YtmmhngjndnonhaaGreatDoorTTrG
set_option linter.all false
namespace Go.Pal
open Go
structure Val0 (T : List Bg) (t : Tr) : Prop where
 pos : 0 < T.length
 le : T.length ≤ 1024
 sets : ∀ x ∈ T, IsSet x.2
 par : ∀ (i : Nat) x, T[i]? = some x → x.1 = -1 ∨ ∃ p : Nat, x.1 = p ∧ p < T.length
 root : rootsTo T T.length = [(t.lab : Int)]
 fits : Fits T.length (kidsTo T T.length) t
 all : t.sz = T.length
 disj : ∀ i, i < T.length → topS T i &&& seenTo T i = 0
theorem rootsTo_one {T : List Bg} {r : Nat} (hr : r < T.length) (h : ∀ c, c < T.length → (parU T c = -1 ↔ c = r)) : ∀ k, k ≤ T.length → rootsTo T k = if r < k then [(r : Int)] else []
 | 0, _ => by simp [rootsTo]
 | k + 1, hk => by
   obtain ⟨x, hx⟩ : ∃ x, T[k]? = some x := ⟨_, List.getElem?_eq_getElem (by omega)⟩
   have hp : parU T k = x.1 := by simp [parU, hx]
   have h1 := h k (by omega)
   rw [hp] at h1
   rw [rootsTo_succ hx, rootsTo_one hr h k (by omega)]
   by_cases hkr : k = r
   · subst hkr
     rw [if_neg (by omega), if_pos (h1.2 rfl), if_pos (by omega)]
     rfl
   · rw [if_neg (fun e => hkr (h1.1 e)), List.append_nil]
     by_cases hlt : r < k
     · rw [if_pos hlt, if_pos (by omega)]
     · rw [if_neg hlt, if_neg (by omega)]
theorem val0_of {T : List Bg} {r0 M : Nat} {rk : Nat → Nat} (h : RkOk T r0 rk M) (hle : T.length ≤ 1024) (hS : ∀ x ∈ T, IsSet x.2)
   (hT : ∀ i j n, i < T.length → j < T.length → (topS T i).testBit n = true → (topS T j).testBit n = true → i = j) : ∃ t, Val0 T t ∧ t.lab = r0 ∧ t.labs.Nodup := by
 have hfuel : M - rk r0 ≤ M := Nat.sub_le _ _
 have hn := h.nodup _ r0 h.lt hfuel
 have hm := h.labs_mem _ r0 h.lt hfuel
 have hroot : ∀ c, c < T.length → (parU T c = -1 ↔ c = r0) := fun c hc => by
   constructor
   · intro e
     by_cases hcr : c = r0
     · exact hcr
     · obtain ⟨p, h1, -, -⟩ := h.par c hc hcr
       omega
   · rintro rfl
     exact h.head
 refine ⟨mkTr (kidN' T) M r0, ⟨Nat.lt_of_le_of_lt (Nat.zero_le _) h.lt, hle, hS, fun i x hx => ?_, ?_, h.fits _ r0 h.lt hfuel, ?_, fun i hi => ?_⟩, mkTr_lab _ _ _, hn⟩
 · have hi := (List.getElem?_eq_some_iff.1 hx).1
   have hp : parU T i = x.1 := by simp [parU, hx]
   by_cases hir : i = r0
   · subst hir
     exact .inl (by rw [← hp, h.head])
   · obtain ⟨p, h1, h2, -⟩ := h.par i hi hir
     exact .inr ⟨p, by rw [← hp, h1], h2⟩
 · rw [rootsTo_one h.lt hroot _ (Nat.le_refl _), if_pos h.lt, mkTr_lab]
 · rw [← Tr.length_labs]
   have h1 := length_le_of hn (l2 := List.range T.length) fun x hx => List.mem_range.2 ((hm x).1 hx).1
   have h2 := length_le_of (l1 := List.range T.length) List.nodup_range (l2 := (mkTr (kidN' T) M r0).labs) fun x hx => (hm x).2 ⟨List.mem_range.1 hx, h.steps_root _ x (Nat.le_refl _) (List.mem_range.1 hx)⟩
   rw [List.length_range] at h1 h2
   omega
 · apply Nat.eq_of_testBit_eq
   intro n
   rw [Nat.testBit_and, Nat.zero_testBit]
   cases h1 : (topS T i).testBit n with
   | false => rfl
   | true =>
     cases h2 : (seenTo T i).testBit n with
     | false => rfl
     | true =>
       obtain ⟨j, hj, h3⟩ := seenTo_bit h2
       have := hT i j n hi (by omega) h1 h3
       omega
structure TOk (T : List Bg) (r : Nat) : Prop where
 rk : ∃ rk M, RkOk T r rk M
 top : ∀ i j n, i < T.length → j < T.length → (topS T i).testBit n = true → (topS T j).testBit n = true → i = j
theorem TOk.lt {T : List Bg} {r : Nat} (h : TOk T r) : r < T.length := by
 obtain ⟨rk, M, h1⟩ := h.rk
 exact h1.lt
theorem TOk.head {T : List Bg} {r : Nat} (h : TOk T r) : parU T r = -1 := by
 obtain ⟨rk, M, h1⟩ := h.rk
 exact h1.head
theorem TOk.val {T : List Bg} {r : Nat} (h : TOk T r) (hle : T.length ≤ 1024) (hS : ∀ x ∈ T, IsSet x.2) : ∃ t, Val0 T t ∧ t.lab = r ∧ t.labs.Nodup := by
 obtain ⟨rk, M, h1⟩ := h.rk
 exact val0_of h1 hle hS h.top
section
variable {G : Gr} {o : List Nat}
theorem allTo_bit (T : List Bg) (v : Nat) : ∀ k, (allTo T k).testBit v = true ↔ ∃ x ∈ T.take k, x.2.testBit v = true
 | 0 => by simp [allTo]
 | k + 1 => by
   cases hx : T[k]? with
   | none =>
     have hl : T.length ≤ k := List.getElem?_eq_none_iff.1 hx
     have h1 : allTo T (k + 1) = allTo T k := by
       unfold allTo
       rw [List.take_of_length_le (by omega), List.take_of_length_le hl]
     rw [h1, allTo_bit T v k, List.take_of_length_le (show T.length ≤ k from hl), List.take_of_length_le (show T.length ≤ k + 1 by omega)]
   | some x =>
     rw [allTo_succ hx, Nat.testBit_or, Bool.or_eq_true, allTo_bit T v k, take_snoc hx]
     constructor
     · rintro (⟨y, hy, h⟩ | h)
       · exact ⟨y, List.mem_append_left _ hy, h⟩
       · exact ⟨x, by simp, h⟩
     · rintro ⟨y, hy, h⟩
       rcases List.mem_append.1 hy with hy | hy
       · exact .inl ⟨y, hy, h⟩
       · simp at hy
         subst hy
         exact .inr h
end
def TAdj (T : List Bg) (i j : Nat) : Prop := parU T i = (j : Int) ∨ parU T j = (i : Int)
structure TSame (T U : List Bg) : Prop where
 bags : U.map (·.2) = T.map (·.2)
 adj : ∀ i j, TAdj U i j ↔ TAdj T i j
theorem TSame.refl (T : List Bg) : TSame T T := ⟨rfl, fun _ _ => Iff.rfl⟩
theorem TSame.trans {T U V : List Bg} (h : TSame T U) (k : TSame U V) : TSame T V := ⟨k.bags.trans h.bags, fun i j => (k.adj i j).trans (h.adj i j)⟩
theorem TSame.symm {T U : List Bg} (h : TSame T U) : TSame U T := ⟨h.bags.symm, fun i j => (h.adj i j).symm⟩
theorem TSame.len {T U : List Bg} (h : TSame T U) : U.length = T.length := by
 have := congrArg List.length h.bags
 simpa using this
theorem TSame.bag {T U : List Bg} (h : TSame T U) (i : Nat) : bagN U i = bagN T i := by
 have := congrArg (fun l => l[i]?) h.bags
 simp only [List.getElem?_map] at this
 unfold bagN
 cases h1 : U[i]? with
 | none =>
   cases h2 : T[i]? with
   | none => rfl
   | some x => rw [h1, h2] at this; simp at this
 | some y =>
   cases h2 : T[i]? with
   | none => rw [h1, h2] at this; simp at this
   | some x =>
     rw [h1, h2] at this
     simpa using this
def setP (T : List Bg) (i : Nat) (p : Int) : List Bg := T.set i (p, bagN T i)
theorem setP_len (T : List Bg) (i : Nat) (p : Int) : (setP T i p).length = T.length := by simp [setP]
theorem setP_par {T : List Bg} {i : Nat} (hi : i < T.length) (p : Int) (j : Nat) : parU (setP T i p) j = if j = i then p else parU T j := by
 unfold parU setP
 by_cases h : j = i
 · subst h
   rw [List.getElem?_set_self hi]
   simp
 · rw [List.getElem?_set_ne (Ne.symm h), if_neg h]
theorem setP_bag (T : List Bg) (i : Nat) (p : Int) (j : Nat) : bagN (setP T i p) j = bagN T j := by
 unfold setP
 by_cases h : j = i
 · subst h
   unfold bagN
   by_cases hj : j < T.length
   · rw [List.getElem?_set_self hj]
   · rw [List.getElem?_eq_none (by rw [List.length_set]; omega), List.getElem?_eq_none (by omega)]
 · unfold bagN
   rw [List.getElem?_set_ne (Ne.symm h)]
theorem setP_bags (T : List Bg) (i : Nat) (p : Int) : (setP T i p).map (·.2) = T.map (·.2) := by
 unfold setP
 apply List.ext_getElem?
 intro j
 rw [List.getElem?_map, List.getElem?_map]
 by_cases h : j = i
 · subst h
   by_cases hj : j < T.length
   · rw [List.getElem?_set_self hj]
     simp [bagN, List.getElem?_eq_getElem hj]
   · rw [List.getElem?_eq_none (by rw [List.length_set]; omega), List.getElem?_eq_none (by omega)]
 · rw [List.getElem?_set_ne (Ne.symm h)]
def moveT (T : List Bg) (r c : Nat) : List Bg := setP (setP T c (-1)) r (c : Int)
theorem moveT_len (T : List Bg) (r c : Nat) : (moveT T r c).length = T.length := by simp [moveT, setP_len]
theorem moveT_par {T : List Bg} {r c : Nat} (hr : r < T.length) (hc : c < T.length) (j : Nat) : parU (moveT T r c) j = if j = r then (c : Int) else if j = c then -1 else parU T j := by
 unfold moveT
 rw [setP_par (by rw [setP_len]; exact hr), setP_par hc]
theorem moveT_bag (T : List Bg) (r c j : Nat) : bagN (moveT T r c) j = bagN T j := by
 unfold moveT
 rw [setP_bag, setP_bag]
theorem moveT_bags (T : List Bg) (r c : Nat) : (moveT T r c).map (·.2) = T.map (·.2) := by
 unfold moveT
 rw [setP_bags, setP_bags]
theorem topS_eq {T : List Bg} {i : Nat} (hi : i < T.length) : topS T i = if parU T i = -1 then bagN T i else if (parU T i).toNat < T.length then sDiff (bagN T i) (bagN T (parU T i).toNat) else 0 := by
 obtain ⟨x, hx⟩ : ∃ x, T[i]? = some x := ⟨_, List.getElem?_eq_getElem hi⟩
 have h1 : parU T i = x.1 := by simp [parU, hx]
 have h2 : bagN T i = x.2 := bagN_of hx
 rw [h1, h2]
 unfold topS
 rw [hx]
 simp only
 split
 · rfl
 · by_cases hp : x.1.toNat < T.length
   · rw [if_pos hp]
     obtain ⟨y, hy⟩ : ∃ y, T[x.1.toNat]? = some y := ⟨_, List.getElem?_eq_getElem hp⟩
     rw [hy, bagN_of hy]
   · rw [if_neg hp, List.getElem?_eq_none (by omega)]
theorem top_root {T : List Bg} {i n : Nat} (hi : i < T.length) (hp : parU T i = -1) : (topS T i).testBit n = (bagN T i).testBit n := by
 rw [topS_eq hi, if_pos hp]
theorem top_other {T : List Bg} {i p n : Nat} (hi : i < T.length) (hp : parU T i = (p : Int)) (hpl : p < T.length) : (topS T i).testBit n = ((bagN T i).testBit n && !(bagN T p).testBit n) := by
 rw [topS_eq hi, if_neg (by omega), hp, Int.toNat_natCast, if_pos hpl, sDiff_testBit]
theorem move_ok {T : List Bg} {r c : Nat} (h : TOk T r) (hc : c < T.length) (hp : parU T c = (r : Int)) : TOk (moveT T r c) c ∧ TSame T (moveT T r c) := by
 obtain ⟨rk, M, hk⟩ := h.rk
 have hr := hk.lt
 have hhd := hk.head
 have hcr : c ≠ r := fun e => by subst e; omega
 have hpar := moveT_par hr hc (T := T)
 have hlen := moveT_len T r c
 refine ⟨⟨⟨fun x => if x = c then 0 else rk x + 1, M + 1, ?_⟩, fun i j n hi hj h1 h2 => ?_⟩, moveT_bags T r c, fun i j => ?_⟩
 · refine ⟨by rw [hlen]; exact hc, by rw [hpar, if_neg hcr, if_pos rfl], fun x hx hxc => ?_, fun x hx => ?_⟩
   · rw [hlen] at hx ⊢
     by_cases hxr : x = r
     · subst hxr
       exact ⟨c, by rw [hpar, if_pos rfl], hc, by rw [if_pos rfl, if_neg (Ne.symm hcr)]; omega⟩
     · obtain ⟨p, h1, h2, h3⟩ := hk.par x hx hxr
       refine ⟨p, by rw [hpar, if_neg hxr, if_neg hxc, h1], h2, ?_⟩
       rw [if_neg hxc]
       split <;> omega
   · rw [hlen] at hx
     have := hk.bd x hx
     split <;> omega
 · rw [hlen] at hi hj
   -- a top of the moved tree is one of the tree, or the root for the child
   have key : ∀ i, i < T.length → (topS (moveT T r c) i).testBit n = true → (i = c ∧ (bagN T c).testBit n = true) ∨ (i ≠ c ∧ (topS T i).testBit n = true ∧ (i = r → (bagN T c).testBit n = false)) := fun i hi h1 => by
     by_cases hic : i = c
     · subst hic
       rw [top_root (by rw [hlen]; exact hi) (by rw [hpar, if_neg hcr, if_pos rfl]), moveT_bag] at h1
       exact .inl ⟨rfl, h1⟩
     · refine .inr ⟨hic, ?_⟩
       by_cases hir : i = r
       · subst hir
         rw [top_other (p := c) (by rw [hlen]; exact hi) (by rw [hpar, if_pos rfl]) (by rw [hlen]; exact hc), moveT_bag, moveT_bag] at h1
         simp only [Bool.and_eq_true, Bool.not_eq_true'] at h1
         exact ⟨by rw [top_root hi hhd]; exact h1.1, fun _ => h1.2⟩
       · obtain ⟨p, h3, h4, -⟩ := hk.par i hi hir
         rw [top_other (p := p) (by rw [hlen]; exact hi) (by rw [hpar, if_neg hir, if_neg hic, h3]) (by rw [hlen]; exact h4), moveT_bag, moveT_bag] at h1
         exact ⟨by rw [top_other hi h3 h4]; exact h1, fun e => absurd e hir⟩
   -- the child's vertices have their top at the child or at the root
   have hct : (bagN T c).testBit n = true → (topS T c).testBit n = true ∨ (topS T r).testBit n = true := fun hb => by
     rw [top_other hc hp hr, top_root hr hhd]
     cases hb2 : (bagN T r).testBit n <;> simp [hb]
   have key2 : ∀ i, i < T.length → i ≠ c → (topS T i).testBit n = true → (i = r → (bagN T c).testBit n = false) → (bagN T c).testBit n = true → False := fun i hi hic h3 h4 hb => by
     rcases hct hb with h5 | h5
     · exact hic (h.top i c n hi hc h3 h5)
     · have := h.top i r n hi hr h3 h5
       rw [h4 this] at hb
       cases hb
   rcases key i hi h1 with ⟨e1, b1⟩ | ⟨e1, t1, f1⟩
   · rcases key j hj h2 with ⟨e2, b2⟩ | ⟨e2, t2, f2⟩
     · rw [e1, e2]
     · exact (key2 j hj e2 t2 f2 b1).elim
   · rcases key j hj h2 with ⟨e2, b2⟩ | ⟨e2, t2, f2⟩
     · exact (key2 i hi e1 t1 f1 b2).elim
     · exact h.top i j n hi hj t1 t2
 · unfold TAdj
   rw [hpar, hpar]
   by_cases h1 : i = r
   · subst h1
     rw [if_pos rfl]
     by_cases h2 : j = i
     · subst h2
       rw [if_pos rfl, hhd]
       omega
     · rw [if_neg h2]
       by_cases h3 : j = c
       · subst h3
         rw [if_pos rfl, hp]
         omega
       · rw [if_neg h3, hhd]
         omega
   · rw [if_neg h1]
     by_cases h2 : j = r
     · subst h2
       rw [if_pos rfl, hhd]
       by_cases h3 : i = c
       · subst h3
         rw [if_pos rfl, hp]
         omega
       · rw [if_neg h3]
         omega
     · rw [if_neg h2]
       by_cases h3 : i = c
       · subst h3
         rw [if_pos rfl, hp]
         by_cases h4 : j = i
         · subst h4
           rw [if_pos rfl, hp]
           omega
         · rw [if_neg h4]
           omega
       · rw [if_neg h3]
         by_cases h4 : j = c
         · subst h4
           rw [if_pos rfl, hp]
           omega
         · rw [if_neg h4]
theorem turn_exists {T : List Bg} {r : Nat} (h : TOk T r) : ∀ k, k < T.length → ∃ U, TOk U k ∧ TSame T U := by
 obtain ⟨rk, M, hk⟩ := h.rk
 suffices ∀ n k, k < T.length → rk k ≤ n → ∃ U, TOk U k ∧ TSame T U ∧ ∀ j, j < T.length → rk k < rk j → parU U j = parU T j from fun k hkl => by
   obtain ⟨U, h1, h2, -⟩ := this (rk k) k hkl (Nat.le_refl _)
   exact ⟨U, h1, h2⟩
 intro n
 induction n with
 | zero =>
   intro k hkl hkn
   by_cases hkr : k = r
   · subst hkr
     exact ⟨T, h, TSame.refl T, fun _ _ _ => rfl⟩
   · obtain ⟨p, -, -, h3⟩ := hk.par k hkl hkr
     omega
 | succ n ih =>
   intro k hkl hkn
   by_cases hkr : k = r
   · subst hkr
     exact ⟨T, h, TSame.refl T, fun _ _ _ => rfl⟩
   · obtain ⟨p, h1, h2, h3⟩ := hk.par k hkl hkr
     obtain ⟨U, h4, h5, h6⟩ := ih p h2 (by omega)
     have h7 : parU U k = (p : Int) := by rw [h6 k hkl h3, h1]
     have hkU : k < U.length := by rw [h5.len]; exact hkl
     obtain ⟨h8, h9⟩ := move_ok h4 hkU h7
     refine ⟨moveT U p k, h8, h5.trans h9, fun j hj hkj => ?_⟩
     rw [moveT_par h4.lt hkU, if_neg (fun e => by subst e; omega), if_neg (fun e => by subst e; omega)]
     exact h6 j hj (by omega)
theorem turn_unique {A B : List Bg} {r : Nat} (hA : TOk A r) (hS : TSame A B) (hB : parU B r = -1) (hr : ∀ i, i < B.length → parU B i = -1 ∨ ∃ p : Nat, parU B i = (p : Int)) : B = A := by
 obtain ⟨rk, M, hk⟩ := hA.rk
 have hlen := hS.len
 have key : ∀ n p c, rk p ≤ n → p < A.length → c < A.length → parU A c = (p : Int) → parU B p = (c : Int) → False := by
   intro n
   induction n with
   | zero =>
     intro p c hn hp hc h1 h2
     by_cases hpr : p = r
     · subst hpr
       omega
     · obtain ⟨q, -, -, h5⟩ := hk.par p hp hpr
       omega
   | succ n ih =>
     intro p c hn hp hc h1 h2
     by_cases hpr : p = r
     · subst hpr
       omega
     · obtain ⟨q, h3, h4, h5⟩ := hk.par p hp hpr
       have hcr : c ≠ r := fun e => by
         subst e
         rw [hk.head] at h1
         omega
       obtain ⟨p', h6, -, h8⟩ := hk.par c hc hcr
       have hpp : p' = p := by omega
       subst hpp
       rcases (hS.adj p' q).2 (.inl h3) with h9 | h9
       · have : q = c := by omega
         subst this
         omega
       · exact ih q p' (by omega) h4 hp h3 h9
 have hpar : ∀ c, c < A.length → parU B c = parU A c := fun c hc => by
   by_cases hcr : c = r
   · subst hcr
     rw [hB, hk.head]
   · obtain ⟨p, h1, h2, h3⟩ := hk.par c hc hcr
     rcases (hS.adj c p).2 (.inl h1) with h4 | h4
     · rw [h4, h1]
     · exact (key _ p c (Nat.le_refl _) h2 hc h1 h4).elim
 apply List.ext_getElem?
 intro i
 by_cases hi : i < A.length
 · obtain ⟨x, hx⟩ : ∃ x, A[i]? = some x := ⟨_, List.getElem?_eq_getElem hi⟩
   obtain ⟨y, hy⟩ : ∃ y, B[i]? = some y := ⟨_, List.getElem?_eq_getElem (by omega)⟩
   have h1 := hpar i hi
   have h2 := hS.bag i
   rw [bagN_of hx, bagN_of hy] at h2
   simp [parU, hx, hy] at h1
   rw [hx, hy, Prod.ext h1 h2]
 · rw [List.getElem?_eq_none (by omega), List.getElem?_eq_none (by omega)]
theorem sets_same {T U : List Bg} (h : U.map (·.2) = T.map (·.2)) (hS : ∀ x ∈ T, IsSet x.2) : ∀ x ∈ U, IsSet x.2 := fun x hx => by
 have h1 : x.2 ∈ U.map (·.2) := List.mem_map.2 ⟨x, hx, rfl⟩
 rw [h] at h1
 obtain ⟨y, hy, e⟩ := List.mem_map.1 h1
 rw [← e]
 exact hS y hy
end Go.Pal
