/- Plain: valid trees of bags of any size of bags; the decomposition of an order is valid .. -/
import Derived.Test.YteiibpfabgfolaaGreatDoorVJpl
import Derived.Test.YteiibpfabgfolaaGreatDoorVPlain
import Derived.Test.YteiibpfabgfolaaGreatDoorVTrG
set_option linter.all false
namespace Go.Pal
open Go
structure Val0 (T : List Bg) (t : Tr) : Prop where
 pos : 0 < T.length
 le : T.length ≤ 1024
 sets : ∀ x ∈ T, IsSet x.2
 par : ∀ (i : Nat) x, T[i]? = some x → x.1 = -1 ∨ ∃ p : Nat, x.1 = p ∧ p < T.length
 root : rootsTo T T.length = [(t.lab : Int)]
 fits : Fits T.length (kidsTo T T.length) t
 all : t.sz = T.length
 disj : ∀ i, i < T.length → topS T i &&& seenTo T i = 0
theorem rootsTo_one {T : List Bg} {r : Nat} (hr : r < T.length) (h : ∀ c, c < T.length → (parU T c = -1 ↔ c = r)) : ∀ k, k ≤ T.length → rootsTo T k = if r < k then [(r : Int)] else []
 | 0, _ => by simp [rootsTo]
 | k + 1, hk => by
   obtain ⟨x, hx⟩ : ∃ x, T[k]? = some x := ⟨_, List.getElem?_eq_getElem (by omega)⟩
   have hp : parU T k = x.1 := by simp [parU, hx]
   have h1 := h k (by omega)
   rw [hp] at h1
   rw [rootsTo_succ hx, rootsTo_one hr h k (by omega)]
   by_cases hkr : k = r
   · subst hkr
     rw [if_neg (by omega), if_pos (h1.2 rfl), if_pos (by omega)]
     rfl
   · rw [if_neg (fun e => hkr (h1.1 e)), List.append_nil]
     by_cases hlt : r < k
     · rw [if_pos hlt, if_pos (by omega)]
     · rw [if_neg hlt, if_neg (by omega)]
theorem val0_of {T : List Bg} {r0 M : Nat} {rk : Nat → Nat} (h : RkOk T r0 rk M) (hle : T.length ≤ 1024) (hS : ∀ x ∈ T, IsSet x.2)
   (hT : ∀ i j n, i < T.length → j < T.length → (topS T i).testBit n = true → (topS T j).testBit n = true → i = j) : ∃ t, Val0 T t ∧ t.lab = r0 ∧ t.labs.Nodup := by
 have hfuel : M - rk r0 ≤ M := Nat.sub_le _ _
 have hn := h.nodup _ r0 h.lt hfuel
 have hm := h.labs_mem _ r0 h.lt hfuel
 have hroot : ∀ c, c < T.length → (parU T c = -1 ↔ c = r0) := fun c hc => by
   constructor
   · intro e
     by_cases hcr : c = r0
     · exact hcr
     · obtain ⟨p, h1, -, -⟩ := h.par c hc hcr
       omega
   · rintro rfl
     exact h.head
 refine ⟨mkTr (kidN' T) M r0, ⟨Nat.lt_of_le_of_lt (Nat.zero_le _) h.lt, hle, hS, fun i x hx => ?_, ?_, h.fits _ r0 h.lt hfuel, ?_, fun i hi => ?_⟩, mkTr_lab _ _ _, hn⟩
 · have hi := (List.getElem?_eq_some_iff.1 hx).1
   have hp : parU T i = x.1 := by simp [parU, hx]
   by_cases hir : i = r0
   · subst hir
     exact .inl (by rw [← hp, h.head])
   · obtain ⟨p, h1, h2, -⟩ := h.par i hi hir
     exact .inr ⟨p, by rw [← hp, h1], h2⟩
 · rw [rootsTo_one h.lt hroot _ (Nat.le_refl _), if_pos h.lt, mkTr_lab]
 · rw [← Tr.length_labs]
   have h1 := length_le_of hn (l2 := List.range T.length) fun x hx => List.mem_range.2 ((hm x).1 hx).1
   have h2 := length_le_of (l1 := List.range T.length) List.nodup_range (l2 := (mkTr (kidN' T) M r0).labs) fun x hx => (hm x).2 ⟨List.mem_range.1 hx, h.steps_root _ x (Nat.le_refl _) (List.mem_range.1 hx)⟩
   rw [List.length_range] at h1 h2
   omega
 · apply Nat.eq_of_testBit_eq
   intro n
   rw [Nat.testBit_and, Nat.zero_testBit]
   cases h1 : (topS T i).testBit n with
   | false => rfl
   | true =>
     cases h2 : (seenTo T i).testBit n with
     | false => rfl
     | true =>
       obtain ⟨j, hj, h3⟩ := seenTo_bit h2
       have := hT i j n hi (by omega) h1 h3
       omega
structure TOk (T : List Bg) (r : Nat) : Prop where
 rk : ∃ rk M, RkOk T r rk M
 top : ∀ i j n, i < T.length → j < T.length → (topS T i).testBit n = true → (topS T j).testBit n = true → i = j
theorem TOk.lt {T : List Bg} {r : Nat} (h : TOk T r) : r < T.length := by
 obtain ⟨rk, M, h1⟩ := h.rk
 exact h1.lt
theorem TOk.head {T : List Bg} {r : Nat} (h : TOk T r) : parU T r = -1 := by
 obtain ⟨rk, M, h1⟩ := h.rk
 exact h1.head
theorem TOk.val {T : List Bg} {r : Nat} (h : TOk T r) (hle : T.length ≤ 1024) (hS : ∀ x ∈ T, IsSet x.2) : ∃ t, Val0 T t ∧ t.lab = r ∧ t.labs.Nodup := by
 obtain ⟨rk, M, h1⟩ := h.rk
 exact val0_of h1 hle hS h.top
section
variable {G : Gr} {o : List Nat}
end
def TAdj (T : List Bg) (i j : Nat) : Prop := parU T i = (j : Int) ∨ parU T j = (i : Int)
structure TSame (T U : List Bg) : Prop where
 bags : U.map (·.2) = T.map (·.2)
 adj : ∀ i j, TAdj U i j ↔ TAdj T i j
theorem TSame.refl (T : List Bg) : TSame T T := ⟨rfl, fun _ _ => Iff.rfl⟩
theorem TSame.trans {T U V : List Bg} (h : TSame T U) (k : TSame U V) : TSame T V := ⟨k.bags.trans h.bags, fun i j => (k.adj i j).trans (h.adj i j)⟩
theorem TSame.symm {T U : List Bg} (h : TSame T U) : TSame U T := ⟨h.bags.symm, fun i j => (h.adj i j).symm⟩
theorem TSame.len {T U : List Bg} (h : TSame T U) : U.length = T.length := by
 have := congrArg List.length h.bags
 simpa using this
theorem TSame.bag {T U : List Bg} (h : TSame T U) (i : Nat) : bagN U i = bagN T i := by
 have := congrArg (fun l => l[i]?) h.bags
 simp only [List.getElem?_map] at this
 unfold bagN
 cases h1 : U[i]? with
 | none =>
   cases h2 : T[i]? with
   | none => rfl
   | some x => rw [h1, h2] at this; simp at this
 | some y =>
   cases h2 : T[i]? with
   | none => rw [h1, h2] at this; simp at this
   | some x =>
     rw [h1, h2] at this
     simpa using this
theorem topS_eq {T : List Bg} {i : Nat} (hi : i < T.length) : topS T i = if parU T i = -1 then bagN T i else if (parU T i).toNat < T.length then sDiff (bagN T i) (bagN T (parU T i).toNat) else 0 := by
 obtain ⟨x, hx⟩ : ∃ x, T[i]? = some x := ⟨_, List.getElem?_eq_getElem hi⟩
 have h1 : parU T i = x.1 := by simp [parU, hx]
 have h2 : bagN T i = x.2 := bagN_of hx
 rw [h1, h2]
 unfold topS
 rw [hx]
 simp only
 split
 · rfl
 · by_cases hp : x.1.toNat < T.length
   · rw [if_pos hp]
     obtain ⟨y, hy⟩ : ∃ y, T[x.1.toNat]? = some y := ⟨_, List.getElem?_eq_getElem hp⟩
     rw [hy, bagN_of hy]
   · rw [if_neg hp, List.getElem?_eq_none (by omega)]
theorem top_root {T : List Bg} {i n : Nat} (hi : i < T.length) (hp : parU T i = -1) : (topS T i).testBit n = (bagN T i).testBit n := by
 rw [topS_eq hi, if_pos hp]
theorem top_other {T : List Bg} {i p n : Nat} (hi : i < T.length) (hp : parU T i = (p : Int)) (hpl : p < T.length) : (topS T i).testBit n = ((bagN T i).testBit n && !(bagN T p).testBit n) := by
 rw [topS_eq hi, if_neg (by omega), hp, Int.toNat_natCast, if_pos hpl, sDiff_testBit]
end Go.Pal
