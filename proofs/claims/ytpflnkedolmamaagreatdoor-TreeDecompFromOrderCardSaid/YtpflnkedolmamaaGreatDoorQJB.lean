/-
  Plain: the reference's game of elimination and its decomposition are the program's.
-/
import Derived.Test.YtpflnkedolmamaaGreatDoorQJA
import Derived.Test.YtpflnkedolmamaaGreatDoorQGN
import Derived.Test.YtpflnkedolmamaaGreatDoorQPlain
namespace Go.Pal
open Go

/-- An unordered pair in a list; two vertices are adjacent by an edge or by a pair that came. -/
def inP (c : List (Int × Int)) (u v : Int) : Bool := c.any fun p => (decide (p.1 = u) && decide (p.2 = v)) || (decide (p.1 = v) && decide (p.2 = u))
def rAdj (G : Gr) (c : List (Int × Int)) (u v : Int) : Bool := decide (0 ≤ G.edge u v) || inP c u v
theorem edgB_symm (u v : Int) : edgB u v = edgB v u := by
  funext p
  unfold edgB
  rw [Bool.or_comm]
theorem inP_symm (c : List (Int × Int)) (u v : Int) : inP c u v = inP c v u := by
  unfold inP
  congr 1
  funext p
  rw [Bool.or_comm]
theorem rAdj_symm (G : Gr) (c : List (Int × Int)) (u v : Int) : rAdj G c u v = rAdj G c v u := by
  unfold rAdj Gr.edge
  rw [inP_symm, edgB_symm]
theorem inP_snoc (c : List (Int × Int)) (p : Int × Int) (u v : Int) : inP (c ++ [p]) u v = (inP c u v || ((decide (p.1 = u) && decide (p.2 = v)) || (decide (p.1 = v) && decide (p.2 = u)))) := by
  unfold inP
  rw [List.any_append]
  simp

/-- The later neighbours of a vertex. -/
def rnStep (G : Gr) (c : List (Int × Int)) (x S y : Nat) : Nat := if rAdj G c (x : Int) (y : Int) = true then sIns S y else S
def rnS (G : Gr) (c : List (Int × Int)) (x : Nat) (l : List Nat) : Nat := l.foldl (rnStep G c x) 0
def rnTo (G : Gr) (c : List (Int × Int)) (o : List Nat) (i k : Nat) : Nat := rnS G c (o.getD i 0) ((o.take k).drop (i + 1))
theorem rnS_snoc (G : Gr) (c : List (Int × Int)) (x : Nat) (l : List Nat) (y : Nat) : rnS G c x (l ++ [y]) = if rAdj G c (x : Int) (y : Int) = true then sIns (rnS G c x l) y else rnS G c x l := by
  unfold rnS
  rw [List.foldl_append]
  rfl
theorem rnTo_start (G : Gr) (c : List (Int × Int)) (o : List Nat) (i : Nat) : rnTo G c o i (i + 1) = 0 := by
  unfold rnTo
  rw [List.drop_eq_nil_of_le (by rw [List.length_take]; omega)]
  rfl
theorem rnTo_succ (G : Gr) (c : List (Int × Int)) {o : List Nat} {i k y : Nat} (h : o[k]? = some y) (hk : i + 1 ≤ k) : rnTo G c o i (k + 1) = if rAdj G c ((o.getD i 0 : Nat) : Int) (y : Int) = true then sIns (rnTo G c o i k) y else rnTo G c o i k := by
  unfold rnTo
  rw [take_snoc h, List.drop_append_of_le_length (by rw [List.length_take]; have := (List.getElem?_eq_some_iff.1 h).1; omega), rnS_snoc]
theorem rnS_bit (G : Gr) (c : List (Int × Int)) (x v : Nat) : ∀ (l : List Nat) (S : Nat), (l.foldl (rnStep G c x) S).testBit v = (S.testBit v || (decide (v ∈ l) && rAdj G c (x : Int) (v : Int)))
  | [], S => by simp
  | y :: r, S => by
    rw [List.foldl_cons, rnS_bit G c x v r]
    by_cases hy : v = y
    · subst hy
      unfold rnStep
      cases hr : rAdj G c (x : Int) (v : Int) <;> simp [sIns_testBit, hr]
    · have : (rnStep G c x S y).testBit v = S.testBit v := by
        unfold rnStep
        split
        · rw [sIns_testBit]; simp; omega
        · rfl
      rw [this]
      simp [hy]
theorem isSet_rnS (G : Gr) (c : List (Int × Int)) (x : Nat) {l : List Nat} (hl : ∀ y ∈ l, y < 1024) : IsSet (rnS G c x l) := by
  unfold rnS
  suffices ∀ (l : List Nat) (S : Nat), (∀ y ∈ l, y < 1024) → IsSet S → IsSet (l.foldl (rnStep G c x) S) from this l 0 hl isSet_zero
  intro l
  induction l with
  | nil => exact fun S _ h => h
  | cons y r ih =>
    intro S hl hS
    refine ih _ (fun z hz => hl z (by simp [hz])) ?_
    unfold rnStep
    split
    · exact isSet_ins hS (hl y (by simp))
    · exact hS

/-- The pairs that come when a vertex goes. -/
def rfStep (G : Gr) (a : Int) (c : List (Int × Int)) (b : Int) : List (Int × Int) := if rAdj G c a b = true then c else c ++ [(b, a)]
def rfIn (G : Gr) (near : List Int) (a k : Nat) (c : List (Int × Int)) : List (Int × Int) := (near.take k).foldl (rfStep G (near.getD a 0)) c
def rfTo (G : Gr) (near : List Int) (c : List (Int × Int)) (a : Nat) : List (Int × Int) := (List.range a).foldl (fun c a => rfIn G near a a c) c
theorem rfIn_succ (G : Gr) {near : List Int} {a k : Nat} {y : Int} (c : List (Int × Int)) (h : near[k]? = some y) : rfIn G near a (k + 1) c = rfStep G (near.getD a 0) (rfIn G near a k c) y := by
  unfold rfIn
  rw [take_snoc h, List.foldl_append]
  rfl
theorem rfTo_succ (G : Gr) (near : List Int) (c : List (Int × Int)) (a : Nat) : rfTo G near c (a + 1) = rfIn G near a a (rfTo G near c a) := by
  unfold rfTo
  rw [List.range_succ, List.foldl_append]
  rfl
theorem rfStep_adj (G : Gr) (a b : Int) (c : List (Int × Int)) (u v : Int) : rAdj G (rfStep G a c b) u v = true ↔ rAdj G c u v = true ∨ (u = a ∧ v = b) ∨ (u = b ∧ v = a) := by
  unfold rfStep
  split
  · rename_i h
    constructor
    · exact .inl
    · rintro (h1 | ⟨rfl, rfl⟩ | ⟨rfl, rfl⟩)
      · exact h1
      · exact h
      · rw [rAdj_symm]; exact h
  · unfold rAdj
    rw [inP_snoc, ← Bool.or_assoc, Bool.or_eq_true]
    refine or_congr Iff.rfl ?_
    simp only [Bool.or_eq_true, Bool.and_eq_true, decide_eq_true_eq]
    constructor
    · rintro (⟨h1, h2⟩ | ⟨h1, h2⟩)
      · exact .inr ⟨h1.symm, h2.symm⟩
      · exact .inl ⟨h2.symm, h1.symm⟩
    · rintro (⟨h1, h2⟩ | ⟨h1, h2⟩)
      · exact .inr ⟨h2.symm, h1.symm⟩
      · exact .inl ⟨h1.symm, h2.symm⟩
theorem rfold_adj (G : Gr) (a : Int) (u v : Int) : ∀ (l : List Int) (c : List (Int × Int)), rAdj G (l.foldl (rfStep G a) c) u v = true ↔ rAdj G c u v = true ∨ ∃ b ∈ l, (u = a ∧ v = b) ∨ (u = b ∧ v = a)
  | [], c => by simp
  | b :: r, c => by
    rw [List.foldl_cons, rfold_adj G a u v r, rfStep_adj, or_assoc]
    refine or_congr Iff.rfl ?_
    simp only [List.mem_cons, exists_eq_or_imp]
theorem rfTo_adj (G : Gr) (near : List Int) (c : List (Int × Int)) (u v : Int) : ∀ k, rAdj G (rfTo G near c k) u v = true ↔ rAdj G c u v = true ∨ ∃ a < k, ∃ b ∈ near.take a, (u = near.getD a 0 ∧ v = b) ∨ (u = b ∧ v = near.getD a 0)
  | 0 => by simp [rfTo]
  | k + 1 => by
    rw [rfTo_succ, rfIn, rfold_adj, rfTo_adj G near c u v k, or_assoc]
    refine or_congr Iff.rfl ?_
    constructor
    · rintro (⟨a, h1, h2⟩ | h)
      · exact ⟨a, by omega, h2⟩
      · exact ⟨k, by omega, h⟩
    · rintro ⟨a, h1, h2⟩
      by_cases h : a = k
      · subst h; exact .inr h2
      · exact .inl ⟨a, by omega, h2⟩
theorem rf_all (G : Gr) {near : List Int} (hnd : near.Nodup) (c : List (Int × Int)) (u v : Int) : rAdj G (rfTo G near c near.length) u v = true ↔ rAdj G c u v = true ∨ (u ∈ near ∧ v ∈ near ∧ u ≠ v) := by
  rw [rfTo_adj]
  refine or_congr Iff.rfl ?_
  have hget : ∀ a, a < near.length → near[a]? = some (near.getD a 0) := fun a ha => by
    rw [List.getD_eq_getElem?_getD, List.getElem?_eq_getElem ha]; rfl
  have hne : ∀ a b, a < near.length → b ∈ near.take a → b ≠ near.getD a 0 := fun a b ha hb e => by
    obtain ⟨i, hi, rfl⟩ := List.mem_iff_getElem.1 hb
    rw [List.length_take] at hi
    rw [List.getElem_take] at e
    obtain ⟨h1, h2⟩ := List.getElem?_eq_some_iff.1 (hget a ha)
    exact List.pairwise_iff_getElem.1 hnd i a (by omega) h1 (by omega) (e.trans h2.symm)
  constructor
  · rintro ⟨a, ha, b, hb, ⟨rfl, rfl⟩ | ⟨rfl, rfl⟩⟩
    · exact ⟨List.mem_of_getElem? (hget a ha), List.mem_of_mem_take hb, (hne a _ ha hb).symm⟩
    · exact ⟨List.mem_of_mem_take hb, List.mem_of_getElem? (hget a ha), hne a _ ha hb⟩
  · rintro ⟨hu, hv, huv⟩
    obtain ⟨i, hi, rfl⟩ := List.mem_iff_getElem.1 hu
    obtain ⟨j, hj, rfl⟩ := List.mem_iff_getElem.1 hv
    have ei := hget i hi
    rw [List.getElem?_eq_getElem hi] at ei
    have ej := hget j hj
    rw [List.getElem?_eq_getElem hj] at ej
    simp only [Option.some.injEq] at ei ej
    have hmem : ∀ a b (ha : a < near.length), a < b → near[a] ∈ near.take b := fun a b ha hab => List.mem_iff_getElem.2 ⟨a, by rw [List.length_take]; omega, by rw [List.getElem_take]⟩
    rcases Nat.lt_trichotomy i j with h | h | h
    · exact ⟨j, hj, _, hmem i j hi h, .inr ⟨rfl, ej⟩⟩
    · subst h; exact absurd rfl huv
    · exact ⟨i, hi, _, hmem j i hj h, .inl ⟨ei, rfl⟩⟩

/-- The game as the reference plays it: the sets of later neighbours, and the pairs that came. -/
def rGame (G : Gr) (o : List Nat) : Nat → List Nat × List (Int × Int)
  | 0 => ([], [])
  | i + 1 => ((rGame G o i).1 ++ [rnTo G (rGame G o i).2 o i o.length], rfTo G (elemsI (rnTo G (rGame G o i).2 o i o.length)) (rGame G o i).2 (elemsI (rnTo G (rGame G o i).2 o i o.length)).length)
theorem rGame_succ (G : Gr) (o : List Nat) (i : Nat) : rGame G o (i + 1) = ((rGame G o i).1 ++ [rnTo G (rGame G o i).2 o i o.length], rfTo G (elemsI (rnTo G (rGame G o i).2 o i o.length)) (rGame G o i).2 (elemsI (rnTo G (rGame G o i).2 o i o.length)).length) := rfl
structure GInv (G : Gr) (f : Nat → Nat) (o : List Nat) (i : Nat) (c : List (Int × Int)) : Prop where
  adj : ∀ u ∈ o.drop i, ∀ v ∈ o.drop i, u ≠ v → rAdj G c u v = (gameAt f o i u).testBit v
  sup : ∀ u ∈ o.drop i, ∀ v, (gameAt f o i u).testBit v = true → v ∈ o.drop i ∧ v ≠ u
theorem gstep_bit (f : Nat → Nat) (x u v : Nat) : (gstep f x u).testBit v = if (f x).testBit u = true then (((f u).testBit v || (f x).testBit v) && !decide (u = v) && !decide (x = v)) else (f u).testBit v := by
  unfold gstep
  split
  · rw [sDel_testBit, sDel_testBit, Nat.testBit_or]
  · rfl
theorem ginv_row {G : Gr} {f : Nat → Nat} {o : List Nat} {i x : Nat} {c : List (Int × Int)} (hnd : o.Nodup) (hx : o[i]? = some x) (h : GInv G f o i c) : rnTo G c o i o.length = gameAt f o i x := by
  have hi := (List.getElem?_eq_some_iff.1 hx).1
  have hd : o.drop i = x :: o.drop (i + 1) := by
    rw [List.drop_eq_getElem_cons hi, (List.getElem?_eq_some_iff.1 hx).2]
  have hg : o.getD i 0 = x := by rw [List.getD_eq_getElem?_getD, hx]; rfl
  have hxn : x ∉ o.drop (i + 1) := by
    have := hnd.sublist (List.drop_sublist i o)
    rw [hd, List.nodup_cons] at this
    exact this.1
  apply Nat.eq_of_testBit_eq
  intro v
  unfold rnTo rnS
  rw [hg, List.take_length, rnS_bit, Nat.zero_testBit, Bool.false_or]
  have hxm : x ∈ o.drop i := by rw [hd]; simp
  by_cases hv : v ∈ o.drop (i + 1)
  · rw [decide_eq_true hv, Bool.true_and]
    exact h.adj x hxm v (by rw [hd]; simp [hv]) (fun e => hxn (by rw [e]; exact hv))
  · rw [decide_eq_false hv, Bool.false_and]
    cases hb : (gameAt f o i x).testBit v with
    | false => rfl
    | true =>
      obtain ⟨h1, h2⟩ := h.sup x hxm v hb
      rw [hd] at h1
      rcases List.mem_cons.1 h1 with e | e
      · exact absurd e h2
      · exact absurd e hv
theorem ginv_step {G : Gr} {f : Nat → Nat} {o : List Nat} {i x : Nat} {c : List (Int × Int)} (hnd : o.Nodup) (hs : ∀ u, IsSet (gameAt f o i u)) (hx : o[i]? = some x) (h : GInv G f o i c) :
    GInv G f o (i + 1) (rfTo G (elemsI (gameAt f o i x)) c (elemsI (gameAt f o i x)).length) := by
  have hi := (List.getElem?_eq_some_iff.1 hx).1
  have hd : o.drop i = x :: o.drop (i + 1) := by
    rw [List.drop_eq_getElem_cons hi, (List.getElem?_eq_some_iff.1 hx).2]
  have hxn : x ∉ o.drop (i + 1) := by
    have := hnd.sublist (List.drop_sublist i o)
    rw [hd, List.nodup_cons] at this
    exact this.1
  have hxm : x ∈ o.drop i := by rw [hd]; simp
  have hsub : ∀ u ∈ o.drop (i + 1), u ∈ o.drop i := fun u hu => by rw [hd]; simp [hu]
  have hne : ∀ u ∈ o.drop (i + 1), u ≠ x := fun u hu e => hxn (by rw [← e]; exact hu)
  have hndI : (elemsI (gameAt f o i x)).Nodup := (elemsI_sorted _).imp fun h => by omega
  have hsym : ∀ u ∈ o.drop (i + 1), (gameAt f o i u).testBit x = (gameAt f o i x).testBit u := fun u hu => by
    rw [← h.adj u (hsub u hu) x hxm (hne u hu), ← h.adj x hxm u (hsub u hu) (hne u hu).symm, rAdj_symm]
  refine ⟨fun u hu v hv huv => ?_, fun u hu v hb => ?_⟩
  · rw [gameAt_succ hx, gstep_bit, Bool.eq_iff_iff, rf_all G hndI, mem_elemsI (hs x), mem_elemsI (hs x), h.adj u (hsub u hu) v (hsub v hv) huv]
    have h1 := hne v hv
    have h2 : ¬ ((u : Int) = (v : Int)) := by omega
    cases hb : (gameAt f o i x).testBit u
    · simp
    · have h3 : decide (u = v) = false := by simp [huv]
      have h4 : decide (x = v) = false := by simp [Ne.symm h1]
      simp [h2, h3, h4]
  · rw [gameAt_succ hx, gstep_bit] at hb
    split at hb
    · simp only [Bool.and_eq_true, Bool.or_eq_true, Bool.not_eq_true', decide_eq_false_iff_not] at hb
      obtain ⟨⟨h1, h2⟩, h3⟩ := hb
      refine ⟨?_, Ne.symm h2⟩
      have h4 : v ∈ o.drop i := by
        rcases h1 with h1 | h1
        · exact (h.sup u (hsub u hu) v h1).1
        · exact (h.sup x hxm v h1).1
      rw [hd] at h4
      rcases List.mem_cons.1 h4 with e | e
      · exact absurd e.symm h3
      · exact e
    · rename_i hn
      obtain ⟨h1, h2⟩ := h.sup u (hsub u hu) v hb
      refine ⟨?_, h2⟩
      rw [hd] at h1
      rcases List.mem_cons.1 h1 with e | e
      · subst e
        rw [hsym u hu] at hb
        exact absurd hb hn
      · exact e
theorem ginv_start {G : Gr} (h : G.Ok) {o : List Nat} (hcl : Closed (fun x => G.near (x : Int)) o) : GInv G (fun x => G.near (x : Int)) o 0 [] := by
  refine ⟨fun u _ v _ _ => ?_, fun u hu v hb => ?_⟩
  · show (decide (0 ≤ G.edge u v) || inP [] u v) = (G.near (u : Int)).testBit v
    rw [h.near_bit, Gr.edge_some h]
    simp [inP]
  · have hb' : (G.near (u : Int)).testBit v = true := hb
    refine ⟨hcl u hu v hb', fun e => ?_⟩
    subst e
    rw [h.near_bit] at hb'
    obtain ⟨p, hp, hq⟩ := look_some.1 hb'
    have := (h.ends p hp).1
    rw [hq] at this
    unfold btw at this
    simp at this
theorem rGame_all {G : Gr} (hG : G.Ok) {o : List Nat} (hnd : o.Nodup) (hcl : Closed (fun x => G.near (x : Int)) o) : ∀ k, k ≤ o.length → (rGame G o k).1 = (List.range k).map (fun i => gameAt (fun x => G.near (x : Int)) o i (o.getD i 0)) ∧ GInv G (fun x => G.near (x : Int)) o k (rGame G o k).2
  | 0, _ => ⟨rfl, ginv_start hG hcl⟩
  | k + 1, hk => by
    obtain ⟨ih1, ih2⟩ := rGame_all hG hnd hcl k (by omega)
    have hx := getD_of (o := o) (i := k) (by omega)
    have hr := ginv_row hnd hx ih2
    unfold rGame
    rw [hr]
    refine ⟨?_, ginv_step hnd (isSet_gameAt (fun u => hG.isSet_near _) o k) hx ih2⟩
    rw [ih1, List.range_succ, List.map_append]
    rfl

/-- The parent of a bag: the reference comes from behind. -/
def ruTo (S : Nat) (o : List Nat) : Nat → Int
  | 0 => (o.length : Int) - 1
  | d + 1 => if S.testBit (o.getD (o.length - 1 - d) 0) = true then ((o.length - 1 - d : Nat) : Int) else ruTo S o d
theorem ruTo_all {S : Nat} (hS : IsSet S) {o : List Nat} (hnd : o.Nodup) : ∀ d, d ≤ o.length → ruTo S o d ≤ (o.length : Int) - 1 ∧ (∀ k, k < o.length → o.length ≤ k + d → S.testBit (o.getD k 0) = true → ruTo S o d ≤ (k : Int)) ∧ (ruTo S o d = (o.length : Int) - 1 ∨ ∃ k, k < o.length ∧ o.length ≤ k + d ∧ S.testBit (o.getD k 0) = true ∧ ruTo S o d = (k : Int))
  | 0, _ => ⟨by simp [ruTo], fun k h1 h2 => by omega, .inl rfl⟩
  | d + 1, hd => by
    obtain ⟨h1, h2, h3⟩ := ruTo_all hS hnd d (by omega)
    unfold ruTo
    split
    · rename_i hb
      refine ⟨by omega, fun k hk hk2 _ => by omega, .inr ⟨o.length - 1 - d, by omega, by omega, hb, rfl⟩⟩
    · rename_i hb
      refine ⟨h1, fun k hk hk2 hkb => ?_, ?_⟩
      · by_cases e : k = o.length - 1 - d
        · subst e; exact absurd hkb hb
        · exact h2 k hk (by omega) hkb
      · rcases h3 with h | ⟨k, k1, k2, k3, k4⟩
        · exact .inl h
        · exact .inr ⟨k, k1, by omega, k3, k4⟩
theorem parTo_all (o : List Nat) (p : Int) : ∀ (l : List Nat), parTo o p l ≤ p ∧ (∀ u ∈ l, parTo o p l ≤ ((o.idxOf u : Nat) : Int)) ∧ (parTo o p l = p ∨ ∃ u ∈ l, parTo o p l = ((o.idxOf u : Nat) : Int)) := by
  suffices ∀ (l : List Nat) (p : Int), parTo o p l ≤ p ∧ (∀ u ∈ l, parTo o p l ≤ ((o.idxOf u : Nat) : Int)) ∧ (parTo o p l = p ∨ ∃ u ∈ l, parTo o p l = ((o.idxOf u : Nat) : Int)) from fun l => this l p
  intro l
  induction l with
  | nil => intro p; simp [parTo]
  | cons u r ih =>
    intro p
    have e : parTo o p (u :: r) = parTo o (min p ((o.idxOf u : Nat) : Int)) r := rfl
    rw [e]
    obtain ⟨h1, h2, h3⟩ := ih (min p ((o.idxOf u : Nat) : Int))
    refine ⟨by omega, fun v hv => ?_, ?_⟩
    · rcases List.mem_cons.1 hv with rfl | hv
      · omega
      · exact h2 v hv
    · rcases h3 with h | ⟨v, hv, h⟩
      · rcases Int.le_total p ((o.idxOf u : Nat) : Int) with hm | hm
        · exact .inl (by omega)
        · exact .inr ⟨u, by simp, by omega⟩
      · exact .inr ⟨v, by simp [hv], h⟩
theorem idxOf_getD {o : List Nat} (hnd : o.Nodup) {k : Nat} (hk : k < o.length) : o.idxOf (o.getD k 0) = k := by
  have h1 := getD_of (o := o) hk
  obtain ⟨h2, h3⟩ := List.getElem?_eq_some_iff.1 h1
  have h4 : o.idxOf (o.getD k 0) < o.length := List.idxOf_lt_length_of_mem (List.mem_of_getElem? h1)
  have h5 : o[o.idxOf (o.getD k 0)] = o.getD k 0 := List.getElem_idxOf h4
  rcases Nat.lt_trichotomy (o.idxOf (o.getD k 0)) k with h | h | h
  · exact absurd (h5.trans h3.symm) (List.pairwise_iff_getElem.1 hnd _ _ h4 h2 h)
  · exact h
  · exact absurd (h3.trans h5.symm) (List.pairwise_iff_getElem.1 hnd _ _ h2 h4 h)
theorem ruTo_par {S : Nat} (hS : IsSet S) {o : List Nat} (hnd : o.Nodup) {i : Nat} (hi : i < o.length) (hsup : ∀ u, S.testBit u = true → u ∈ o.drop (i + 1)) : ruTo S o (o.length - 1 - i) = parTo o ((o.length : Int) - 1) (elems S) := by
  obtain ⟨a1, a2, a3⟩ := ruTo_all hS hnd (o.length - 1 - i) (by omega)
  obtain ⟨b1, b2, b3⟩ := parTo_all o ((o.length : Int) - 1) (elems S)
  have hplace : ∀ u, S.testBit u = true → ∃ k, i < k ∧ k < o.length ∧ o.getD k 0 = u ∧ o.idxOf u = k := fun u hu => by
    obtain ⟨j, hj, rfl⟩ := List.mem_iff_getElem.1 (hsup u hu)
    rw [List.length_drop] at hj
    rw [List.getElem_drop]
    have e : o.getD (i + 1 + j) 0 = o[i + 1 + j]'(by omega) := by
      rw [List.getD_eq_getElem?_getD, List.getElem?_eq_getElem (by omega)]; rfl
    exact ⟨i + 1 + j, by omega, by omega, e, by rw [← e]; exact idxOf_getD hnd (by omega)⟩
  apply Int.le_antisymm
  · rcases b3 with h | ⟨u, hu, h⟩
    · omega
    · obtain ⟨k, k1, k2, k3, k4⟩ := hplace u ((mem_elems hS).1 hu)
      rw [h, k4]
      exact a2 k k2 (by omega) (by rw [k3]; exact (mem_elems hS).1 hu)
  · rcases a3 with h | ⟨k, k1, k2, k3, h⟩
    · omega
    · rw [h]
      have := b2 _ ((mem_elems hS).2 k3)
      rw [idxOf_getD hnd k1] at this
      exact this
/-- The decomposition that the reference makes of an order. -/
def rBag (S : Nat) (o : List Nat) (i : Nat) : Bg := (if i + 1 = o.length then -1 else ruTo S o (o.length - 1 - i), sIns S (o.getD i 0))
def rOfTo (rows : List Nat) (o : List Nat) (k : Nat) : List Bg := (List.range k).map fun i => rBag (rows.getD i 0) o i
def rOf (G : Gr) (o : List Nat) : List Bg := if o.length = 0 then [(-1, 0)] else rOfTo (rGame G o o.length).1 o o.length
theorem rOfTo_succ (rows : List Nat) (o : List Nat) (k : Nat) : rOfTo rows o (k + 1) = rOfTo rows o k ++ [rBag (rows.getD k 0) o k] := by
  unfold rOfTo
  rw [List.range_succ, List.map_append]
  rfl
theorem rOf_eq {G : Gr} (hG : G.Ok) {o : List Nat} (hnd : o.Nodup) (hcl : Closed (fun x => G.near (x : Int)) o) : rOf G o = foTree (fun x => G.near (x : Int)) o := by
  unfold rOf foTree rOfTo foTo
  split
  · rfl
  obtain ⟨h1, -⟩ := rGame_all hG hnd hcl o.length (Nat.le_refl _)
  apply List.map_congr_left
  intro i hi
  rw [List.mem_range] at hi
  have hrow : ((rGame G o o.length).1).getD i 0 = gameAt (fun x => G.near (x : Int)) o i (o.getD i 0) := by
    rw [h1, List.getD_eq_getElem?_getD, List.getElem?_map, List.getElem?_range hi]
    rfl
  rw [hrow]
  unfold rBag foBag
  obtain ⟨-, h2⟩ := rGame_all hG hnd hcl i (by omega)
  have hx := getD_of (o := o) hi
  have hd : o.drop i = o.getD i 0 :: o.drop (i + 1) := by
    rw [List.drop_eq_getElem_cons hi, (List.getElem?_eq_some_iff.1 hx).2]
  rw [ruTo_par (isSet_gameAt (fun u => hG.isSet_near _) o i _) hnd hi fun u hu => ?_]
  obtain ⟨h3, h4⟩ := h2.sup _ (by rw [hd]; simp) u hu
  rw [hd] at h3
  rcases List.mem_cons.1 h3 with e | e
  · exact absurd e h4
  · exact e
/-! ### lengths -/
theorem nodup_length {α : Type} [DecidableEq α] {l m : List α} (h : l.Nodup) (hs : ∀ x ∈ l, x ∈ m) : l.length ≤ m.length := by
  rcases Nat.lt_or_ge m.length l.length with h1 | h1
  · have := (perm_of_nodup h hs (by omega)).length_eq
    omega
  · exact h1
theorem rn_len (G : Gr) (c : List (Int × Int)) (o : List Nat) (i k : Nat) : (elemsI (rnTo G c o i k)).length ≤ o.length := by
  unfold elemsI
  rw [List.length_map]
  refine nodup_length (elems_nodup _) fun u hu => ?_
  have hb := elems_bit hu
  unfold rnTo rnS at hb
  rw [rnS_bit] at hb
  simp only [Nat.zero_testBit, Bool.false_or, Bool.and_eq_true, decide_eq_true_eq] at hb
  exact List.mem_of_mem_take (List.mem_of_mem_drop hb.1)
theorem rfIn_len (G : Gr) (near : List Int) (a : Nat) (c : List (Int × Int)) : ∀ k, (rfIn G near a k c).length ≤ c.length + k := by
  intro k
  unfold rfIn
  have key : ∀ (l : List Int) (c : List (Int × Int)), (l.foldl (rfStep G (near.getD a 0)) c).length ≤ c.length + l.length := by
    intro l
    induction l with
    | nil => intro c; simp
    | cons x r ih =>
      intro c
      rw [List.foldl_cons]
      have h1 := ih (rfStep G (near.getD a 0) c x)
      have h2 : (rfStep G (near.getD a 0) c x).length ≤ c.length + 1 := by
        unfold rfStep
        split <;> simp
      simp only [List.length_cons]
      omega
  have h1 := key (near.take k) c
  have h2 := List.length_take_le k near
  omega
theorem rfTo_len (G : Gr) (near : List Int) (c : List (Int × Int)) : ∀ a, (rfTo G near c a).length ≤ c.length + a * a
  | 0 => by simp [rfTo]
  | a + 1 => by
    rw [rfTo_succ]
    have h1 := rfIn_len G near a (rfTo G near c a) a
    have h2 := rfTo_len G near c a
    have h3 : (a + 1) * (a + 1) = a * a + a + a + 1 := by rw [Nat.add_mul, Nat.mul_add]; omega
    omega
theorem rGame_rows (G : Gr) (o : List Nat) : ∀ k, (rGame G o k).1.length = k
  | 0 => rfl
  | k + 1 => by
    rw [rGame_succ]
    simp [rGame_rows G o k]
theorem rGame_len (G : Gr) (o : List Nat) : ∀ k, (rGame G o k).2.length ≤ k * (o.length * o.length)
  | 0 => by simp [rGame]
  | k + 1 => by
    rw [rGame_succ]
    have h1 := rfTo_len G (elemsI (rnTo G (rGame G o k).2 o k o.length)) (rGame G o k).2 (elemsI (rnTo G (rGame G o k).2 o k o.length)).length
    have h2 := rGame_len G o k
    have h3 := rn_len G (rGame G o k).2 o k o.length
    have h4 := Nat.mul_le_mul h3 h3
    have h5 : (k + 1) * (o.length * o.length) = k * (o.length * o.length) + o.length * o.length := by rw [Nat.add_mul, Nat.one_mul]
    simp only
    omega
end Go.Pal
