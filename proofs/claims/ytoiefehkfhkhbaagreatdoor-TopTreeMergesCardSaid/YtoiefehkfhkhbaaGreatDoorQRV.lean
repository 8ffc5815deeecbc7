/-
  A tree of bags that the reference's check takes is valid. No program.
-/
import Derived.Test.YtoiefehkfhkhbaaGreatDoorQPlain
import Derived.Test.YtoiefehkfhkhbaaGreatDoorQR4
namespace Go.Pal
open Go

/-- Parents of a lower rank, one root. -/
structure RkOk (T : List Bg) (r0 : Nat) (rk : Nat → Nat) (M : Nat) : Prop where
  lt : r0 < T.length
  head : parU T r0 = -1
  par : ∀ c, c < T.length → c ≠ r0 → ∃ p : Nat, parU T c = (p : Int) ∧ p < T.length ∧ rk p < rk c
  bd : ∀ c, c < T.length → rk c < M
theorem RkOk.kid_gt {T : List Bg} {r0 M : Nat} {rk : Nat → Nat} (h : RkOk T r0 rk M) {b c : Nat} (hc : c ∈ kidN' T b) : rk b < rk c ∧ c < T.length := by
  obtain ⟨h1, h2⟩ := mem_kidN.1 hc
  by_cases h0 : c = r0
  · subst h0
    rw [h.head] at h2
    omega
  · obtain ⟨p, h3, h4, h5⟩ := h.par c h1 h0
    have : p = b := by omega
    subst this
    exact ⟨h5, h1⟩
theorem RkOk.fits {T : List Bg} {r0 M : Nat} {rk : Nat → Nat} (h : RkOk T r0 rk M) : ∀ (f b : Nat), b < T.length → M - rk b ≤ f → Fits T.length (kidsTo T T.length) (mkTr (kidN' T) f b)
  | 0, b, hb, hf => by have := h.bd b hb; omega
  | f + 1, b, hb, hf => by
    rw [mkTr]
    refine .mk b _ hb ?_ ?_
    · rw [List.map_map, ← kidN_map]
      refine List.map_congr_left fun c _ => ?_
      simp [mkTr_lab]
    · intro u hu
      obtain ⟨c, hc, rfl⟩ := List.mem_map.1 hu
      have hk := h.kid_gt hc
      have h1 := h.bd b hb
      have h2 := h.bd c hk.2
      exact RkOk.fits h f c hk.2 (by omega)
theorem RkOk.step {T : List Bg} {r0 M : Nat} {rk : Nat → Nat} (h : RkOk T r0 rk M) {i p : Nat} (hi : i < T.length) (h1 : parU T i = (p : Nat)) : p < T.length ∧ rk p < rk i := by
  by_cases h0 : i = r0
  · subst h0
    rw [h.head] at h1
    omega
  · obtain ⟨q, h3, h4, h5⟩ := h.par i hi h0
    have : p = q := by omega
    subst this
    exact ⟨h4, h5⟩
/-- The labels below b: whatever comes to b along the parents. -/
theorem RkOk.labs_mem {T : List Bg} {r0 M : Nat} {rk : Nat → Nat} (h : RkOk T r0 rk M) : ∀ (f b : Nat), b < T.length → M - rk b ≤ f → ∀ x, x ∈ (mkTr (kidN' T) f b).labs ↔ x < T.length ∧ ∃ m, Steps (parU T) m x b
  | 0, b, hb, hf => by have := h.bd b hb; omega
  | f + 1, b, hb, hf => by
    intro x
    have hbb := h.bd b hb
    rw [mkTr, Tr.labs, List.mem_cons]
    constructor
    · rintro (rfl | hx)
      · exact ⟨hb, 0, .zero⟩
      · obtain ⟨u, hu, hx⟩ := Tr.labss_mem hx
        obtain ⟨c, hc, rfl⟩ := List.mem_map.1 hu
        have hk := h.kid_gt hc
        have hcb := h.bd c hk.2
        obtain ⟨h1, m, h2⟩ := (RkOk.labs_mem h f c hk.2 (by omega) x).1 hx
        exact ⟨h1, m + 1, h2.snoc (mem_kidN.1 hc).2⟩
    · rintro ⟨hx, m, hs⟩
      have key : ∀ {m x c : Nat}, Steps (parU T) m x c → c = b → x < T.length → x = b ∨ ∃ c ∈ kidN' T b, ∃ m, Steps (parU T) m x c := by
        intro m x c hs
        induction hs with
        | zero => intro e _; exact .inl e
        | @succ m i p r h1 h2 ih =>
          intro e hi
          have hst := h.step hi h1
          rcases ih e hst.1 with h5 | ⟨c, h5, m', h6⟩
          · right
            refine ⟨i, mem_kidN.2 ⟨hi, by rw [h1, h5]⟩, 0, .zero⟩
          · exact .inr ⟨c, h5, m' + 1, .succ h1 h6⟩
      rcases key hs rfl hx with h1 | ⟨c, hc, m', h1⟩
      · exact .inl h1
      · have hk := h.kid_gt hc
        have hcb := h.bd c hk.2
        exact .inr (Tr.mem_labss (List.mem_map_of_mem hc) ((RkOk.labs_mem h f c hk.2 (by omega) x).2 ⟨hx, m', h1⟩))
theorem RkOk.steps_le {T : List Bg} {r0 M : Nat} {rk : Nat → Nat} (h : RkOk T r0 rk M) {m x c : Nat} (hs : Steps (parU T) m x c) : x < T.length → rk c ≤ rk x := by
  induction hs with
  | zero => intro _; exact Nat.le_refl _
  | @succ m i p r h1 _ ih =>
    intro hi
    have hst := h.step hi h1
    have := ih hst.1
    omega
theorem RkOk.nodup {T : List Bg} {r0 M : Nat} {rk : Nat → Nat} (h : RkOk T r0 rk M) : ∀ (f b : Nat), b < T.length → M - rk b ≤ f → (mkTr (kidN' T) f b).labs.Nodup
  | 0, b, hb, hf => by have := h.bd b hb; omega
  | f + 1, b, hb, hf => by
    have hbb := h.bd b hb
    rw [mkTr, Tr.labs, List.nodup_cons]
    constructor
    · intro hx
      obtain ⟨u, hu, hx⟩ := Tr.labss_mem hx
      obtain ⟨c, hc, rfl⟩ := List.mem_map.1 hu
      have hk := h.kid_gt hc
      have hcb := h.bd c hk.2
      obtain ⟨_, m, hs⟩ := (h.labs_mem f c hk.2 (by omega) b).1 hx
      have := h.steps_le hs hb
      omega
    · have key : ∀ (l : List Nat), l.Nodup → (∀ c ∈ l, c ∈ kidN' T b) → (Tr.labss (l.map (mkTr (kidN' T) f))).Nodup := by
        intro l
        induction l with
        | nil => intro _ _; exact List.nodup_nil
        | cons c l ih =>
          intro hn hl
          rw [List.nodup_cons] at hn
          rw [List.map_cons, Tr.labss, List.nodup_append]
          have hk := h.kid_gt (hl c (by simp))
          have hcb := h.bd c hk.2
          refine ⟨RkOk.nodup h f c hk.2 (by omega), ih hn.2 fun d hd => hl d (by simp [hd]), ?_⟩
          intro x hx y hy e
          subst e
          obtain ⟨u, hu, hy⟩ := Tr.labss_mem hy
          obtain ⟨d, hd, rfl⟩ := List.mem_map.1 hu
          have hk2 := h.kid_gt (hl d (by simp [hd]))
          have hdb := h.bd d hk2.2
          obtain ⟨hxl, m1, s1⟩ := (h.labs_mem f c hk.2 (by omega) x).1 hx
          obtain ⟨_, m2, s2⟩ := (h.labs_mem f d hk2.2 (by omega) x).1 hy
          have hcd : c ≠ d := fun e => hn.1 (by rw [e]; exact hd)
          have hpc := (mem_kidN.1 (hl c (by simp))).2
          have hpd := (mem_kidN.1 (hl d (by simp [hd]))).2
          rcases s1.linear s2 with ⟨k, s⟩ | ⟨k, s⟩
          · cases s with
            | zero => exact hcd rfl
            | @succ _ _ q _ h4 h5 =>
              rw [hpc] at h4
              have hq : q = b := by omega
              subst hq
              have := h.steps_le h5 hb
              omega
          · cases s with
            | zero => exact hcd rfl
            | @succ _ _ q _ h4 h5 =>
              rw [hpd] at h4
              have hq : q = b := by omega
              subst hq
              have := h.steps_le h5 hb
              omega
      exact key _ (kidN_nodup T b) fun _ h => h
theorem RkOk.steps_root {T : List Bg} {r0 M : Nat} {rk : Nat → Nat} (h : RkOk T r0 rk M) : ∀ (n x : Nat), rk x ≤ n → x < T.length → ∃ m, Steps (parU T) m x r0 := by
  intro n
  induction n with
  | zero =>
    intro x hx hl
    by_cases h0 : x = r0
    · subst h0; exact ⟨0, .zero⟩
    · obtain ⟨q, h3, h4, h5⟩ := h.par x hl h0
      omega
  | succ n ih =>
    intro x hx hl
    by_cases h0 : x = r0
    · subst h0; exact ⟨0, .zero⟩
    · obtain ⟨q, h3, h4, h5⟩ := h.par x hl h0
      obtain ⟨m, hs⟩ := ih q (by omega) h4
      exact ⟨m + 1, .succ h3 hs⟩
theorem climb_mono {T : List Bg} : ∀ {f : Nat} {z : Int} {l : List Int}, climb T f z = some l → climb T (f + 1) z = some l
  | 0, z, l, h => by
    unfold climb at h ⊢
    split at h
    · rename_i hz; rw [if_pos hz]; exact h
    · cases h
  | f + 1, z, l, h => by
    rw [climb] at h
    rw [climb]
    split at h
    · rename_i hz; rw [if_pos hz]; exact h
    · rename_i hz
      rw [if_neg hz]
      obtain ⟨l', h1, rfl⟩ := Option.map_eq_some_iff.1 h
      rw [climb_mono h1]
      rfl
theorem climb_len {T : List Bg} : ∀ {f : Nat} {z : Int} {l : List Int}, climb T f z = some l → l.length ≤ f
  | 0, z, l, h => by
    unfold climb at h
    split at h
    · cases h; exact Nat.le_refl _
    · cases h
  | f + 1, z, l, h => by
    rw [climb] at h
    split at h
    · cases h; simp
    · obtain ⟨l', h1, rfl⟩ := Option.map_eq_some_iff.1 h
      have := climb_len h1
      simp
      omega
def rkOf (T : List Bg) (i : Nat) : Nat := ((climb T (T.length + 1) (upI T (i : Int))).getD []).length
theorem rCheckN_zero {T : List Bg} (h : rCheckN T = 0) : 1 ≤ T.length ∧ T.length ≤ 4096 ∧ T.all (parB T.length) = true ∧ (T.filter rootB).length = 1 ∧ (List.range T.length).all (upB T) = true ∧ (List.range T.length).all (topB T) = true := by
  unfold rCheckN at h
  split at h
  · cases h
  · rename_i h0
    split at h
    · cases h
    · rename_i h1
      split at h
      · cases h
      · rename_i h2
        split at h
        · cases h
        · rename_i h3
          split at h
          · cases h
          · rename_i h4
            refine ⟨by omega, by omega, by simpa using h1, by omega, by simpa using h3, by simpa using h4⟩
theorem parU_eq {T : List Bg} (i : Nat) : parU T i = upI T (i : Int) := by
  unfold parU upI
  rw [Int.toNat_natCast]
  all_goals (cases T[i]? <;> rfl)
theorem rootsTo_len {T : List Bg} (h : ∀ x ∈ T, -1 ≤ x.1) : ∀ k, k ≤ T.length → (rootsTo T k).length = ((T.take k).filter rootB).length
  | 0, _ => rfl
  | k + 1, hk => by
    obtain ⟨x, hx⟩ : ∃ x, T[k]? = some x := ⟨_, List.getElem?_eq_getElem (by omega)⟩
    have hx1 := h x (List.mem_of_getElem? hx)
    rw [rootsTo_succ hx, List.length_append, rootsTo_len h k (by omega), List.take_add_one, hx, List.filter_append, List.length_append]
    congr 1
    by_cases hr : x.1 = -1
    · rw [if_pos hr]; simp [rootB, hr]
    · rw [if_neg hr]
      have : ¬ x.1 < 0 := by omega
      simp [rootB, this]
theorem rootsTo_memR {T : List Bg} {z : Int} : ∀ {k : Nat}, z ∈ rootsTo T k → ∃ r : Nat, r < k ∧ z = r ∧ (T[r]?).map Prod.fst = some (-1)
  | 0, h => by simp [rootsTo] at h
  | k + 1, h => by
    rw [rootsTo, List.mem_append] at h
    rcases h with h | h
    · obtain ⟨r, h1, h2, h3⟩ := rootsTo_memR h
      exact ⟨r, by omega, h2, h3⟩
    · split at h
      · rename_i hk
        simp at h
        exact ⟨k, by omega, h, hk⟩
      · cases h
theorem memR_rootsTo {T : List Bg} {r : Nat} (hr : (T[r]?).map Prod.fst = some (-1)) : ∀ {k : Nat}, r < k → (r : Int) ∈ rootsTo T k
  | 0, h => by omega
  | k + 1, h => by
    rw [rootsTo, List.mem_append]
    by_cases e : r = k
    · subst e; right; rw [if_pos hr]; simp
    · exact .inl (memR_rootsTo hr (by omega))
theorem seenTo_bit {T : List Bg} {n : Nat} : ∀ {k : Nat}, (seenTo T k).testBit n = true → ∃ j, j < k ∧ (topS T j).testBit n = true
  | 0, h => by simp [seenTo] at h
  | k + 1, h => by
    rw [seenTo, Nat.testBit_or, Bool.or_eq_true] at h
    rcases h with h | h
    · obtain ⟨j, h1, h2⟩ := seenTo_bit h
      exact ⟨j, by omega, h2⟩
    · exact ⟨k, by omega, h⟩
theorem topS_bag {T : List Bg} {i n : Nat} (h : (topS T i).testBit n = true) : (bagN T i).testBit n = true := by
  unfold topS at h
  unfold bagN
  split at h
  · simp at h
  · rename_i x hx
    rw [hx]
    split at h
    · exact h
    · split at h
      · simp at h
      · rw [sDiff_testBit, Bool.and_eq_true] at h
        exact h.1
theorem two_mem {l : List Nat} {i j : Nat} (hi : i ∈ l) (hj : j ∈ l) (h : i ≠ j) : l.length ≠ 1 := fun e => by
  match l, e with
  | [x], _ => simp at hi hj; omega
/-- A tree of bags that the check takes is valid. -/
theorem valid_of {T : List Bg} (h : rCheckN T = 0) (hle : T.length ≤ 1024) (hS : ∀ x ∈ T, IsSet x.2) (hF : T.all fewB = true) : ∃ t, Valid T t ∧ t.labs.Nodup := by
  obtain ⟨hpos, -, hpar, hroot, hup, htop⟩ := rCheckN_zero h
  have hP : ∀ x ∈ T, -1 ≤ x.1 ∧ x.1 < (T.length : Int) := fun x hx => by
    have := List.all_eq_true.1 hpar x hx
    simpa [parB] using this
  have hrl : (rootsTo T T.length).length = 1 := by
    rw [rootsTo_len (fun x hx => (hP x hx).1) _ (Nat.le_refl _), List.take_length]
    exact hroot
  obtain ⟨z, hz⟩ : ∃ z, rootsTo T T.length = [z] := by
    match hl : rootsTo T T.length, hrl with
    | [z], _ => exact ⟨z, rfl⟩
  obtain ⟨r0, hr0, rfl, hr1⟩ := rootsTo_memR (z := z) (by rw [hz]; simp)
  have huniq : ∀ c, (T[c]?).map Prod.fst = some (-1) → c < T.length → c = r0 := fun c hc hl => by
    have := memR_rootsTo hc hl
    rw [hz] at this
    simp at this
    omega
  have hclimb : ∀ i, i < T.length → ∃ l, climb T (T.length + 1) (upI T (i : Int)) = some l := fun i hi => by
    have := List.all_eq_true.1 hup i (List.mem_range.2 hi)
    unfold upB at this
    exact Option.isSome_iff_exists.1 this
  have hup0 : ∀ (i : Nat) (x : Bg), T[i]? = some x → upI T (i : Int) = x.1 := fun i x hx => upI_of hx
  have hrk : RkOk T r0 (rkOf T) (T.length + 2) := by
    refine ⟨hr0, ?_, fun c hc hcr => ?_, fun c hc => ?_⟩
    · obtain ⟨x, hx, h1⟩ := Option.map_eq_some_iff.1 hr1
      rw [parU_eq, hup0 _ _ hx, h1]
    · obtain ⟨x, hx⟩ : ∃ x, T[c]? = some x := ⟨_, List.getElem?_eq_getElem hc⟩
      obtain ⟨h1, h2⟩ := hP x (List.mem_of_getElem? hx)
      have hne : x.1 ≠ -1 := fun e => hcr (huniq c (by rw [hx]; simp [e]) hc)
      obtain ⟨p, hp⟩ : ∃ p : Nat, x.1 = (p : Int) := ⟨x.1.toNat, by omega⟩
      refine ⟨p, by rw [parU_eq, hup0 _ _ hx, hp], by omega, ?_⟩
      obtain ⟨l, hl⟩ := hclimb c hc
      unfold rkOf
      rw [hl]
      rw [hup0 _ _ hx, hp, climb, if_neg (by omega)] at hl
      obtain ⟨l', h3, rfl⟩ := Option.map_eq_some_iff.1 hl
      rw [climb_mono h3]
      simp
    · obtain ⟨l, hl⟩ := hclimb c hc
      unfold rkOf
      rw [hl]
      have := climb_len hl
      simp
      omega
  have hfuel : T.length + 2 - rkOf T r0 ≤ T.length + 2 := Nat.sub_le _ _
  have hn := hrk.nodup _ r0 hr0 hfuel
  have hm := hrk.labs_mem _ r0 hr0 hfuel
  refine ⟨mkTr (kidN' T) (T.length + 2) r0, ⟨hpos, hle, hS, ?_, ?_, ?_, hrk.fits _ r0 hr0 hfuel, ?_, ?_⟩, hn⟩
  · intro x hx
    have := List.all_eq_true.1 hF x hx
    rw [lenS_elems]
    simpa [fewB] using this
  · intro i x hx
    obtain ⟨h1, h2⟩ := hP x (List.mem_of_getElem? hx)
    by_cases e : x.1 = -1
    · exact .inl e
    · exact .inr ⟨x.1.toNat, by omega, by omega⟩
  · rw [hz, mkTr_lab]
  · rw [← Tr.length_labs]
    have h1 := length_le_of hn (l2 := List.range T.length) fun x hx => List.mem_range.2 ((hm x).1 hx).1
    have h2 := length_le_of (l1 := List.range T.length) List.nodup_range (l2 := (mkTr (kidN' T) (T.length + 2) r0).labs) fun x hx => (hm x).2 ⟨List.mem_range.1 hx, hrk.steps_root _ x (Nat.le_refl _) (List.mem_range.1 hx)⟩
    rw [List.length_range] at h1 h2
    omega
  · intro i hi
    apply Nat.eq_of_testBit_eq
    intro n
    rw [Nat.testBit_and, Nat.zero_testBit]
    cases h1 : (topS T i).testBit n with
    | false => rfl
    | true =>
      cases h2 : (seenTo T i).testBit n with
      | false => rfl
      | true =>
        exfalso
        obtain ⟨j, hj, h3⟩ := seenTo_bit h2
        have hb := topS_bag h1
        have hbs : IsSet (bagN T i) := by
          obtain ⟨x, hx⟩ : ∃ x, T[i]? = some x := ⟨_, List.getElem?_eq_getElem hi⟩
          rw [bagN_of hx]
          exact hS x (List.mem_of_getElem? hx)
        have h4 := List.all_eq_true.1 htop i (List.mem_range.2 hi)
        unfold topB at h4
        have h5 := List.all_eq_true.1 h4 n ((mem_elems hbs).2 hb)
        unfold oneB at h5
        have h6 : (topsL T n).length = 1 := by simpa using h5
        refine two_mem (l := topsL T n) (i := i) (j := j) ?_ ?_ (by omega) h6
        · unfold topsL; exact List.mem_filter.2 ⟨List.mem_range.2 hi, h1⟩
        · unfold topsL; exact List.mem_filter.2 ⟨List.mem_range.2 (by omega), h3⟩
theorem r45N_zero {T : List Bg} (h : r45N T = 0) : rCheckN T = 0 ∧ T.length ≤ 1024 ∧ T.all fewB = true := by
  unfold r45N at h
  split at h
  · rename_i h0; exact absurd h h0
  · rename_i h0
    split at h
    · cases h
    · rename_i h1
      split at h
      · cases h
      · rename_i h2
        exact ⟨by simpa using h0, by omega, by simpa using h2⟩
end Go.Pal
