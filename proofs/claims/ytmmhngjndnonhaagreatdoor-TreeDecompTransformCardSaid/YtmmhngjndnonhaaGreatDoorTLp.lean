/- Plain: a tree of bags restricted to some vertices. Plain: the bags that come to the root .. -/
import Derived.Test.YtmmhngjndnonhaaGreatDoorTKPl
import Derived.Test.YtmmhngjndnonhaaGreatDoorTGT
import Derived.Test.YtmmhngjndnonhaaGreatDoorTPlain
set_option linter.all false
namespace Go.Pal
open Go
def resT (T : List Bg) (I : Nat) : List Bg := T.map fun x => (x.1, x.2 &&& I)
theorem resT_len (T : List Bg) (I : Nat) : (resT T I).length = T.length := by simp [resT]
theorem resT_get (T : List Bg) (I i : Nat) : (resT T I)[i]? = (T[i]?).map fun x => (x.1, x.2 &&& I) := by simp [resT]
theorem Steps.uniq {U : Nat → Int} {m x r : Nat} (h : Steps U m x r) (hr : U r = -1) : ∀ {m' : Nat}, Steps U m' x r → m = m' := by
 induction h with
 | zero =>
   intro m' h'
   cases h' with
   | zero => rfl
   | succ h1 _ => rw [hr] at h1; omega
 | @succ m i p r h1 h2 ih =>
   intro m' h'
   cases h' with
   | zero => rw [hr] at h1; omega
   | @succ _ _ q _ h3 h4 =>
     rw [h1] at h3
     have : p = q := by omega
     subst this
     rw [ih hr h4]
theorem Steps.trans' {U : Nat → Int} {m x y : Nat} (h : Steps U m x y) : ∀ {m' z : Nat}, Steps U m' y z → Steps U (m + m') x z := by
 induction h with
 | zero => intro m' z h'; rw [Nat.zero_add]; exact h'
 | @succ m i p r h1 _ ih =>
   intro m' z h'
   rw [show m + 1 + m' = m + m' + 1 by omega]
   exact .succ h1 (ih h')
theorem Steps.chain {U : Nat → Int} {n m x r : Nat} (h : Steps U m x r) (hr : U r = -1) (hin : ∀ i p : Nat, i < n → U i = (p : Int) → p < n) : x < n → ∃ l : List Nat, l.Nodup ∧ l.length = m + 1 ∧ ∀ y ∈ l, y < n ∧ ∃ e, e ≤ m ∧ Steps U e y r := by
 induction h with
 | @zero i =>
   intro hx
   exact ⟨[i], by simp, rfl, fun y hy => by simp at hy; subst hy; exact ⟨hx, 0, Nat.le_refl _, .zero⟩⟩
 | @succ m i p r h1 h2 ih =>
   intro hx
   obtain ⟨l, hn, hl, ha⟩ := ih hr (hin i p hx h1)
   refine ⟨i :: l, List.nodup_cons.2 ⟨fun hi => ?_, hn⟩, by simp [hl], fun y hy => ?_⟩
   · obtain ⟨-, e, he, hs⟩ := ha i hi
     have := Steps.uniq hs hr (.succ h1 h2)
     omega
   · rcases List.mem_cons.1 hy with rfl | hy
     · exact ⟨hx, m + 1, Nat.le_refl _, .succ h1 h2⟩
     · obtain ⟨h3, e, he, hs⟩ := ha y hy
       exact ⟨h3, e, by omega, hs⟩
structure Rooted (T : List Bg) (r : Nat) : Prop where
 lt : r < T.length
 head : parU T r = -1
 par : ∀ c, c < T.length → c ≠ r → ∃ p : Nat, parU T c = (p : Int) ∧ p < T.length
theorem Rooted.inn {T : List Bg} {r : Nat} (h : Rooted T r) (i p : Nat) (hi : i < T.length) (hp : parU T i = (p : Int)) : p < T.length := by
 by_cases hir : i = r
 · subst hir
   rw [h.head] at hp
   omega
 · obtain ⟨q, h1, h2⟩ := h.par i hi hir
   omega
theorem Rooted.few {T : List Bg} {r : Nat} (h : Rooted T r) {m x : Nat} (hs : Steps (parU T) m x r) (hx : x < T.length) : m < T.length := by
 obtain ⟨l, hn, hl, ha⟩ := Steps.chain hs h.head h.inn hx
 have := length_le_of hn (l2 := List.range T.length) fun y hy => List.mem_range.2 (ha y hy).1
 rw [List.length_range] at this
 omega
theorem Rooted.fits {T : List Bg} {r : Nat} (h : Rooted T r) : ∀ (f b d : Nat), b < T.length → Steps (parU T) d b r → T.length - d ≤ f → Fits T.length (kidsTo T T.length) (mkTr (kidN' T) f b)
 | 0, b, d, hb, hs, hf => by have := h.few hs hb; omega
 | f + 1, b, d, hb, hs, hf => by
   rw [mkTr]
   refine .mk b _ hb ?_ ?_
   · rw [List.map_map, ← kidN_map]
     refine List.map_congr_left fun c _ => ?_
     simp [mkTr_lab]
   · intro u hu
     obtain ⟨c, hc, rfl⟩ := List.mem_map.1 hu
     obtain ⟨h1, h2⟩ := mem_kidN.1 hc
     exact Rooted.fits h f c (d + 1) h1 (.succ h2 hs) (by omega)
theorem Rooted.labs_mem {T : List Bg} {r : Nat} (h : Rooted T r) : ∀ (f b d : Nat), b < T.length → Steps (parU T) d b r → T.length - d ≤ f → ∀ x, x ∈ (mkTr (kidN' T) f b).labs ↔ x < T.length ∧ ∃ m, Steps (parU T) m x b
 | 0, b, d, hb, hs, hf => by have := h.few hs hb; omega
 | f + 1, b, d, hb, hs, hf => by
   intro x
   rw [mkTr, Tr.labs, List.mem_cons]
   constructor
   · rintro (rfl | hx)
     · exact ⟨hb, 0, .zero⟩
     · obtain ⟨u, hu, hx⟩ := Tr.labss_mem hx
       obtain ⟨c, hc, rfl⟩ := List.mem_map.1 hu
       obtain ⟨h1, h2⟩ := mem_kidN.1 hc
       obtain ⟨h3, m, h4⟩ := (Rooted.labs_mem h f c (d + 1) h1 (.succ h2 hs) (by omega) x).1 hx
       exact ⟨h3, m + 1, h4.snoc h2⟩
   · rintro ⟨hx, m, hst⟩
     have key : ∀ {m x c : Nat}, Steps (parU T) m x c → c = b → x < T.length → x = b ∨ ∃ c ∈ kidN' T b, ∃ m, Steps (parU T) m x c := by
       intro m x c hs
       induction hs with
       | zero => intro e _; exact .inl e
       | @succ m i p r' h1 h2 ih =>
         intro e hi
         rcases ih e (h.inn i p hi h1) with h5 | ⟨c, h5, m', h6⟩
         · right
           exact ⟨i, mem_kidN.2 ⟨hi, by rw [h1, h5]⟩, 0, .zero⟩
         · exact .inr ⟨c, h5, m' + 1, .succ h1 h6⟩
     rcases key hst rfl hx with h1 | ⟨c, hc, m', h1⟩
     · exact .inl h1
     · obtain ⟨h3, h4⟩ := mem_kidN.1 hc
       exact .inr (Tr.mem_labss (List.mem_map_of_mem hc) ((Rooted.labs_mem h f c (d + 1) h3 (.succ h4 hs) (by omega) x).2 ⟨hx, m', h1⟩))
theorem Rooted.nodup {T : List Bg} {r : Nat} (h : Rooted T r) : ∀ (f b d : Nat), b < T.length → Steps (parU T) d b r → T.length - d ≤ f → (mkTr (kidN' T) f b).labs.Nodup
 | 0, b, d, hb, hs, hf => by have := h.few hs hb; omega
 | f + 1, b, d, hb, hs, hf => by
   rw [mkTr, Tr.labs, List.nodup_cons]
   constructor
   · intro hx
     obtain ⟨u, hu, hx⟩ := Tr.labss_mem hx
     obtain ⟨c, hc, rfl⟩ := List.mem_map.1 hu
     obtain ⟨h1, h2⟩ := mem_kidN.1 hc
     obtain ⟨_, m, hst⟩ := (h.labs_mem f c (d + 1) h1 (.succ h2 hs) (by omega) b).1 hx
     have := Steps.uniq hs h.head (hst.trans' (.succ h2 hs))
     omega
   · have key : ∀ (l : List Nat), l.Nodup → (∀ c ∈ l, c ∈ kidN' T b) → (Tr.labss (l.map (mkTr (kidN' T) f))).Nodup := by
       intro l
       induction l with
       | nil => intro _ _; exact List.nodup_nil
       | cons c l ih =>
         intro hn hl
         rw [List.nodup_cons] at hn
         rw [List.map_cons, Tr.labss, List.nodup_append]
         obtain ⟨h1, h2⟩ := mem_kidN.1 (hl c (by simp))
         refine ⟨Rooted.nodup h f c (d + 1) h1 (.succ h2 hs) (by omega), ih hn.2 fun e he => hl e (by simp [he]), ?_⟩
         intro x hx y hy e
         subst e
         obtain ⟨u, hu, hy⟩ := Tr.labss_mem hy
         obtain ⟨e, he, rfl⟩ := List.mem_map.1 hu
         obtain ⟨h3, h4⟩ := mem_kidN.1 (hl e (by simp [he]))
         obtain ⟨hxl, m1, s1⟩ := (h.labs_mem f c (d + 1) h1 (.succ h2 hs) (by omega) x).1 hx
         obtain ⟨_, m2, s2⟩ := (h.labs_mem f e (d + 1) h3 (.succ h4 hs) (by omega) x).1 hy
         have hce : c ≠ e := fun e' => hn.1 (by rw [e']; exact he)
         rcases s1.linear s2 with ⟨k, s⟩ | ⟨k, s⟩
         · have := Steps.uniq (Steps.succ h2 hs) h.head (s.trans' (.succ h4 hs))
           have hk : k = 0 := by omega
           subst hk
           cases s
           exact hce rfl
         · have := Steps.uniq (Steps.succ h4 hs) h.head (s.trans' (.succ h2 hs))
           have hk : k = 0 := by omega
           subst hk
           cases s
           exact hce rfl
     exact key _ (kidN_nodup T b) fun _ h => h
theorem Rooted.tree {T : List Bg} {r : Nat} (h : Rooted T r) : ∃ t : Tr, t.lab = r ∧ Fits T.length (kidsTo T T.length) t ∧ t.sz ≤ T.length ∧ (t.sz = T.length ↔ ∀ x, x < T.length → ∃ m, Steps (parU T) m x r) ∧ t.labs.Nodup ∧ ∀ x, x ∈ t.labs ↔ x < T.length ∧ ∃ m, Steps (parU T) m x r := by
 have hn := h.nodup T.length r 0 h.lt .zero (by omega)
 have hm := h.labs_mem T.length r 0 h.lt .zero (by omega)
 have h1 := length_le_of hn (l2 := List.range T.length) fun x hx => List.mem_range.2 ((hm x).1 hx).1
 rw [List.length_range, Tr.length_labs] at h1
 refine ⟨mkTr (kidN' T) T.length r, mkTr_lab _ _ _, h.fits T.length r 0 h.lt .zero (by omega), h1, ⟨fun he x hx => ?_, fun hall => ?_⟩, hn, hm⟩
 · by_cases hxl : x ∈ (mkTr (kidN' T) T.length r).labs
   · exact ((hm x).1 hxl).2
   · have h2 := length_le_of (List.nodup_cons.2 ⟨hxl, hn⟩) (l2 := List.range T.length) fun y hy => by
       rcases List.mem_cons.1 hy with rfl | hy
       · exact List.mem_range.2 hx
       · exact List.mem_range.2 ((hm y).1 hy).1
     rw [List.length_range, List.length_cons, Tr.length_labs] at h2
     omega
 · have h2 := length_le_of (l1 := List.range T.length) List.nodup_range (l2 := (mkTr (kidN' T) T.length r).labs) fun x hx => (hm x).2 ⟨List.mem_range.1 hx, hall x (List.mem_range.1 hx)⟩
   rw [List.length_range, Tr.length_labs] at h2
   omega
theorem climb_le {T : List Bg} {z : Int} {f : Nat} {l : List Int} (h : climb T f z = some l) : ∀ {g : Nat}, f ≤ g → climb T g z = some l := by
 intro g
 induction g with
 | zero =>
   intro hg
   have : f = 0 := by omega
   subst this
   exact h
 | succ g ih =>
   intro hg
   by_cases e : f = g + 1
   · subst e; exact h
   · exact climb_mono (ih (by omega))
theorem climb_steps {T : List Bg} {m x r : Nat} (h : Steps (parU T) m x r) (hr : parU T r = -1) : ∃ l, climb T (m + 1) (upI T (x : Int)) = some l := by
 induction h with
 | zero =>
   refine ⟨[], ?_⟩
   rw [← parU_eq, hr, climb, if_pos (by omega)]
 | @succ m i p r h1 h2 ih =>
   obtain ⟨l, hl⟩ := ih hr
   refine ⟨(p : Int) :: l, ?_⟩
   rw [← parU_eq, h1, climb, if_neg (by omega), hl]
   rfl
theorem Rooted.of_climb {T : List Bg} {r : Nat} (h : Rooted T r) : ∀ (f x : Nat) (l : List Int), x < T.length → climb T f (upI T (x : Int)) = some l → ∃ m, Steps (parU T) m x r := by
 intro f
 induction f with
 | zero =>
   intro x l hx hc
   by_cases hxr : x = r
   · subst hxr; exact ⟨0, .zero⟩
   · obtain ⟨p, h1, -⟩ := h.par x hx hxr
     rw [← parU_eq, h1, climb, if_neg (by omega)] at hc
     cases hc
 | succ f ih =>
   intro x l hx hc
   by_cases hxr : x = r
   · subst hxr; exact ⟨0, .zero⟩
   · obtain ⟨p, h1, h2⟩ := h.par x hx hxr
     rw [← parU_eq, h1, climb, if_neg (by omega)] at hc
     obtain ⟨l', h3, -⟩ := Option.map_eq_some_iff.1 hc
     obtain ⟨m, hs⟩ := ih p l' h2 h3
     exact ⟨m + 1, .succ h1 hs⟩
theorem Rooted.up_iff {T : List Bg} {r : Nat} (h : Rooted T r) : (List.range T.length).all (upB T) = true ↔ ∀ x, x < T.length → ∃ m, Steps (parU T) m x r := by
 rw [List.all_eq_true]
 constructor
 · intro ha x hx
   have := ha x (List.mem_range.2 hx)
   unfold upB at this
   obtain ⟨l, hl⟩ := Option.isSome_iff_exists.1 this
   exact h.of_climb _ x l hx hl
 · intro ha x hx
   have hx := List.mem_range.1 hx
   obtain ⟨m, hs⟩ := ha x hx
   have hm := h.few hs hx
   obtain ⟨l, hl⟩ := climb_steps hs h.head
   unfold upB
   rw [climb_le hl (by omega)]
   rfl
theorem rooted_of {T : List Bg} (h1 : T.all (parB T.length) = true) (h2 : (T.filter rootB).length = 1) : ∃ r, Rooted T r ∧ rootsTo T T.length = [(r : Int)] := by
 have hP : ∀ x ∈ T, -1 ≤ x.1 ∧ x.1 < (T.length : Int) := fun x hx => by
   have := List.all_eq_true.1 h1 x hx
   simpa [parB] using this
 have hrl : (rootsTo T T.length).length = 1 := by
   rw [rootsTo_len (fun x hx => (hP x hx).1) _ (Nat.le_refl _), List.take_length]
   exact h2
 obtain ⟨z, hz⟩ : ∃ z, rootsTo T T.length = [z] := by
   match hl : rootsTo T T.length, hrl with
   | [z], _ => exact ⟨z, rfl⟩
 obtain ⟨r0, hr0, rfl, hr1⟩ := rootsTo_memR (z := z) (by rw [hz]; simp)
 have huniq : ∀ c, (T[c]?).map Prod.fst = some (-1) → c < T.length → c = r0 := fun c hc hl => by
   have := memR_rootsTo hc hl
   rw [hz] at this
   simp at this
   omega
 refine ⟨r0, ⟨hr0, ?_, fun c hc hcr => ?_⟩, hz⟩
 · obtain ⟨x, hx, h3⟩ := Option.map_eq_some_iff.1 hr1
   simp [parU, hx, h3]
 · obtain ⟨x, hx⟩ : ∃ x, T[c]? = some x := ⟨_, List.getElem?_eq_getElem hc⟩
   obtain ⟨h3, h4⟩ := hP x (List.mem_of_getElem? hx)
   have hne : x.1 ≠ -1 := fun e => hcr (huniq c (by rw [hx]; simp [e]) hc)
   exact ⟨x.1.toNat, by simp only [parU, hx]; omega, by omega⟩
theorem isSet_topS {T : List Bg} (hS : ∀ x ∈ T, IsSet x.2) (i : Nat) : IsSet (topS T i) := by
 unfold topS
 split
 · exact isSet_zero
 · rename_i x hx
   have h1 := hS x (List.mem_of_getElem? hx)
   split
   · exact h1
   · split
     · exact isSet_zero
     · exact isSet_diff h1
theorem Rooted.top {T : List Bg} {r : Nat} (h : Rooted T r) {n m x : Nat} (hs : Steps (parU T) m x r) : x < T.length → (bagN T x).testBit n = true → ∃ j, j < T.length ∧ (topS T j).testBit n = true := by
 have hr := h.head
 have hin := h.inn
 clear h
 induction hs with
 | @zero i =>
   intro hx hb
   exact ⟨i, hx, by rw [top_root hx hr]; exact hb⟩
 | @succ m i p r h1 h2 ih =>
   intro hx hb
   have hp := hin i p hx h1
   cases hbp : (bagN T p).testBit n with
   | true => exact ih hr hp hbp
   | false =>
     refine ⟨i, hx, ?_⟩
     rw [top_other hx h1 hp, hb, hbp]
     rfl
theorem bit_seenTo {T : List Bg} {n j : Nat} (hj : (topS T j).testBit n = true) : ∀ {k : Nat}, j < k → (seenTo T k).testBit n = true
 | 0, h => by omega
 | k + 1, h => by
   rw [seenTo, Nat.testBit_or, Bool.or_eq_true]
   by_cases e : j = k
   · subst e; exact .inr hj
   · exact .inl (bit_seenTo hj (by omega))
theorem len_one {l : List Nat} {j : Nat} (hn : l.Nodup) (hj : j ∈ l) (h : ∀ a ∈ l, a = j) : l.length = 1 := by
 match l, hj with
 | [x], _ => rfl
 | x :: y :: l, _ =>
   have h1 := h x (by simp)
   have h2 := h y (by simp)
   rw [List.nodup_cons] at hn
   exact absurd (by rw [h1, h2]; simp) hn.1
theorem Rooted.topB_iff {T : List Bg} {r : Nat} (h : Rooted T r) (hS : ∀ x ∈ T, IsSet x.2) (hall : ∀ x, x < T.length → ∃ m, Steps (parU T) m x r) :
   (List.range T.length).all (topB T) = true ↔ ∀ i, i < T.length → topS T i &&& seenTo T i = 0 := by
 constructor
 · intro htop i hi
   apply Nat.eq_of_testBit_eq
   intro n
   rw [Nat.testBit_and, Nat.zero_testBit]
   cases h1 : (topS T i).testBit n with
   | false => rfl
   | true =>
     cases h2 : (seenTo T i).testBit n with
     | false => rfl
     | true =>
       exfalso
       obtain ⟨j, hj, h3⟩ := seenTo_bit h2
       have hb := topS_bag h1
       have hbs : IsSet (bagN T i) := by
         obtain ⟨x, hx⟩ : ∃ x, T[i]? = some x := ⟨_, List.getElem?_eq_getElem hi⟩
         rw [bagN_of hx]
         exact hS x (List.mem_of_getElem? hx)
       have h4 := List.all_eq_true.1 htop i (List.mem_range.2 hi)
       unfold topB at h4
       have h5 := List.all_eq_true.1 h4 n ((mem_elems hbs).2 hb)
       unfold oneB at h5
       have h6 : (topsL T n).length = 1 := by simpa using h5
       refine two_mem (l := topsL T n) (i := i) (j := j) ?_ ?_ (by omega) h6
       · unfold topsL; exact List.mem_filter.2 ⟨List.mem_range.2 hi, h1⟩
       · unfold topsL; exact List.mem_filter.2 ⟨List.mem_range.2 (by omega), h3⟩
 · intro hd
   rw [List.all_eq_true]
   intro i hi
   have hi := List.mem_range.1 hi
   unfold topB
   rw [List.all_eq_true]
   intro n hn
   have hbs : IsSet (bagN T i) := by
     obtain ⟨x, hx⟩ : ∃ x, T[i]? = some x := ⟨_, List.getElem?_eq_getElem hi⟩
     rw [bagN_of hx]
     exact hS x (List.mem_of_getElem? hx)
   have hb := (mem_elems hbs).1 hn
   obtain ⟨m, hs⟩ := hall i hi
   obtain ⟨j, hj, hjt⟩ := h.top hs hi hb
   have hap : ∀ a b, a < b → b < T.length → (topS T a).testBit n = true → (topS T b).testBit n = true → False := fun a b hab hbl h1 h2 => by
     have h3 := congrArg (fun z => z.testBit n) (hd b hbl)
     simp only [Nat.testBit_and, Nat.zero_testBit] at h3
     rw [h2, bit_seenTo h1 hab] at h3
     cases h3
   unfold oneB
   rw [beq_iff_eq]
   refine len_one (j := j) (List.Pairwise.filter _ List.nodup_range) (List.mem_filter.2 ⟨List.mem_range.2 hj, hjt⟩) fun a ha => ?_
   obtain ⟨h1, h2⟩ := List.mem_filter.1 ha
   have h1 := List.mem_range.1 h1
   rcases Nat.lt_trichotomy a j with h3 | h3 | h3
   · exact (hap a j h3 hj h2 hjt).elim
   · exact h3
   · exact (hap j a h3 h1 hjt h2).elim
def unred (i j : Nat) : Nat := if j < i then j else j + 1
theorem unred_ne (i j : Nat) : unred i j ≠ i := by unfold unred; split <;> omega
theorem unred_inj {i j k : Nat} (h : unred i j = unred i k) : j = k := by
 unfold unred at h
 split at h <;> split at h <;> omega
def redAt (i j : Nat) : Nat := if j < i then j else j - 1
theorem unred_redAt {i j : Nat} (h : j ≠ i) : unred i (redAt i j) = j := by
 unfold unred redAt
 by_cases hlt : j < i
 · rw [if_pos hlt, if_pos hlt]
 · rw [if_neg hlt, if_neg (by omega)]; omega
theorem redAt_unred (i j : Nat) : redAt i (unred i j) = j := by
 unfold unred redAt
 by_cases hlt : j < i
 · rw [if_pos hlt, if_pos hlt]
 · rw [if_neg hlt, if_neg (by omega)]; omega
theorem redStep_get {T : List Bg} {i p : Nat} {x y : Bg} (hx : T[i]? = some x) (hp : x.1 = p) (hy : T[p]? = some y) (j : Nat) :
   (redStep T i)[j]? = ((T.set p (y.1, y.2 ||| x.2))[unred i j]?).map (redPar i p) := by
 rw [redStep_of hx hp hy, List.getElem?_eraseIdx]
 unfold unred
 split
 · rw [List.getElem?_map]
 · rw [List.getElem?_map]
theorem redPar_fst (i p : Nat) (hip : p ≠ i) (x : Bg) : (redPar i p x).1 = if x.1 = (i : Int) then ((redAt i p : Nat) : Int) else if x.1 < (i : Int) then x.1 else x.1 - 1 := by
 unfold redPar redAt
 simp only
 by_cases h : x.1 = (i : Int)
 · rw [if_pos h, if_pos h]
   by_cases h2 : p < i
   · rw [if_pos h2, if_neg (by omega)]
   · rw [if_neg h2, if_pos (by omega)]; omega
 · rw [if_neg h, if_neg h]
   by_cases h2 : x.1 < (i : Int)
   · rw [if_pos h2, if_neg (by omega)]
   · rw [if_neg h2, if_pos (by omega)]
theorem redStep_par {T : List Bg} {i p : Nat} {x y : Bg} (hx : T[i]? = some x) (hp : x.1 = p) (hy : T[p]? = some y) (hpi : p ≠ i) {j : Nat} (hj : unred i j < T.length) :
   parU (redStep T i) j = if parU T (unred i j) = (i : Int) then ((redAt i p : Nat) : Int) else if parU T (unred i j) < (i : Int) then parU T (unred i j) else parU T (unred i j) - 1 := by
 have hpl := (List.getElem?_eq_some_iff.1 hy).1
 unfold parU
 rw [redStep_get hx hp hy]
 by_cases hjp : unred i j = p
 · rw [hjp, List.getElem?_set_self hpl, hy]
   simp only [Option.map_some]
   rw [redPar_fst i p hpi]
 · rw [List.getElem?_set_ne (Ne.symm hjp)]
   obtain ⟨z, hz⟩ : ∃ z, T[unred i j]? = some z := ⟨_, List.getElem?_eq_getElem hj⟩
   rw [hz]
   simp only [Option.map_some]
   rw [redPar_fst i p hpi]
theorem redStep_bag {T : List Bg} {i p : Nat} {x y : Bg} (hx : T[i]? = some x) (hp : x.1 = p) (hy : T[p]? = some y) (j : Nat) :
   bagN (redStep T i) j = if unred i j = p then bagN T p ||| bagN T i else bagN T (unred i j) := by
 have hpl := (List.getElem?_eq_some_iff.1 hy).1
 have e1 : bagN T i = x.2 := bagN_of hx
 have e2 : bagN T p = y.2 := bagN_of hy
 unfold bagN at *
 rw [redStep_get hx hp hy]
 by_cases hjp : unred i j = p
 · rw [hjp, List.getElem?_set_self hpl, if_pos rfl, e1, e2]
   rfl
 · rw [List.getElem?_set_ne (Ne.symm hjp), if_neg hjp]
   cases T[unred i j]? with
   | none => rfl
   | some z => rfl
theorem red_ok {T : List Bg} {r i p : Nat} {x y : Bg} (h : TOk T r) (hx : T[i]? = some x) (hp : x.1 = p) (hy : T[p]? = some y) : TOk (redStep T i) (redAt i r) := by
 obtain ⟨rk, M, hk⟩ := h.rk
 have hil := (List.getElem?_eq_some_iff.1 hx).1
 have hpl := (List.getElem?_eq_some_iff.1 hy).1
 have hlen := redStep_length hx hp hy
 have hip : parU T i = (p : Int) := by simp [parU, hx, hp]
 have hir : i ≠ r := fun e => by
   subst e
   rw [hk.head] at hip
   omega
 obtain ⟨p', h1, -, h3⟩ := hk.par i hil hir
 have hpp : p' = p := by omega
 subst hpp
 have hpi : p' ≠ i := fun e => by subst e; omega
 have hul : ∀ j, j < (redStep T i).length → unred i j < T.length := fun j hj => by unfold unred; split <;> omega
 have hal : ∀ j, j ≠ i → j < T.length → redAt i j < (redStep T i).length := fun j hj hjl => by unfold redAt; split <;> omega
 have hpar : ∀ j, j < (redStep T i).length → parU (redStep T i) j = _ := fun j hj => redStep_par hx hp hy hpi (hul j hj)
 -- the parent, read in the old places
 have hold : ∀ j, j < (redStep T i).length → unred i j ≠ r → ∃ q : Nat, q ≠ i ∧ q < T.length ∧ rk q < rk (unred i j) ∧ parU (redStep T i) j = ((redAt i q : Nat) : Int) ∧ (parU T (unred i j) = (q : Int) ∨ (parU T (unred i j) = (i : Int) ∧ q = p')) := fun j hj hjr => by
   obtain ⟨q, h4, h5, h6⟩ := hk.par _ (hul j hj) hjr
   rw [hpar j hj, h4]
   by_cases hqi : q = i
   · subst hqi
     exact ⟨p', hpi, hpl, by omega, by rw [if_pos rfl], .inr ⟨rfl, rfl⟩⟩
   · refine ⟨q, hqi, h5, h6, ?_, .inl rfl⟩
     rw [if_neg (by omega)]
     unfold redAt
     by_cases hlt : q < i
     · rw [if_pos (by omega), if_pos hlt]
     · rw [if_neg (by omega), if_neg hlt]; omega
 have hhead : parU (redStep T i) (redAt i r) = -1 := by
   rw [hpar _ (hal r (Ne.symm hir) hk.lt), unred_redAt (Ne.symm hir), hk.head, if_neg (by omega), if_pos (by omega)]
 refine ⟨⟨fun j => rk (unred i j), M, hal r (Ne.symm hir) hk.lt, hhead, fun c hc hcr => ?_, fun c hc => hk.bd _ (hul c hc)⟩, fun a b n ha hb h1' h2' => ?_⟩
 · have hur : unred i c ≠ r := fun e => hcr (by rw [← e, redAt_unred])
   obtain ⟨q, h4, h5, h6, h7, -⟩ := hold c hc hur
   exact ⟨redAt i q, h7, hal q h4 h5, by rw [unred_redAt h4]; exact h6⟩
 · have key : ∀ a, a < (redStep T i).length → (topS (redStep T i) a).testBit n = true → (topS T (unred i a)).testBit n = true ∨ (unred i a = p' ∧ (topS T i).testBit n = true) := fun a ha ht => by
     by_cases har : unred i a = r
     · have hae : a = redAt i r := by rw [← har, redAt_unred]
       rw [top_root ha (by rw [hae]; exact hhead), redStep_bag hx hp hy] at ht
       by_cases hup : unred i a = p'
       · rw [if_pos hup, Nat.testBit_or, Bool.or_eq_true] at ht
         rw [hup]
         have hpr : p' = r := by omega
         cases hb : (bagN T p').testBit n with
         | true => exact .inl (by rw [top_root hpl (by rw [hpr]; exact hk.head)]; exact hb)
         | false =>
           rcases ht with h4 | h4
           · rw [hb] at h4; cases h4
           · exact .inr ⟨rfl, by rw [top_other hil hip hpl, h4, hb]; rfl⟩
       · rw [if_neg hup] at ht
         exact .inl (by rw [top_root (hul a ha) (by rw [har]; exact hk.head)]; exact ht)
     · obtain ⟨q, h4, h5, h6, h7, h8⟩ := hold a ha har
       rw [top_other ha h7 (hal q h4 h5), redStep_bag hx hp hy, redStep_bag hx hp hy, unred_redAt h4] at ht
       simp only [Bool.and_eq_true, Bool.not_eq_true'] at ht
       obtain ⟨t1, t2⟩ := ht
       by_cases hup : unred i a = p'
       · rw [if_pos hup, Nat.testBit_or, Bool.or_eq_true] at t1
         have hqp : q ≠ p' := fun e => by rw [e, ← hup] at h6; omega
         rw [if_neg hqp] at t2
         have hpar' : parU T p' = (q : Int) := by
           rcases h8 with h8 | ⟨-, h9⟩
           · rw [← hup]; exact h8
           · exact absurd h9 hqp
         rw [hup]
         cases hb : (bagN T p').testBit n with
         | true => exact .inl (by rw [top_other hpl hpar' h5, hb, t2]; rfl)
         | false =>
           rcases t1 with h9 | h9
           · rw [hb] at h9; cases h9
           · exact .inr ⟨rfl, by rw [top_other hil hip hpl, h9, hb]; rfl⟩
       · rw [if_neg hup] at t1
         left
         by_cases hqp : q = p'
         · subst hqp
           rw [if_pos rfl, Nat.testBit_or, Bool.or_eq_false_iff] at t2
           rcases h8 with h8 | ⟨h8, -⟩
           · rw [top_other (hul a ha) h8 h5, t1, t2.1]; rfl
           · rw [top_other (hul a ha) h8 hil, t1, t2.2]; rfl
         · rw [if_neg hqp] at t2
           rcases h8 with h8 | ⟨-, h9⟩
           · rw [top_other (hul a ha) h8 h5, t1, t2]; rfl
           · exact absurd h9 hqp
   rcases key a ha h1' with k1 | ⟨e1, k1⟩
   · rcases key b hb h2' with k2 | ⟨e2, k2⟩
     · exact unred_inj (h.top _ _ n (hul a ha) (hul b hb) k1 k2)
     · exact absurd (h.top _ _ n (hul a ha) hil k1 k2) (unred_ne i a)
   · rcases key b hb h2' with k2 | ⟨e2, k2⟩
     · exact absurd (h.top _ _ n hil (hul b hb) k1 k2).symm (unred_ne i b)
     · exact unred_inj (e1.trans e2.symm)
theorem mergeable_or {X Y : Nat} (h : mergeable X Y = true) : Y ||| X = Y ∨ Y ||| X = X := by
 unfold mergeable at h
 simp only [Bool.or_eq_true, decide_eq_true_eq] at h
 rcases h with h | h
 · left
   apply Nat.eq_of_testBit_eq
   intro n
   have := congrArg (fun z => z.testBit n) h
   simp only [sDiff_testBit, Nat.zero_testBit] at this
   rw [Nat.testBit_or]
   cases h1 : X.testBit n <;> cases h2 : Y.testBit n <;> simp [h1, h2] at this ⊢
 · right
   apply Nat.eq_of_testBit_eq
   intro n
   have := congrArg (fun z => z.testBit n) h
   simp only [sDiff_testBit, Nat.zero_testBit] at this
   rw [Nat.testBit_or]
   cases h1 : X.testBit n <;> cases h2 : Y.testBit n <;> simp [h1, h2] at this ⊢
def BagLe (T U : List Bg) : Prop := ∀ m, m < T.length → ∃ j, j < U.length ∧ ∀ n, (bagN T m).testBit n = true → (bagN U j).testBit n = true
theorem BagLe.trans {T U V : List Bg} (h : BagLe T U) (k : BagLe U V) : BagLe T V := fun m hm => by
 obtain ⟨j, hj, h1⟩ := h m hm
 obtain ⟨l, hl, h2⟩ := k j hj
 exact ⟨l, hl, fun n hn => h2 n (h1 n hn)⟩
theorem BagLe.refl (T : List Bg) : BagLe T T := fun m hm => ⟨m, hm, fun _ h => h⟩
theorem red_le {T : List Bg} {i p : Nat} {x y : Bg} (hx : T[i]? = some x) (hp : x.1 = p) (hy : T[p]? = some y) (hpi : p ≠ i) : BagLe T (redStep T i) := by
 have hil := (List.getElem?_eq_some_iff.1 hx).1
 have hpl := (List.getElem?_eq_some_iff.1 hy).1
 have hlen := redStep_length hx hp hy
 have hal : ∀ j, j ≠ i → j < T.length → redAt i j < (redStep T i).length := fun j hj hjl => by unfold redAt; split <;> omega
 intro m hm
 by_cases hmi : m = i
 · subst hmi
   refine ⟨redAt m p, hal p hpi hpl, fun n hn => ?_⟩
   rw [redStep_bag hx hp hy, unred_redAt hpi, if_pos rfl, Nat.testBit_or, hn, Bool.or_true]
 · refine ⟨redAt i m, hal m hmi hm, fun n hn => ?_⟩
   rw [redStep_bag hx hp hy, unred_redAt hmi]
   split
   · rename_i e
     subst e
     rw [Nat.testBit_or, hn, Bool.true_or]
   · exact hn
theorem red_ge {T : List Bg} {i p : Nat} {x y : Bg} (hx : T[i]? = some x) (hp : x.1 = p) (hy : T[p]? = some y) (hm : mergeable x.2 y.2 = true) : BagLe (redStep T i) T := by
 have hil := (List.getElem?_eq_some_iff.1 hx).1
 have hpl := (List.getElem?_eq_some_iff.1 hy).1
 have hlen := redStep_length hx hp hy
 intro j hj
 have hu : unred i j < T.length := by unfold unred; split <;> omega
 by_cases hup : unred i j = p
 · rcases mergeable_or hm with h | h
   · refine ⟨p, hpl, fun n hn => ?_⟩
     rw [redStep_bag hx hp hy, if_pos hup, bagN_of hx, bagN_of hy, h] at hn
     rw [bagN_of hy]
     exact hn
   · refine ⟨i, hil, fun n hn => ?_⟩
     rw [redStep_bag hx hp hy, if_pos hup, bagN_of hx, bagN_of hy, h] at hn
     rw [bagN_of hx]
     exact hn
 · refine ⟨unred i j, hu, fun n hn => ?_⟩
   rw [redStep_bag hx hp hy, if_neg hup] at hn
   exact hn
theorem fitT_cov {G : Gr} {T : List Bg} (hG : G.Ok) (h : G.fitT T = 0) : (∀ v : Nat, (v : Int) ∈ G.ids' → ∃ x ∈ T, x.2.testBit v = true) ∧ ∀ e ∈ G.E, ∃ x ∈ T, x.2.testBit e.1.1.toNat = true ∧ x.2.testBit e.1.2.toNat = true := by
 unfold Gr.fitT at h
 split at h
 · rename_i h1
   split at h
   · rename_i h2
     refine ⟨fun v hv => ?_, fun e he => ?_⟩
     · have h3 := congrArg (fun z => z.testBit v) h1
       simp only [sDiff_testBit, Nat.zero_testBit] at h3
       rw [hG.vset_bit, decide_eq_true hv, Bool.true_and] at h3
       obtain ⟨x, hx, hb⟩ := (allTo_bit T v T.length).1 (by simpa using h3)
       rw [List.take_length] at hx
       exact ⟨x, hx, hb⟩
     · obtain ⟨x, hx, hb⟩ := List.any_eq_true.1 (h2 e he)
       unfold holdE hasI at hb
       simp only [Bool.and_eq_true] at hb
       exact ⟨x, hx, hb.1.2, hb.2.2⟩
   · cases h
 · cases h
theorem redTo_all : ∀ (n : Nat) (T : List Bg) (r : Nat), T.length ≤ n + 1 → TOk T r → (∀ x ∈ T, IsSet x.2) →
   (∃ r', TOk (redTo n T) r') ∧ (∀ x ∈ redTo n T, IsSet x.2) ∧ BagLe T (redTo n T) ∧ BagLe (redTo n T) T ∧ (redTo n T).length ≤ T.length ∧ idx (drawnP (redTo n T)) (redTo n T) < 0
 | 0, T, r, hn, h, hS => by
   refine ⟨⟨r, h⟩, hS, BagLe.refl T, BagLe.refl T, Nat.le_refl _, ?_⟩
   show idx (drawnP T) T < 0
   by_cases hd : idx (drawnP T) T < 0
   · exact hd
   · exfalso
     obtain ⟨k, x, hk, hx, hpx⟩ := idx_get hd
     have hkl := (List.getElem?_eq_some_iff.1 hx).1
     have hrl := h.lt
     have hkr : k = r := by omega
     subst hkr
     have := h.head
     simp [parU, hx] at this
     unfold drawnP at hpx
     rw [if_pos this] at hpx
     cases hpx
 | n + 1, T, r, hn, h, hS => by
   unfold redTo
   split
   · rename_i hd
     exact ⟨⟨r, h⟩, hS, BagLe.refl T, BagLe.refl T, Nat.le_refl _, hd⟩
   · rename_i hd
     obtain ⟨k, x, hk, hx, hpx⟩ := idx_get hd
     rw [hk, Int.toNat_natCast]
     obtain ⟨rk, M, hrk⟩ := h.rk
     have hkl := (List.getElem?_eq_some_iff.1 hx).1
     have hpar : parU T k = x.1 := by simp [parU, hx]
     have hx1 : x.1 ≠ -1 := fun e => by
       unfold drawnP at hpx
       rw [if_pos e] at hpx
       cases hpx
     have hkr : k ≠ r := fun e => by
       subst e
       have := hrk.head
       omega
     obtain ⟨p, h1, h2, h3⟩ := hrk.par k hkl hkr
     have hp : x.1 = (p : Int) := by omega
     have hpk : p ≠ k := fun e => by subst e; omega
     obtain ⟨y, hy⟩ : ∃ y, T[p]? = some y := ⟨_, List.getElem?_eq_getElem h2⟩
     have hm : mergeable x.2 y.2 = true := by
       obtain ⟨x1, x2⟩ := x
       simp only at hp
       subst hp
       rw [drawnP_of hy] at hpx
       exact hpx
     have hlen := redStep_length hx hp hy
     have hset := redStep_set hx hp hy hS
     obtain ⟨i1, i2, i3, i4, i5, i6⟩ := redTo_all n (redStep T k) _ (by omega) (red_ok h hx hp hy) hset
     exact ⟨i1, i2, (red_le hx hp hy hpk).trans i3, i4.trans (red_ge hx hp hy hm), by omega, i6⟩
theorem hasI_nat {S v : Nat} (h : S.testBit v = true) (hv : v < 1024) : hasI S (v : Int) = true := by
 unfold hasI
 rw [decide_eq_true (by omega), Int.toNat_natCast, h]
 rfl
theorem hasI_bit {S : Nat} {n : Int} (h : hasI S n = true) : S.testBit n.toNat = true := by
 unfold hasI at h
 rw [Bool.and_eq_true] at h
 exact h.2
def whereTo (T : List Bg) (n : Int) (k : Nat) : List Int := ((List.range k).filter fun i => hasI (bagN T i) n).map fun i : Nat => (i : Int)
theorem whereTo_succ (T : List Bg) (n : Int) (k : Nat) : whereTo T n (k + 1) = if hasI (bagN T k) n then whereTo T n k ++ [(k : Int)] else whereTo T n k := by
 unfold whereTo
 rw [List.range_succ, List.filter_append, List.map_append]
 split <;> rename_i h <;> simp [h]
theorem whereTo_len (T : List Bg) (n : Int) (k : Nat) : (whereTo T n k).length ≤ k := by
 unfold whereTo
 rw [List.length_map]
 exact Nat.le_trans (List.length_filter_le _ _) (by simp)
mutual
theorem Tr.ds_other : (t : Tr) → (d : Int) → (l : List Int) → (x : Nat) → x ∉ t.labs → (t.ds d l)[x]? = l[x]?
 | .node b ks, d, l, x, h => by
   rw [Tr.labs, List.mem_cons, not_or] at h
   rw [Tr.ds, Tr.dss_other ks (d + 1) (l.set b d) x h.2, List.getElem?_set_ne (fun e => h.1 e.symm)]
theorem Tr.dss_other : (ts : List Tr) → (d : Int) → (l : List Int) → (x : Nat) → x ∉ Tr.labss ts → (Tr.dss ts d l)[x]? = l[x]?
 | [], _, _, _, _ => rfl
 | t :: ts, d, l, x, h => by
   rw [Tr.labss, List.mem_append, not_or] at h
   rw [Tr.dss, Tr.dss_other ts d (t.ds d l) x h.2, Tr.ds_other t d l x h.1]
end
theorem ds_steps {T : List Bg} (t : Tr) : Fits T.length (kidsTo T T.length) t → t.labs.Nodup → ∀ (d : Int) (l : List Int), l.length = T.length → ∀ x ∈ t.labs, ∃ m, Steps (parU T) m x t.lab ∧ (t.ds d l)[x]? = some (d + (m : Int)) := by
 induction t using Tr.induct with
 | h b ks ih =>
 intro hf hn d l hl x hx
 obtain ⟨hb, hk, hfk⟩ : b < T.length ∧ kidsTo T T.length b = ks.map (fun t => (t.lab : Int)) ∧ ∀ t ∈ ks, Fits T.length (kidsTo T T.length) t := by
   cases hf with
   | mk _ _ h1 h2 h3 => exact ⟨h1, h2, h3⟩
 rw [Tr.labs, List.nodup_cons] at hn
 rw [Tr.labs, List.mem_cons] at hx
 rcases hx with rfl | hx
 · refine ⟨0, .zero, ?_⟩
   rw [Tr.ds, Tr.dss_other _ _ _ _ hn.1, List.getElem?_set_self (by omega)]
   simp
 · obtain ⟨u, hu, hxu⟩ := Tr.labss_mem hx
   obtain ⟨pre, post, rfl⟩ := List.append_of_mem hu
   have hnk := hn.2
   rw [Tr.labss_append, List.nodup_append] at hnk
   have hn2 := hnk.2.1
   rw [Tr.labss, List.nodup_append] at hn2
   have hxp : x ∉ Tr.labss post := fun h => hn2.2.2 x hxu x h rfl
   obtain ⟨m, hs, hm⟩ := ih u hu (hfk u hu) hn2.1 (d + 1) (Tr.dss pre (d + 1) (l.set b d)) (by rw [Tr.length_dss, List.length_set]; exact hl) x hxu
   have hpar : parU T u.lab = (b : Int) := by
     have h1 : (u.lab : Int) ∈ kidsTo T T.length b := by rw [hk]; exact List.mem_map.2 ⟨u, hu, rfl⟩
     obtain ⟨c, h2, -, y, hy, hyb⟩ := kidsTo_mem h1
     have : u.lab = c := by omega
     rw [this]
     simp [parU, hy, hyb]
   refine ⟨m + 1, hs.snoc hpar, ?_⟩
   rw [Tr.ds, Tr.dss_append, Tr.dss, Tr.dss_other _ _ _ _ hxp, hm]
   congr 1
   omega
theorem climb_dist {T : List Bg} {m x r : Nat} (h : Steps (parU T) m x r) (hr : parU T r = -1) : ∃ l, climb T (m + 1) (upI T (x : Int)) = some l ∧ l.length = m := by
 induction h with
 | zero =>
   refine ⟨[], ?_, rfl⟩
   rw [← parU_eq, hr, climb, if_pos (by omega)]
 | @succ m i p r h1 h2 ih =>
   obtain ⟨l, hl, hm⟩ := ih hr
   refine ⟨(p : Int) :: l, ?_, by simp [hm]⟩
   rw [← parU_eq, h1, climb, if_neg (by omega), hl]
   rfl
def deepAt (T : List Bg) (i : Nat) : Nat := ((climb T (T.length + 1) (upI T (i : Int))).getD []).length
theorem Rooted.deepAt {T : List Bg} {r m x : Nat} (h : Rooted T r) (hs : Steps (parU T) m x r) (hx : x < T.length) : Go.Pal.deepAt T x = m := by
 obtain ⟨l, hl, hm⟩ := climb_dist hs h.head
 have := h.few hs hx
 unfold Go.Pal.deepAt
 rw [climb_le hl (by omega)]
 exact hm
theorem Rooted.depths {T : List Bg} {r : Nat} (h : Rooted T r) {t : Tr} (htl : t.lab = r) (hf : Fits T.length (kidsTo T T.length) t) (hn : t.labs.Nodup) (hall : ∀ x, x < T.length → x ∈ t.labs) : t.ds 0 (List.replicate T.length 0) = (List.range T.length).map fun i => (Go.Pal.deepAt T i : Int) := by
 apply List.ext_getElem?
 intro i
 by_cases hi : i < T.length
 · obtain ⟨m, hs, hm⟩ := ds_steps t hf hn 0 (List.replicate T.length 0) (by simp) i (hall i hi)
   rw [htl] at hs
   rw [hm, List.getElem?_map, List.getElem?_range hi, Option.map_some, h.deepAt hs hi]
   simp
 · rw [List.getElem?_eq_none (by rw [Tr.length_ds]; simp; omega), List.getElem?_eq_none (by simp; omega)]
def rFitsN (G : Gr) (T : List Bg) : Int :=
 if rCheckN T ≠ 0 then rCheckN T
 else if G.V.all (fun p => decide ((whereTo T p.1 T.length).length ≠ 0)) = false then 9
 else if G.E.all (fun e => T.any (holdE e)) = false then 23 else 0
theorem where_mem {T : List Bg} {n : Int} : (whereTo T n T.length).length ≠ 0 ↔ ∃ x ∈ T, hasI x.2 n = true := by
 constructor
 · intro h
   obtain ⟨z, hz⟩ := List.exists_mem_of_length_pos (Nat.pos_of_ne_zero h)
   obtain ⟨i, hi, -⟩ := List.mem_map.1 hz
   obtain ⟨h1, h2⟩ := List.mem_filter.1 hi
   have h1 := List.mem_range.1 h1
   refine ⟨T[i], List.getElem_mem h1, ?_⟩
   rwa [bagN_of (List.getElem?_eq_getElem h1)] at h2
 · rintro ⟨x, hx, hb⟩ h
   obtain ⟨i, hi, rfl⟩ := List.mem_iff_getElem.1 hx
   have h1 : (i : Int) ∈ whereTo T n T.length := List.mem_map.2 ⟨i, List.mem_filter.2 ⟨List.mem_range.2 hi, by rw [bagN_of (List.getElem?_eq_getElem hi)]; exact hb⟩, rfl⟩
   have := List.length_pos_of_mem h1
   omega
theorem fits_eq {G : Gr} (hG : G.Ok) {T : List Bg} (h : rCheckN T = 0) : rFitsN G T = (G.fitT T : Int) := by
 unfold rFitsN Gr.fitT
 rw [if_neg (by simpa using h)]
 by_cases h1 : sDiff G.vset (allTo T T.length) = 0
 · rw [if_pos h1, if_neg]
   · by_cases h2 : ∀ e ∈ G.E, T.any (holdE e) = true
     · rw [if_neg (by simpa using h2), if_pos h2]
       rfl
     · rw [if_pos (by rw [List.all_eq_false]; simpa using h2), if_neg h2]
       rfl
   · rw [Bool.not_eq_false, List.all_eq_true]
     intro p hp
     rw [decide_eq_true_eq, where_mem]
     have hr := hG.ids p hp
     have h3 := congrArg (fun z => z.testBit p.1.toNat) h1
     simp only [sDiff_testBit, Nat.zero_testBit] at h3
     rw [hG.vset_bit, decide_eq_true (by rw [Int.toNat_of_nonneg hr.1]; exact List.mem_map.2 ⟨p, hp, rfl⟩), Bool.true_and] at h3
     obtain ⟨x, hx, hb⟩ := (allTo_bit T p.1.toNat T.length).1 (by simpa using h3)
     rw [List.take_length] at hx
     refine ⟨x, hx, ?_⟩
     unfold hasI
     rw [decide_eq_true hr, hb]
     rfl
 · rw [if_neg h1, if_pos]
   · rfl
   · cases ha : G.V.all (fun p => decide ((whereTo T p.1 T.length).length ≠ 0)) with
     | false => rfl
     | true =>
       refine absurd ?_ h1
       apply Nat.eq_of_testBit_eq
       intro n
       rw [sDiff_testBit, Nat.zero_testBit]
       cases hv : G.vset.testBit n with
       | false => rfl
       | true =>
         rw [hG.vset_bit, decide_eq_true_eq] at hv
         obtain ⟨p, hp, hpn⟩ := List.mem_map.1 hv
         have h2 := List.all_eq_true.1 ha p hp
         rw [decide_eq_true_eq, where_mem] at h2
         obtain ⟨x, hx, hb⟩ := h2
         have h3 := hasI_bit hb
         have hpn : p.1 = (n : Int) := hpn
         rw [hpn, Int.toNat_natCast] at h3
         have h4 : (allTo T T.length).testBit n = true := (allTo_bit T n T.length).2 ⟨x, by rw [List.take_length]; exact hx, h3⟩
         rw [h4]
         rfl
end Go.Pal
