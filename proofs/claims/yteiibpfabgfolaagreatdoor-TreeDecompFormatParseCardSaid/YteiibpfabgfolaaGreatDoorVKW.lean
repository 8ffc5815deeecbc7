/- Walks of package treedecomp: tops, Check of a valid tree with bags of any size. Plain: .. -/
import Derived.Test.YteiibpfabgfolaaGreatDoorVTre4
import Derived.Test.YteiibpfabgfolaaGreatDoorVKPl
import Derived.Test.YteiibpfabgfolaaGreatDoorVRef3
set_option linter.all false
namespace Go.Proofs.YteiibpfabgfolaaGreatDoor
open Go Go.RowKit Go.Pal
end Go.Proofs.YteiibpfabgfolaaGreatDoor
namespace Go.Pal
open Go
theorem Steps.uniq {U : Nat → Int} {m x r : Nat} (h : Steps U m x r) (hr : U r = -1) : ∀ {m' : Nat}, Steps U m' x r → m = m' := by
 induction h with
 | zero =>
   intro m' h'
   cases h' with
   | zero => rfl
   | succ h1 _ => rw [hr] at h1; omega
 | @succ m i p r h1 h2 ih =>
   intro m' h'
   cases h' with
   | zero => rw [hr] at h1; omega
   | @succ _ _ q _ h3 h4 =>
     rw [h1] at h3
     have : p = q := by omega
     subst this
     rw [ih hr h4]
theorem Steps.trans' {U : Nat → Int} {m x y : Nat} (h : Steps U m x y) : ∀ {m' z : Nat}, Steps U m' y z → Steps U (m + m') x z := by
 induction h with
 | zero => intro m' z h'; rw [Nat.zero_add]; exact h'
 | @succ m i p r h1 _ ih =>
   intro m' z h'
   rw [show m + 1 + m' = m + m' + 1 by omega]
   exact .succ h1 (ih h')
theorem Steps.chain {U : Nat → Int} {n m x r : Nat} (h : Steps U m x r) (hr : U r = -1) (hin : ∀ i p : Nat, i < n → U i = (p : Int) → p < n) : x < n → ∃ l : List Nat, l.Nodup ∧ l.length = m + 1 ∧ ∀ y ∈ l, y < n ∧ ∃ e, e ≤ m ∧ Steps U e y r := by
 induction h with
 | @zero i =>
   intro hx
   exact ⟨[i], by simp, rfl, fun y hy => by simp at hy; subst hy; exact ⟨hx, 0, Nat.le_refl _, .zero⟩⟩
 | @succ m i p r h1 h2 ih =>
   intro hx
   obtain ⟨l, hn, hl, ha⟩ := ih hr (hin i p hx h1)
   refine ⟨i :: l, List.nodup_cons.2 ⟨fun hi => ?_, hn⟩, by simp [hl], fun y hy => ?_⟩
   · obtain ⟨-, e, he, hs⟩ := ha i hi
     have := Steps.uniq hs hr (.succ h1 h2)
     omega
   · rcases List.mem_cons.1 hy with rfl | hy
     · exact ⟨hx, m + 1, Nat.le_refl _, .succ h1 h2⟩
     · obtain ⟨h3, e, he, hs⟩ := ha y hy
       exact ⟨h3, e, by omega, hs⟩
structure Rooted (T : List Bg) (r : Nat) : Prop where
 lt : r < T.length
 head : parU T r = -1
 par : ∀ c, c < T.length → c ≠ r → ∃ p : Nat, parU T c = (p : Int) ∧ p < T.length
theorem Rooted.inn {T : List Bg} {r : Nat} (h : Rooted T r) (i p : Nat) (hi : i < T.length) (hp : parU T i = (p : Int)) : p < T.length := by
 by_cases hir : i = r
 · subst hir
   rw [h.head] at hp
   omega
 · obtain ⟨q, h1, h2⟩ := h.par i hi hir
   omega
theorem Rooted.few {T : List Bg} {r : Nat} (h : Rooted T r) {m x : Nat} (hs : Steps (parU T) m x r) (hx : x < T.length) : m < T.length := by
 obtain ⟨l, hn, hl, ha⟩ := Steps.chain hs h.head h.inn hx
 have := length_le_of hn (l2 := List.range T.length) fun y hy => List.mem_range.2 (ha y hy).1
 rw [List.length_range] at this
 omega
theorem Rooted.fits {T : List Bg} {r : Nat} (h : Rooted T r) : ∀ (f b d : Nat), b < T.length → Steps (parU T) d b r → T.length - d ≤ f → Fits T.length (kidsTo T T.length) (mkTr (kidN' T) f b)
 | 0, b, d, hb, hs, hf => by have := h.few hs hb; omega
 | f + 1, b, d, hb, hs, hf => by
   rw [mkTr]
   refine .mk b _ hb ?_ ?_
   · rw [List.map_map, ← kidN_map]
     refine List.map_congr_left fun c _ => ?_
     simp [mkTr_lab]
   · intro u hu
     obtain ⟨c, hc, rfl⟩ := List.mem_map.1 hu
     obtain ⟨h1, h2⟩ := mem_kidN.1 hc
     exact Rooted.fits h f c (d + 1) h1 (.succ h2 hs) (by omega)
theorem Rooted.labs_mem {T : List Bg} {r : Nat} (h : Rooted T r) : ∀ (f b d : Nat), b < T.length → Steps (parU T) d b r → T.length - d ≤ f → ∀ x, x ∈ (mkTr (kidN' T) f b).labs ↔ x < T.length ∧ ∃ m, Steps (parU T) m x b
 | 0, b, d, hb, hs, hf => by have := h.few hs hb; omega
 | f + 1, b, d, hb, hs, hf => by
   intro x
   rw [mkTr, Tr.labs, List.mem_cons]
   constructor
   · rintro (rfl | hx)
     · exact ⟨hb, 0, .zero⟩
     · obtain ⟨u, hu, hx⟩ := Tr.labss_mem hx
       obtain ⟨c, hc, rfl⟩ := List.mem_map.1 hu
       obtain ⟨h1, h2⟩ := mem_kidN.1 hc
       obtain ⟨h3, m, h4⟩ := (Rooted.labs_mem h f c (d + 1) h1 (.succ h2 hs) (by omega) x).1 hx
       exact ⟨h3, m + 1, h4.snoc h2⟩
   · rintro ⟨hx, m, hst⟩
     have key : ∀ {m x c : Nat}, Steps (parU T) m x c → c = b → x < T.length → x = b ∨ ∃ c ∈ kidN' T b, ∃ m, Steps (parU T) m x c := by
       intro m x c hs
       induction hs with
       | zero => intro e _; exact .inl e
       | @succ m i p r' h1 h2 ih =>
         intro e hi
         rcases ih e (h.inn i p hi h1) with h5 | ⟨c, h5, m', h6⟩
         · right
           exact ⟨i, mem_kidN.2 ⟨hi, by rw [h1, h5]⟩, 0, .zero⟩
         · exact .inr ⟨c, h5, m' + 1, .succ h1 h6⟩
     rcases key hst rfl hx with h1 | ⟨c, hc, m', h1⟩
     · exact .inl h1
     · obtain ⟨h3, h4⟩ := mem_kidN.1 hc
       exact .inr (Tr.mem_labss (List.mem_map_of_mem hc) ((Rooted.labs_mem h f c (d + 1) h3 (.succ h4 hs) (by omega) x).2 ⟨hx, m', h1⟩))
theorem Rooted.nodup {T : List Bg} {r : Nat} (h : Rooted T r) : ∀ (f b d : Nat), b < T.length → Steps (parU T) d b r → T.length - d ≤ f → (mkTr (kidN' T) f b).labs.Nodup
 | 0, b, d, hb, hs, hf => by have := h.few hs hb; omega
 | f + 1, b, d, hb, hs, hf => by
   rw [mkTr, Tr.labs, List.nodup_cons]
   constructor
   · intro hx
     obtain ⟨u, hu, hx⟩ := Tr.labss_mem hx
     obtain ⟨c, hc, rfl⟩ := List.mem_map.1 hu
     obtain ⟨h1, h2⟩ := mem_kidN.1 hc
     obtain ⟨_, m, hst⟩ := (h.labs_mem f c (d + 1) h1 (.succ h2 hs) (by omega) b).1 hx
     have := Steps.uniq hs h.head (hst.trans' (.succ h2 hs))
     omega
   · have key : ∀ (l : List Nat), l.Nodup → (∀ c ∈ l, c ∈ kidN' T b) → (Tr.labss (l.map (mkTr (kidN' T) f))).Nodup := by
       intro l
       induction l with
       | nil => intro _ _; exact List.nodup_nil
       | cons c l ih =>
         intro hn hl
         rw [List.nodup_cons] at hn
         rw [List.map_cons, Tr.labss, List.nodup_append]
         obtain ⟨h1, h2⟩ := mem_kidN.1 (hl c (by simp))
         refine ⟨Rooted.nodup h f c (d + 1) h1 (.succ h2 hs) (by omega), ih hn.2 fun e he => hl e (by simp [he]), ?_⟩
         intro x hx y hy e
         subst e
         obtain ⟨u, hu, hy⟩ := Tr.labss_mem hy
         obtain ⟨e, he, rfl⟩ := List.mem_map.1 hu
         obtain ⟨h3, h4⟩ := mem_kidN.1 (hl e (by simp [he]))
         obtain ⟨hxl, m1, s1⟩ := (h.labs_mem f c (d + 1) h1 (.succ h2 hs) (by omega) x).1 hx
         obtain ⟨_, m2, s2⟩ := (h.labs_mem f e (d + 1) h3 (.succ h4 hs) (by omega) x).1 hy
         have hce : c ≠ e := fun e' => hn.1 (by rw [e']; exact he)
         rcases s1.linear s2 with ⟨k, s⟩ | ⟨k, s⟩
         · have := Steps.uniq (Steps.succ h2 hs) h.head (s.trans' (.succ h4 hs))
           have hk : k = 0 := by omega
           subst hk
           cases s
           exact hce rfl
         · have := Steps.uniq (Steps.succ h4 hs) h.head (s.trans' (.succ h2 hs))
           have hk : k = 0 := by omega
           subst hk
           cases s
           exact hce rfl
     exact key _ (kidN_nodup T b) fun _ h => h
theorem Rooted.tree {T : List Bg} {r : Nat} (h : Rooted T r) : ∃ t : Tr, t.lab = r ∧ Fits T.length (kidsTo T T.length) t ∧ t.sz ≤ T.length ∧ (t.sz = T.length ↔ ∀ x, x < T.length → ∃ m, Steps (parU T) m x r) ∧ t.labs.Nodup ∧ ∀ x, x ∈ t.labs ↔ x < T.length ∧ ∃ m, Steps (parU T) m x r := by
 have hn := h.nodup T.length r 0 h.lt .zero (by omega)
 have hm := h.labs_mem T.length r 0 h.lt .zero (by omega)
 have h1 := length_le_of hn (l2 := List.range T.length) fun x hx => List.mem_range.2 ((hm x).1 hx).1
 rw [List.length_range, Tr.length_labs] at h1
 refine ⟨mkTr (kidN' T) T.length r, mkTr_lab _ _ _, h.fits T.length r 0 h.lt .zero (by omega), h1, ⟨fun he x hx => ?_, fun hall => ?_⟩, hn, hm⟩
 · by_cases hxl : x ∈ (mkTr (kidN' T) T.length r).labs
   · exact ((hm x).1 hxl).2
   · have h2 := length_le_of (List.nodup_cons.2 ⟨hxl, hn⟩) (l2 := List.range T.length) fun y hy => by
       rcases List.mem_cons.1 hy with rfl | hy
       · exact List.mem_range.2 hx
       · exact List.mem_range.2 ((hm y).1 hy).1
     rw [List.length_range, List.length_cons, Tr.length_labs] at h2
     omega
 · have h2 := length_le_of (l1 := List.range T.length) List.nodup_range (l2 := (mkTr (kidN' T) T.length r).labs) fun x hx => (hm x).2 ⟨List.mem_range.1 hx, hall x (List.mem_range.1 hx)⟩
   rw [List.length_range, Tr.length_labs] at h2
   omega
theorem climb_le {T : List Bg} {z : Int} {f : Nat} {l : List Int} (h : climb T f z = some l) : ∀ {g : Nat}, f ≤ g → climb T g z = some l := by
 intro g
 induction g with
 | zero =>
   intro hg
   have : f = 0 := by omega
   subst this
   exact h
 | succ g ih =>
   intro hg
   by_cases e : f = g + 1
   · subst e; exact h
   · exact climb_mono (ih (by omega))
theorem climb_steps {T : List Bg} {m x r : Nat} (h : Steps (parU T) m x r) (hr : parU T r = -1) : ∃ l, climb T (m + 1) (upI T (x : Int)) = some l := by
 induction h with
 | zero =>
   refine ⟨[], ?_⟩
   rw [← parU_eq, hr, climb, if_pos (by omega)]
 | @succ m i p r h1 h2 ih =>
   obtain ⟨l, hl⟩ := ih hr
   refine ⟨(p : Int) :: l, ?_⟩
   rw [← parU_eq, h1, climb, if_neg (by omega), hl]
   rfl
theorem Rooted.of_climb {T : List Bg} {r : Nat} (h : Rooted T r) : ∀ (f x : Nat) (l : List Int), x < T.length → climb T f (upI T (x : Int)) = some l → ∃ m, Steps (parU T) m x r := by
 intro f
 induction f with
 | zero =>
   intro x l hx hc
   by_cases hxr : x = r
   · subst hxr; exact ⟨0, .zero⟩
   · obtain ⟨p, h1, -⟩ := h.par x hx hxr
     rw [← parU_eq, h1, climb, if_neg (by omega)] at hc
     cases hc
 | succ f ih =>
   intro x l hx hc
   by_cases hxr : x = r
   · subst hxr; exact ⟨0, .zero⟩
   · obtain ⟨p, h1, h2⟩ := h.par x hx hxr
     rw [← parU_eq, h1, climb, if_neg (by omega)] at hc
     obtain ⟨l', h3, -⟩ := Option.map_eq_some_iff.1 hc
     obtain ⟨m, hs⟩ := ih p l' h2 h3
     exact ⟨m + 1, .succ h1 hs⟩
theorem Rooted.up_iff {T : List Bg} {r : Nat} (h : Rooted T r) : (List.range T.length).all (upB T) = true ↔ ∀ x, x < T.length → ∃ m, Steps (parU T) m x r := by
 rw [List.all_eq_true]
 constructor
 · intro ha x hx
   have := ha x (List.mem_range.2 hx)
   unfold upB at this
   obtain ⟨l, hl⟩ := Option.isSome_iff_exists.1 this
   exact h.of_climb _ x l hx hl
 · intro ha x hx
   have hx := List.mem_range.1 hx
   obtain ⟨m, hs⟩ := ha x hx
   have hm := h.few hs hx
   obtain ⟨l, hl⟩ := climb_steps hs h.head
   unfold upB
   rw [climb_le hl (by omega)]
   rfl
theorem rooted_of {T : List Bg} (h1 : T.all (parB T.length) = true) (h2 : (T.filter rootB).length = 1) : ∃ r, Rooted T r ∧ rootsTo T T.length = [(r : Int)] := by
 have hP : ∀ x ∈ T, -1 ≤ x.1 ∧ x.1 < (T.length : Int) := fun x hx => by
   have := List.all_eq_true.1 h1 x hx
   simpa [parB] using this
 have hrl : (rootsTo T T.length).length = 1 := by
   rw [rootsTo_len (fun x hx => (hP x hx).1) _ (Nat.le_refl _), List.take_length]
   exact h2
 obtain ⟨z, hz⟩ : ∃ z, rootsTo T T.length = [z] := by
   match hl : rootsTo T T.length, hrl with
   | [z], _ => exact ⟨z, rfl⟩
 obtain ⟨r0, hr0, rfl, hr1⟩ := rootsTo_memR (z := z) (by rw [hz]; simp)
 have huniq : ∀ c, (T[c]?).map Prod.fst = some (-1) → c < T.length → c = r0 := fun c hc hl => by
   have := memR_rootsTo hc hl
   rw [hz] at this
   simp at this
   omega
 refine ⟨r0, ⟨hr0, ?_, fun c hc hcr => ?_⟩, hz⟩
 · obtain ⟨x, hx, h3⟩ := Option.map_eq_some_iff.1 hr1
   simp [parU, hx, h3]
 · obtain ⟨x, hx⟩ : ∃ x, T[c]? = some x := ⟨_, List.getElem?_eq_getElem hc⟩
   obtain ⟨h3, h4⟩ := hP x (List.mem_of_getElem? hx)
   have hne : x.1 ≠ -1 := fun e => hcr (huniq c (by rw [hx]; simp [e]) hc)
   exact ⟨x.1.toNat, by simp only [parU, hx]; omega, by omega⟩
theorem isSet_topS {T : List Bg} (hS : ∀ x ∈ T, IsSet x.2) (i : Nat) : IsSet (topS T i) := by
 unfold topS
 split
 · exact isSet_zero
 · rename_i x hx
   have h1 := hS x (List.mem_of_getElem? hx)
   split
   · exact h1
   · split
     · exact isSet_zero
     · exact isSet_diff h1
theorem Rooted.top {T : List Bg} {r : Nat} (h : Rooted T r) {n m x : Nat} (hs : Steps (parU T) m x r) : x < T.length → (bagN T x).testBit n = true → ∃ j, j < T.length ∧ (topS T j).testBit n = true := by
 have hr := h.head
 have hin := h.inn
 clear h
 induction hs with
 | @zero i =>
   intro hx hb
   exact ⟨i, hx, by rw [top_root hx hr]; exact hb⟩
 | @succ m i p r h1 h2 ih =>
   intro hx hb
   have hp := hin i p hx h1
   cases hbp : (bagN T p).testBit n with
   | true => exact ih hr hp hbp
   | false =>
     refine ⟨i, hx, ?_⟩
     rw [top_other hx h1 hp, hb, hbp]
     rfl
theorem bit_seenTo {T : List Bg} {n j : Nat} (hj : (topS T j).testBit n = true) : ∀ {k : Nat}, j < k → (seenTo T k).testBit n = true
 | 0, h => by omega
 | k + 1, h => by
   rw [seenTo, Nat.testBit_or, Bool.or_eq_true]
   by_cases e : j = k
   · subst e; exact .inr hj
   · exact .inl (bit_seenTo hj (by omega))
theorem len_one {l : List Nat} {j : Nat} (hn : l.Nodup) (hj : j ∈ l) (h : ∀ a ∈ l, a = j) : l.length = 1 := by
 match l, hj with
 | [x], _ => rfl
 | x :: y :: l, _ =>
   have h1 := h x (by simp)
   have h2 := h y (by simp)
   rw [List.nodup_cons] at hn
   exact absurd (by rw [h1, h2]; simp) hn.1
theorem Rooted.topB_iff {T : List Bg} {r : Nat} (h : Rooted T r) (hS : ∀ x ∈ T, IsSet x.2) (hall : ∀ x, x < T.length → ∃ m, Steps (parU T) m x r) :
   (List.range T.length).all (topB T) = true ↔ ∀ i, i < T.length → topS T i &&& seenTo T i = 0 := by
 constructor
 · intro htop i hi
   apply Nat.eq_of_testBit_eq
   intro n
   rw [Nat.testBit_and, Nat.zero_testBit]
   cases h1 : (topS T i).testBit n with
   | false => rfl
   | true =>
     cases h2 : (seenTo T i).testBit n with
     | false => rfl
     | true =>
       exfalso
       obtain ⟨j, hj, h3⟩ := seenTo_bit h2
       have hb := topS_bag h1
       have hbs : IsSet (bagN T i) := by
         obtain ⟨x, hx⟩ : ∃ x, T[i]? = some x := ⟨_, List.getElem?_eq_getElem hi⟩
         rw [bagN_of hx]
         exact hS x (List.mem_of_getElem? hx)
       have h4 := List.all_eq_true.1 htop i (List.mem_range.2 hi)
       unfold topB at h4
       have h5 := List.all_eq_true.1 h4 n ((mem_elems hbs).2 hb)
       unfold oneB at h5
       have h6 : (topsL T n).length = 1 := by simpa using h5
       refine two_mem (l := topsL T n) (i := i) (j := j) ?_ ?_ (by omega) h6
       · unfold topsL; exact List.mem_filter.2 ⟨List.mem_range.2 hi, h1⟩
       · unfold topsL; exact List.mem_filter.2 ⟨List.mem_range.2 (by omega), h3⟩
 · intro hd
   rw [List.all_eq_true]
   intro i hi
   have hi := List.mem_range.1 hi
   unfold topB
   rw [List.all_eq_true]
   intro n hn
   have hbs : IsSet (bagN T i) := by
     obtain ⟨x, hx⟩ : ∃ x, T[i]? = some x := ⟨_, List.getElem?_eq_getElem hi⟩
     rw [bagN_of hx]
     exact hS x (List.mem_of_getElem? hx)
   have hb := (mem_elems hbs).1 hn
   obtain ⟨m, hs⟩ := hall i hi
   obtain ⟨j, hj, hjt⟩ := h.top hs hi hb
   have hap : ∀ a b, a < b → b < T.length → (topS T a).testBit n = true → (topS T b).testBit n = true → False := fun a b hab hbl h1 h2 => by
     have h3 := congrArg (fun z => z.testBit n) (hd b hbl)
     simp only [Nat.testBit_and, Nat.zero_testBit] at h3
     rw [h2, bit_seenTo h1 hab] at h3
     cases h3
   unfold oneB
   rw [beq_iff_eq]
   refine len_one (j := j) (List.Pairwise.filter _ List.nodup_range) (List.mem_filter.2 ⟨List.mem_range.2 hj, hjt⟩) fun a ha => ?_
   obtain ⟨h1, h2⟩ := List.mem_filter.1 ha
   have h1 := List.mem_range.1 h1
   rcases Nat.lt_trichotomy a j with h3 | h3 | h3
   · exact (hap a j h3 hj h2 hjt).elim
   · exact h3
   · exact (hap j a h3 h1 hjt h2).elim
end Go.Pal
namespace Go.Proofs.YteiibpfabgfolaaGreatDoor
open Go Go.RowKit Go.Pal
def ParAt (T : List Bg) : Prop := ∀ (i : Nat) (x : Bg), T[i]? = some x → x.1 = -1 ∨ ∃ p : Nat, x.1 = p ∧ p < T.length
theorem parAt_of {T : List Bg} (h : T.all (parB T.length) = true) : ParAt T := fun i x hx => by
 obtain ⟨h1, h2⟩ := parIn_of h i x hx
 by_cases e : x.1 = -1
 · exact .inl e
 · exact .inr ⟨x.1.toNat, by omega, by omega⟩
theorem tops_par (T : List Bg) (hP : ParAt T) (hl : T.length ≤ 65536) (v : Value) (w : World) (hv : Rd bagA 17 w.heap.size w v T) (i : Nat) (hi : i < T.length) :
   Calls Tryz.prog 55 #[v, .int .i64 (i : Int)] w fun e w' => e = .returned (.agg (words (topS T i))) ∧ Below w.heap.size w w' := by
 obtain ⟨x, hx⟩ : ∃ x, T[i]? = some x := ⟨_, List.getElem?_eq_getElem hi⟩
 rcases hP i x hx with hp | ⟨p, hp, hpl⟩
 · rw [topS_root hx hp]
   exact tops_root T v w hv (by omega) i x hx hp
 · obtain ⟨y, hy⟩ : ∃ y, T[p]? = some y := ⟨_, List.getElem?_eq_getElem hpl⟩
   rw [topS_other hx hp hy]
   exact tops_other T v w hv (by omega) i p x y hx hp hy
theorem any_par (T : List Bg) : (T.any fun b => decide (b.1 < -1) || decide ((T.length : Int) ≤ b.1)) = !(T.all (parB T.length)) := by
 rw [List.not_all_eq_any_not]
 congr 1
 funext b
 unfold parB
 rw [Bool.eq_iff_iff]
 simp
set_option maxRecDepth 10000 in
set_option maxHeartbeats 2000000 in
theorem tcheck_any (T : List Bg) (hSet : ∀ x ∈ T, IsSet x.2) (v : Value) (w : World) (hv : Rd bagA 17 w.heap.size w v T) (hle : T.length ≤ 1024) :
   Calls Tryz.prog 21 #[v] w fun e w' => e = .returned (.int .i64 (rCheckN T)) ∧ Below w.heap.size w w' := by
 have HV := Lib.hid hv
 have HSet := Lib.hid hSet
 obtain ⟨a, c, rfl, -⟩ := hv
 obtain ⟨R, hR⟩ : ∃ R, R = rCheckN T := ⟨_, rfl⟩
 have HRR := Lib.hid hR
 rw [← hR]
 clear hSet hR
 by_cases h0 : T.length < 1
 · have HE : Hid (R = 2) := Lib.hid (by rw [HRR.out, rCheckN_len (.inl h0)])
   have hl : T.length = 0 := by omega
   rw [hl]
   go_enter Tryz.func21, Tryz.ntmps21
   go_wp2_with fail
   go_ret
   refine ⟨by rw [HE.out]; rfl, ?_⟩
   (repeat' (first | (with_reducible first | exact Below.refl _ _ | assumption | refine Below.alloc ?_ ?_ _ | refine Below.drew ?_ | refine Below.setCell ?_ ?_ _ | refine below_setRow ?_ ?_ _ | exact Nat.le_refl _) | omega | (simp; done) | (simp; omega) | (simp at *; omega)))
 have H0 : Hid (¬ (T.length < 1 ∨ 4096 < T.length)) := Lib.hid (by omega)
 have hl0 : ((T.length : Int) == 0) = false := by rw [beq_eq_false_iff_ne]; omega
 have hl1 : decide ((4096 : Int) < (T.length : Int)) = false := decide_eq_false (by omega)
 go_enter Tryz.func21, Tryz.ntmps21
 go_wp2_with fail
 have hB1 : Below w.heap.size w (w.alloc (Obj.cells #[.slice a T.length c] 23)) := (Below.refl _ w).alloc (Nat.le_refl _) _
 have hr1 : row? (w.alloc (Obj.cells #[.slice a T.length c] 23)) w.heap.size = some #[.slice a T.length c] := by simp [go_sem]
 obtain ⟨W1, hW1⟩ : ∃ W1, W1 = w.alloc (Obj.cells #[.slice a T.length c] 23) := ⟨_, rfl⟩
 have hs1 : W1.heap.size = w.heap.size + 1 := by rw [hW1]; simp
 rw [← hW1] at hB1 hr1 ⊢
 clear hW1
 have hcf := containsFuncT (fun b => decide (b.1 < -1) || decide ((T.length : Int) ≤ b.1)) 52 #[.pointer (some ⟨w.heap.size, 0, none⟩)] (fun args w => by simp [go_sem]) T (.slice a T.length c) W1 ((HV.out.below hB1 (Nat.le_refl _)).mono hB1.size) (by omega)
   fun W hW x _ => check1_any x w.heap.size (.slice a T.length c) T.length W ((row?_below hW (by omega)).trans hr1) ⟨_, _, rfl⟩
 rw [any_par] at hcf
 obtain ⟨pb, hpb⟩ : ∃ pb, pb = T.all (parB T.length) := ⟨_, rfl⟩
 have HPB := Lib.hid hpb
 rw [← hpb] at hcf
 clear hpb
 refine hcf.mono ?_
 rintro e w2 ⟨rfl, hb2⟩
 have hr2 := (row?_below hb2 (by omega)).trans hr1
 have hB2 := hB1.trans (hb2.mono (by omega))
 have hs2 := hb2.size
 have e1 : w2.cell? ⟨w.heap.size, 0, none⟩ = _ := cell?_row (i := 0) hr2
 simp at e1
 have HB2 := Lib.hid hB2
 have HR2 := Lib.hid hr2
 clear hcf hb2 hr1 hB1 hr2 hB2
 cases pb with
 | false =>
   have HE : Hid (R = 3) := Lib.hid (by rw [HRR.out, rCheckN_par H0.out HPB.out.symm])
   simp only [Bool.not_false]
   go_wp2_with fail
   go_ret
   exact ⟨by rw [HE.out]; rfl, HB2.out⟩
 | true =>
   simp only [Bool.not_true]
   have HPA : Hid (ParAt T) := Lib.hid (parAt_of HPB.out.symm)
   go_wp2_with fail
   refine (roots_any T (.slice a T.length c) w2 ((HV.out.below HB2.out (Nat.le_refl _)).mono HB2.out.size) (by omega)).mono ?_
   rintro e w3 ⟨v3, rfl, hO3, hb3⟩
   obtain ⟨q3, n3, c3, rfl⟩ := hO3.slice
   have hn3 := hO3.len
   have hrl : (rootsTo T T.length).length = (T.filter rootB).length := by
     rw [rootsTo_len (fun x hx => by
       obtain ⟨i, hi⟩ := List.mem_iff_getElem?.1 hx
       exact (parIn_of HPB.out.symm i x hi).1) _ (Nat.le_refl _), List.take_length]
   rw [hrl] at hn3
   subst hn3
   have hfl : (T.filter rootB).length ≤ T.length := List.length_filter_le _ _
   have hr3 := (row?_below hb3 (by omega)).trans HR2.out
   have hB3 := HB2.out.trans (hb3.mono (by omega))
   have hs3 := hb3.size
   have e2 : w3.cell? ⟨w.heap.size, 0, none⟩ = _ := cell?_row (i := 0) hr3
   simp at e2
   have HB3 := Lib.hid hB3
   have HR3 := Lib.hid hr3
   clear hO3 e1 hr3 hB3 hb3 hrl
   obtain ⟨n, hn⟩ : ∃ n, n = (T.filter rootB).length := ⟨_, rfl⟩
   have HN := Lib.hid hn
   rw [← hn] at hfl ⊢
   clear hn
   by_cases hroot : n = 1
   · subst hroot
     obtain ⟨r, hrt, hrr⟩ := rooted_of HPB.out.symm HN.out.symm
     have HRt := Lib.hid hrt
     obtain ⟨t, htl, hft, hts, htz, -, -⟩ := hrt.tree
     have HTZ := Lib.hid htz
     rw [← htl] at hrr
     go_wp2_with fail
     have hd := depths_any T (.slice a T.length c) w3 ((HV.out.below HB3.out (Nat.le_refl _)).mono HB3.out.size) (by omega) HPA.out t hrr hft (by omega)
     refine hd.mono ?_
     rintro e w4 ⟨rfl, hr, hb4⟩
     have hr4 := (row?_below hb4 (by omega)).trans HR3.out
     have hB4 := HB3.out.trans (hb4.mono (by omega))
     have hs4 := hb4.size
     have e3 : w4.cell? ⟨w.heap.size, 0, none⟩ = _ := cell?_row (i := 0) hr4
     simp at e3
     have HB4 := Lib.hid hB4
     have HR4 := Lib.hid hr4
     clear hd hr e2 hr4 hB4 hb4 hrt hrr hft htz htl
     have hlt4 : w.heap.size < w4.heap.size := by omega
     by_cases hall : t.sz = T.length
     · rw [decide_eq_true hall]
       have HAll := Lib.hid (HTZ.out.1 hall)
       have HUp := Lib.hid (HRt.out.up_iff.2 HAll.out)
       have HTop := Lib.hid (HRt.out.topB_iff HSet.out HAll.out)
       clear hall hts
       go_wp2_with fail
       go_loopw [34] (fun i wr => ∃ k : Nat, k ≤ T.length ∧ i = .int .i64 k ∧ (∀ j, j < k → topS T j &&& seenTo T j = 0) ∧ row? wr w.heap.size = some #[.slice a T.length c] ∧ row? wr w4.heap.size = some (words (seenTo T k)) ∧ Below w.heap.size w wr) (fun i _ => T.length - (intOf i).toNat)
       case atStart =>
         refine ⟨0, by omega, rfl, fun j hj => by omega, ?_, by simp [go_sem, seenTo], HB4.out.alloc (by omega) _⟩
         rw [row?_alloc_past _ _ _ (by omega)]
         exact HR4.out
       case round =>
         obtain ⟨k, hk, rfl, hap, hra, hrs, hb⟩ := hrel
         have HAP := Lib.hid hap
         have hlt5 := row?_lt hrs
         have e5 : wr.cell? ⟨w.heap.size, 0, none⟩ = _ := cell?_row (i := 0) hra
         simp at e5
         have HRA := Lib.hid hra
         have HRS := Lib.hid hrs
         have HB5 := Lib.hid hb
         clear hra hrs hb e3 hap
         by_cases hlt : k < T.length
         · go_wp2_with fail
           refine (tops_par T HPA.out (by omega) (.slice a T.length c) wr ((HV.out.below HB5.out (Nat.le_refl _)).mono HB5.out.size) k hlt).mono ?_
           rintro e w6 ⟨rfl, hb6⟩
           have hs6 := hb6.size
           have hra6 := (row?_below hb6 (by omega)).trans HRA.out
           have hrs6 := (row?_below hb6 (by omega)).trans HRS.out
           have HB6 := Lib.hid (HB5.out.trans (hb6.mono (by omega)))
           have hlt6 : w4.heap.size < w6.heap.size := by omega
           have hlt7 : w.heap.size < w6.heap.size := by omega
           clear e5 hb6
           go_wp2_with fail
           refine (inter_any _ _ _).mono ?_
           rintro e w7 ⟨rfl, hb7⟩
           have hs7 := hb7.size
           simp only [World.size_alloc] at hs7
           have hra7 : row? w7 w.heap.size = some #[.slice a T.length c] := (row?_below hb7 (by simp; omega)).trans (by rw [row?_alloc_past _ _ _ hlt7]; exact hra6)
           have hrs7 : row? w7 w4.heap.size = some (words (seenTo T k)) := (row?_below hb7 (by simp; omega)).trans (by rw [row?_alloc_past _ _ _ hlt6]; exact hrs6)
           have hrt7 : row? w7 w6.heap.size = some (words (topS T k)) := (row?_below hb7 (by simp)).trans (by simp [go_sem])
           have HB7 := Lib.hid (((HB6.out.alloc (by omega) (Obj.cells (words (topS T k)) 51))).trans (hb7.mono (by simp; omega)))
           obtain ⟨D, hD⟩ : ∃ D, D = topS T k &&& seenTo T k := ⟨_, rfl⟩
           have hDS : IsSet D := by rw [hD]; exact isSet_and (isSet_topS HSet.out k)
           have HD := Lib.hid hD
           rw [← hD]
           clear hb7 hra6 hrs6 hD
           go_wp2_with fail
           refine (isEmpty_any D hDS w7).mono ?_
           rintro e w8 ⟨rfl, hb8⟩
           have hs8 := hb8.size
           have hra8 := (row?_below hb8 (by omega)).trans hra7
           have hrs8 := (row?_below hb8 (by omega)).trans hrs7
           have hrt8 := (row?_below hb8 (by omega)).trans hrt7
           have HB8 := Lib.hid (HB7.out.trans (hb8.mono (by omega)))
           clear hb8 hra7 hrs7 hrt7 hDS
           by_cases hz : D = 0
           · rw [decide_eq_true hz]
             have HAP2 : Hid (∀ j, j < k + 1 → topS T j &&& seenTo T j = 0) := Lib.hid (fun j hj => by
               by_cases e : j = k
               · subst e; rw [← HD.out, hz]
               · exact HAP.out j (by omega))
             clear hz
             go_wp2_with fail
             refine (union_any _ _ _).mono ?_
             rintro e w9 ⟨rfl, hb9⟩
             have hs9 := hb9.size
             have hra9 := (row?_below hb9 (by omega)).trans hra8
             have hrs9 := (row?_below hb9 (by omega)).trans hrs8
             have HB9 := Lib.hid (HB8.out.trans (hb9.mono (by omega)))
             clear hb9 hra8 hrs8 hrt8
             go_wp2
             go_roundw
             case rel =>
               refine ⟨k + 1, by omega, by go_num, HAP2.out, ?_, ?_, ?_⟩
               · rw [row?_setRow_other _ _ _ _ (by omega)]; exact hra9
               · rw [row?_setRow_same _ _ _ (by rw [hrs9]; rfl)]; rfl
               · exact below_setRow HB9.out (by omega) _
             case measure => simp [intOf]; omega
           · rw [decide_eq_false hz]
             have HE : Hid (R = 7) := Lib.hid (by
               rw [HRR.out]
               refine rCheckN_top H0.out HPB.out.symm HN.out.symm HUp.out ?_
               cases hb : (List.range T.length).all (topB T) with
               | false => rfl
               | true => exact absurd (HTop.out.1 hb k hlt) (by rw [← HD.out]; exact hz))
             clear hz hra8 hrs8 hrt8
             go_wp2_with fail
             go_ret
             exact ⟨by rw [HE.out]; rfl, HB8.out⟩
         · have hk' : k = T.length := by omega
           subst hk'
           have HE : Hid (R = 0) := Lib.hid (by rw [HRR.out, rCheckN_ok H0.out HPB.out.symm HN.out.symm HUp.out (HTop.out.2 HAP.out)])
           clear e5
           go_wp2
           go_ret
           exact ⟨by rw [HE.out]; rfl, HB5.out⟩
     · rw [decide_eq_false hall]
       have HE : Hid (R = 15) := Lib.hid (by
         rw [HRR.out]
         refine rCheckN_up H0.out HPB.out.symm HN.out.symm ?_
         cases hb : (List.range T.length).all (upB T) with
         | false => rfl
         | true => exact absurd (HTZ.out.2 (HRt.out.up_iff.1 hb)) hall)
       clear hall hts e3
       go_wp2_with fail
       go_ret
       exact ⟨by rw [HE.out]; rfl, HB4.out⟩
   · have HE : Hid (R = 3) := Lib.hid (by rw [HRR.out, rCheckN_root H0.out HPB.out.symm (by rw [← HN.out]; exact hroot)])
     have hr1 : ((n : Int) == 1) = false := by simp; omega
     have hr2 : ((n : Int) != 1) = true := by simp; omega
     clear e2
     go_wp2_with fail
     go_ret
     exact ⟨by rw [HE.out]; rfl, HB3.out⟩
end Go.Proofs.YteiibpfabgfolaaGreatDoor
