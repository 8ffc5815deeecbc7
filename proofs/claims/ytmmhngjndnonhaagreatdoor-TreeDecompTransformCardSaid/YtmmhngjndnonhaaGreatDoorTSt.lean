/- Plain: sequences of integers swapped, turned round and merged within a range; a strict .. -/
import Derived.Test.YtmmhngjndnonhaaGreatDoorTPlain
import Derived.Test.YtmmhngjndnonhaaGreatDoorTMx
import Derived.Test.YtmmhngjndnonhaaGreatDoorTJG
import Derived.Deep.Cut
import Derived.Deep.CutRange
import Derived.Test.YtmmhngjndnonhaaGreatDoorTGrM
import Derived.Test.YtmmhngjndnonhaaGreatDoorTGrG
set_option maxHeartbeats 4000000
set_option maxRecDepth 10000
set_option linter.all false
namespace Go.Pal
open Go
def PermR (a b : Nat) (f g : Nat → Int) : Prop :=
 ∃ s t : Nat → Nat, (∀ i, s (t i) = i) ∧ (∀ i, t (s i) = i) ∧ (∀ i, i < a ∨ b ≤ i → s i = i) ∧ ∀ i, g i = f (s i)
theorem PermR.refl (a b : Nat) (f : Nat → Int) : PermR a b f f := ⟨id, id, fun _ => rfl, fun _ => rfl, fun _ _ => rfl, fun _ => rfl⟩
theorem PermR.trans {a b : Nat} {f g h : Nat → Int} (p : PermR a b f g) (q : PermR a b g h) : PermR a b f h := by
 obtain ⟨s, t, h1, h2, h3, h4⟩ := p
 obtain ⟨s', t', k1, k2, k3, k4⟩ := q
 refine ⟨fun i => s (s' i), fun i => t' (t i), fun i => ?_, fun i => ?_, fun i hi => ?_, fun i => ?_⟩
 · simp only [k1, h1]
 · simp only [h2, k2]
 · simp only [k3 i hi, h3 i hi]
 · rw [k4, h4]
theorem PermR.mono {a b a' b' : Nat} {f g : Nat → Int} (p : PermR a b f g) (ha : a' ≤ a) (hb : b ≤ b') : PermR a' b' f g := by
 obtain ⟨s, t, h1, h2, h3, h4⟩ := p
 exact ⟨s, t, h1, h2, fun i hi => h3 i (by omega), h4⟩
theorem PermR.out {a b : Nat} {f g : Nat → Int} (p : PermR a b f g) {i : Nat} (hi : i < a ∨ b ≤ i) : g i = f i := by
 obtain ⟨s, t, h1, h2, h3, h4⟩ := p
 rw [h4, h3 i hi]
theorem PermR.mem {a b : Nat} {f g : Nat → Int} (p : PermR a b f g) {i : Nat} (ha : a ≤ i) (hb : i < b) : ∃ j, a ≤ j ∧ j < b ∧ g i = f j := by
 obtain ⟨s, t, h1, h2, h3, h4⟩ := p
 refine ⟨s i, ?_, ?_, h4 i⟩
 · apply Classical.byContradiction
   intro hn
   have e := h3 (s i) (by omega)
   have := h2 (s i)
   rw [e, h2] at this
   omega
 · apply Classical.byContradiction
   intro hn
   have e := h3 (s i) (by omega)
   have := h2 (s i)
   rw [e, h2] at this
   omega
def swapF (f : Nat → Int) (x y : Nat) : Nat → Int := fun k => if k = x then f y else if k = y then f x else f k
def rotF (f : Nat → Int) (a m b : Nat) : Nat → Int := fun k => if a ≤ k ∧ k < a + (b - m) then f (k + (m - a)) else if a + (b - m) ≤ k ∧ k < b then f (k - (b - m)) else f k
theorem rot_perm (f : Nat → Int) {a m b : Nat} (h1 : a ≤ m) (h2 : m ≤ b) : PermR a b f (rotF f a m b) := by
 refine ⟨fun k => if a ≤ k ∧ k < a + (b - m) then k + (m - a) else if a + (b - m) ≤ k ∧ k < b then k - (b - m) else k,
   fun k => if a ≤ k ∧ k < m then k + (b - m) else if m ≤ k ∧ k < b then k - (m - a) else k, fun i => ?_, fun i => ?_, fun i hi => ?_, fun i => ?_⟩
 · by_cases c1 : a ≤ i ∧ i < m
   · simp only [c1, and_self, if_true]
     rw [if_neg (by omega), if_pos (by omega)]
     omega
   · by_cases c2 : m ≤ i ∧ i < b
     · simp only [c1, c2, and_self, if_true, if_false]
       rw [if_pos (by omega)]
       omega
     · simp only [c1, c2, if_false]
       rw [if_neg (by omega), if_neg (by omega)]
 · by_cases c1 : a ≤ i ∧ i < a + (b - m)
   · simp only [c1, and_self, if_true]
     rw [if_neg (by omega), if_pos (by omega)]
     omega
   · by_cases c2 : a + (b - m) ≤ i ∧ i < b
     · simp only [c1, c2, and_self, if_true, if_false]
       rw [if_pos (by omega)]
       omega
     · simp only [c1, c2, if_false]
       rw [if_neg (by omega), if_neg (by omega)]
 · show (if _ then _ else if _ then _ else i) = i
   rw [if_neg (by omega), if_neg (by omega)]
 · show rotF f a m b i = f (if _ then _ else if _ then _ else i)
   unfold rotF
   split
   · rfl
   · split <;> rfl
theorem rot_lo (f : Nat → Int) {a m b k : Nat} (h1 : a ≤ k) (h2 : k < a + (b - m)) : rotF f a m b k = f (k + (m - a)) := by unfold rotF; rw [if_pos ⟨h1, h2⟩]
theorem rot_hi (f : Nat → Int) {a m b k : Nat} (h1 : a + (b - m) ≤ k) (h2 : k < b) : rotF f a m b k = f (k - (b - m)) := by unfold rotF; rw [if_neg (by omega), if_pos ⟨h1, h2⟩]
theorem rot_out (f : Nat → Int) {a m b k : Nat} (h0 : m ≤ b) (ham : a ≤ m) (h : k < a ∨ b ≤ k) : rotF f a m b k = f k := by unfold rotF; rw [if_neg (by omega), if_neg (by omega)]
theorem rot_nil (f : Nat → Int) {a m : Nat} : rotF f a m m = f := by
 funext k
 unfold rotF
 rw [if_neg (by omega), Nat.sub_self]
 split
 · rfl
 · rfl
theorem rot_nil' (f : Nat → Int) {m b : Nat} : rotF f m m b = f := by
 funext k
 unfold rotF
 split
 · simp
 · split
   · omega
   · rfl
theorem rot_fwd (f : Nat → Int) {a x : Nat} (h : a < x) : swapF (rotF f a (a + 1) x) (x - 1) x = rotF f a (a + 1) (x + 1) := by
 funext k
 unfold swapF
 by_cases c1 : k = x - 1
 · rw [if_pos c1, rot_out f (by omega) (by omega) (by omega), rot_lo f (by omega) (by omega)]
   congr 1; omega
 · rw [if_neg c1]
   by_cases c2 : k = x
   · rw [if_pos c2, rot_hi f (by omega) (by omega), rot_hi f (by omega) (by omega)]
     congr 1; omega
   · rw [if_neg c2]
     by_cases c3 : a ≤ k ∧ k < x
     · rw [rot_lo f (by omega) (by omega), rot_lo f (by omega) (by omega)]
     · rw [rot_out f (by omega) (by omega) (by omega), rot_out f (by omega) (by omega) (by omega)]
theorem rot_bwd (f : Nat → Int) {k m : Nat} (h0 : 0 < k) (h : k ≤ m) : swapF (rotF f k m (m + 1)) k (k - 1) = rotF f (k - 1) m (m + 1) := by
 funext j
 unfold swapF
 by_cases c1 : j = k
 · rw [if_pos c1, rot_out f (by omega) (by omega) (by omega), rot_hi f (by omega) (by omega)]
   congr 1; omega
 · rw [if_neg c1]
   by_cases c2 : j = k - 1
   · rw [if_pos c2, rot_lo f (by omega) (by omega), rot_lo f (by omega) (by omega)]
     congr 1; omega
   · rw [if_neg c2]
     by_cases c3 : k ≤ j ∧ j < m + 1
     · rw [rot_hi f (by omega) (by omega), rot_hi f (by omega) (by omega)]
     · rw [rot_out f (by omega) (by omega) (by omega), rot_out f (by omega) (by omega) (by omega)]
def swR (f : Nat → Int) (a b i : Nat) : Nat → Int := fun k => if a ≤ k ∧ k < a + i then f (k - a + b) else if b ≤ k ∧ k < b + i then f (k - b + a) else f k
theorem swR_zero (f : Nat → Int) (a b : Nat) : swR f a b 0 = f := by
 funext k
 unfold swR
 rw [if_neg (by omega), if_neg (by omega)]
theorem swR_succ (f : Nat → Int) {a b i : Nat} (h : a + i < b) : swapF (swR f a b i) (a + i) (b + i) = swR f a b (i + 1) := by
 funext k
 unfold swapF swR
 by_cases c1 : k = a + i
 · rw [if_pos c1, if_neg (by omega), if_neg (by omega), if_pos (by omega)]
   congr 1; omega
 · rw [if_neg c1]
   by_cases c2 : k = b + i
   · rw [if_pos c2, if_neg (by omega), if_neg (by omega), if_neg (by omega), if_pos (by omega)]
     congr 1; omega
   · rw [if_neg c2]
     by_cases c3 : a ≤ k ∧ k < a + i
     · rw [if_pos c3, if_pos (by omega)]
     · rw [if_neg c3]
       by_cases c4 : b ≤ k ∧ k < b + i
       · rw [if_pos c4, if_neg (by omega), if_pos (by omega)]
       · rw [if_neg c4, if_neg (by omega), if_neg (by omega)]
theorem turn_gt (f : Nat → Int) {m i j : Nat} (hi : i ≤ m) (h : j < i) (hj : 0 < j) : rotF (swR f (m - i) m j) (m - i + j) m (m + j) = rotF f (m - i) m (m + j) := by
 funext k
 by_cases c0 : k < m - i ∨ m + j ≤ k
 · rw [rot_out _ (by omega) (by omega) (by omega), rot_out _ (by omega) (by omega) c0]
   unfold swR
   rw [if_neg (by omega), if_neg (by omega)]
 · by_cases c1 : k < m - i + j
   · rw [rot_out _ (by omega) (by omega) (by omega), rot_lo _ (by omega) (by omega)]
     unfold swR
     rw [if_pos (by omega)]
     congr 1; omega
   · rw [rot_hi f (by omega) (by omega)]
     by_cases c2 : k < m - i + j + j
     · rw [rot_lo _ (by omega) (by omega)]
       unfold swR
       by_cases c3 : k + (m - (m - i + j)) < m
       · omega
       · rw [if_neg (by omega), if_pos (by omega)]
         congr 1; omega
     · rw [rot_hi _ (by omega) (by omega)]
       unfold swR
       rw [if_neg (by omega), if_neg (by omega)]
       first | done | (congr 1; omega)
theorem turn_lt (f : Nat → Int) {m i j : Nat} (hi : i ≤ m) (h : i < j) (hi0 : 0 < i) : rotF (swR f (m - i) (m + j - i) i) (m - i) m (m + j - i) = rotF f (m - i) m (m + j) := by
 funext k
 by_cases c0 : k < m - i ∨ m + j ≤ k
 · rw [rot_out _ (by omega) (by omega) (by omega), rot_out _ (by omega) (by omega) c0]
   unfold swR
   rw [if_neg (by omega), if_neg (by omega)]
 · by_cases c1 : m + j - i ≤ k
   · rw [rot_out _ (by omega) (by omega) (by omega), rot_hi f (by omega) (by omega)]
     unfold swR
     rw [if_neg (by omega), if_pos (by omega)]
     congr 1; omega
   · rw [rot_lo f (by omega) (by omega)]
     by_cases c2 : k < m - i + (m + j - i - m)
     · rw [rot_lo _ (by omega) (by omega)]
       unfold swR
       rw [if_neg (by omega), if_neg (by omega)]
     · rw [rot_hi _ (by omega) (by omega)]
       unfold swR
       rw [if_pos (by omega)]
       congr 1; omega
theorem turn_eq (f : Nat → Int) {m i : Nat} (hi : i ≤ m) : swR f (m - i) m i = rotF f (m - i) m (m + i) := by
 funext k
 unfold swR rotF
 by_cases c1 : m - i ≤ k ∧ k < m - i + i
 · rw [if_pos c1, if_pos (by omega)]
   congr 1; omega
 · rw [if_neg c1]
   by_cases c2 : m ≤ k ∧ k < m + i
   · rw [if_pos c2, if_neg (by omega), if_pos (by omega)]
     congr 1; omega
   · rw [if_neg c2, if_neg (by omega), if_neg (by omega)]
def ltK (key : Int → Int) (x y : Int) : Prop := key x < key y ∨ (key x = key y ∧ x < y)
theorem ltK.trans {key : Int → Int} {x y z : Int} (h : ltK key x y) (k : ltK key y z) : ltK key x z := by unfold ltK at *; omega
theorem ltK.irrefl {key : Int → Int} {x : Int} (h : ltK key x x) : False := by unfold ltK at h; omega
def SrtR (key : Int → Int) (f : Nat → Int) (a b : Nat) : Prop := ∀ i j, a ≤ i → i < j → j < b → ltK key (f i) (f j)
theorem SrtR.congr {key : Int → Int} {f g : Nat → Int} {a b : Nat} (h : SrtR key f a b) (he : ∀ i, a ≤ i → i < b → g i = f i) : SrtR key g a b := fun i j h1 h2 h3 => by
 rw [he i h1 (by omega), he j (by omega) h3]
 exact h i j h1 h2 h3
theorem SrtR.le {key : Int → Int} {f : Nat → Int} {a b i j : Nat} (h : SrtR key f a b) (h1 : a ≤ i) (h2 : i ≤ j) (h3 : j < b) : f i = f j ∨ ltK key (f i) (f j) := by
 by_cases e : i = j
 · subst e; exact .inl rfl
 · exact .inr (h i j h1 (by omega) h3)
def AscR (f : Nat → Int) (a m b : Nat) : Prop := ∀ i j, a ≤ i → i < m → m ≤ j → j < b → f i < f j
theorem merge_done {key : Int → Int} {f : Nat → Int} {a s m e b : Nat} (h1 : a ≤ s) (h2 : s ≤ m) (h3 : m ≤ e) (h4 : e ≤ b) (hL : SrtR key f a m) (hR : SrtR key f m b)
   (H3 : ∀ i j, a ≤ i → i < s → e ≤ j → j < b → ltK key (f i) (f j)) (H4 : ∀ i j, m ≤ i → i < e → s ≤ j → j < m → ltK key (f i) (f j))
   (H5 : ∀ i j, s ≤ i → i < m → e ≤ j → j < b → ltK key (f i) (f j)) (H6 : ∀ i j, a ≤ i → i < s → m ≤ j → j < e → ltK key (f i) (f j)) : SrtR key (rotF f s m e) a b := by
 intro i j hi hij hj
 by_cases ci1 : i < s
 · rw [rot_out f (by omega) (by omega) (.inl ci1)]
   by_cases cj1 : j < s
   · rw [rot_out f (by omega) (by omega) (.inl cj1)]
     exact hL i j hi hij (by omega)
   · by_cases cj2 : j < s + (e - m)
     · rw [rot_lo f (by omega) cj2]
       exact H6 i _ hi ci1 (by omega) (by omega)
     · by_cases cj3 : j < e
       · rw [rot_hi f (by omega) cj3]
         exact hL i _ hi (by omega) (by omega)
       · rw [rot_out f (by omega) (by omega) (.inr (by omega))]
         exact H3 i j hi ci1 (by omega) hj
 · by_cases ci2 : i < s + (e - m)
   · rw [rot_lo f (by omega) ci2]
     by_cases cj2 : j < s + (e - m)
     · rw [rot_lo f (by omega) cj2]
       exact hR _ _ (by omega) (by omega) (by omega)
     · by_cases cj3 : j < e
       · rw [rot_hi f (by omega) cj3]
         exact H4 _ _ (by omega) (by omega) (by omega) (by omega)
       · rw [rot_out f (by omega) (by omega) (.inr (by omega))]
         exact hR _ _ (by omega) (by omega) hj
   · by_cases ci3 : i < e
     · rw [rot_hi f (by omega) ci3]
       by_cases cj3 : j < e
       · rw [rot_hi f (by omega) cj3]
         exact hL _ _ (by omega) (by omega) (by omega)
       · rw [rot_out f (by omega) (by omega) (.inr (by omega))]
         exact H5 _ _ (by omega) (by omega) (by omega) hj
     · rw [rot_out f (by omega) (by omega) (.inr (by omega)), rot_out f (by omega) (by omega) (.inr (by omega))]
       exact hR _ _ (by omega) hij hj
structure Halves (key : Int → Int) (g : Nat → Int) (a s d e b : Nat) : Prop where
 l1 : SrtR key g a s
 l2 : SrtR key g s d
 la : AscR g a s d
 r1 : SrtR key g d e
 r2 : SrtR key g e b
 ra : AscR g d e b
 lt : ∀ i j, a ≤ i → i < d → d ≤ j → j < b → ltK key (g i) (g j)
theorem halves {key : Int → Int} {f : Nat → Int} {a s m e b : Nat} (h1 : a ≤ s) (h2 : s ≤ m) (h3 : m ≤ e) (h4 : e ≤ b) (hL : SrtR key f a m) (hR : SrtR key f m b) (hA : AscR f a m b)
   (H3 : ∀ i j, a ≤ i → i < s → e ≤ j → j < b → ltK key (f i) (f j)) (H4 : ∀ i j, m ≤ i → i < e → s ≤ j → j < m → ltK key (f i) (f j)) : Halves key (rotF f s m e) a s (s + (e - m)) e b := by
 have o1 : ∀ i, i < s → rotF f s m e i = f i := fun i hi => rot_out f (by omega) (by omega) (.inl hi)
 have o2 : ∀ i, s ≤ i → i < s + (e - m) → rotF f s m e i = f (i + (m - s)) := fun i h h' => rot_lo f h h'
 have o3 : ∀ i, s + (e - m) ≤ i → i < e → rotF f s m e i = f (i - (e - m)) := fun i h h' => rot_hi f h h'
 have o4 : ∀ i, e ≤ i → rotF f s m e i = f i := fun i hi => rot_out f (by omega) (by omega) (.inr hi)
 refine ⟨fun i j hi hij hj => ?_, fun i j hi hij hj => ?_, fun i j hi hi2 hj hj2 => ?_, fun i j hi hij hj => ?_, fun i j hi hij hj => ?_, fun i j hi hi2 hj hj2 => ?_, fun i j hi hi2 hj hj2 => ?_⟩
 · rw [o1 i (by omega), o1 j hj]; exact hL i j hi hij (by omega)
 · rw [o2 i hi (by omega), o2 j (by omega) hj]; exact hR _ _ (by omega) (by omega) (by omega)
 · rw [o1 i hi2, o2 j hj hj2]; exact hA _ _ hi (by omega) (by omega) (by omega)
 · rw [o3 i hi (by omega), o3 j (by omega) hj]; exact hL _ _ (by omega) (by omega) (by omega)
 · rw [o4 i hi, o4 j (by omega)]; exact hR i j (by omega) hij hj
 · rw [o3 i hi hi2, o4 j hj]; exact hA _ _ (by omega) (by omega) (by omega) hj2
 · by_cases c1 : i < s
   · rw [o1 i c1]
     by_cases c2 : j < e
     · rw [o3 j hj c2]; exact hL i _ hi (by omega) (by omega)
     · rw [o4 j (by omega)]; exact H3 i j hi c1 (by omega) hj2
   · rw [o2 i (by omega) hi2]
     by_cases c2 : j < e
     · rw [o3 j hj c2]; exact H4 _ _ (by omega) (by omega) (by omega) (by omega)
     · rw [o4 j (by omega)]; exact hR _ _ (by omega) (by omega) hj2
theorem Halves.done {key : Int → Int} {g g1 g2 : Nat → Int} {a s d e b : Nat} (h : Halves key g a s d e b) (had : a ≤ d) (hdb : d ≤ b) (p : PermR a d g g1) (q : PermR d b g1 g2) (hp : SrtR key g1 a d) (hq : SrtR key g2 d b) : SrtR key g2 a b := by
 intro i j hi hij hj
 by_cases c1 : j < d
 · rw [q.out (.inl (by omega)), q.out (.inl c1)]
   exact hp i j hi hij c1
 · by_cases c2 : i < d
   · rw [q.out (.inl c2)]
     obtain ⟨i', k1, k2, k3⟩ := p.mem hi c2
     obtain ⟨j', k4, k5, k6⟩ := q.mem (by omega) hj
     rw [k3, k6, p.out (.inr k4)]
     exact h.lt i' j' k1 k2 k4 k5
   · exact hq i j (by omega) hij hj
theorem found_lo {key : Int → Int} {f : Nat → Int} {a m b s e : Nat} (hL : SrtR key f a m) (hR : SrtR key f m b) (hA : AscR f a m b) (hs : s ≤ m) (he : m ≤ e) (h : a < s → e < b → ¬ key (f e) < key (f (s - 1))) : ∀ i j, a ≤ i → i < s → e ≤ j → j < b → ltK key (f i) (f j) := by
 intro i j hi his hej hj
 have h0 := h (by omega) (by omega)
 have h1 : ltK key (f (s - 1)) (f e) := by
   have := hA (s - 1) e (by omega) (by omega) he (by omega)
   unfold ltK
   omega
 have h2 := hL.le hi (show i ≤ s - 1 by omega) (by omega)
 have h3 := hR.le he (show e ≤ j by omega) hj
 rcases h2 with h2 | h2 <;> rcases h3 with h3 | h3
 · rw [h2, ← h3]; exact h1
 · rw [h2]; exact h1.trans h3
 · rw [← h3]; exact h2.trans h1
 · exact (h2.trans h1).trans h3
theorem found_hi {key : Int → Int} {f : Nat → Int} {a m b s e : Nat} (hL : SrtR key f a m) (hR : SrtR key f m b) (has : a ≤ s) (he : e ≤ b) (h : m < e → s < m → key (f (e - 1)) < key (f s)) : ∀ i j, m ≤ i → i < e → s ≤ j → j < m → ltK key (f i) (f j) := by
 intro i j hi hie hsj hj
 have h0 := h (by omega) (by omega)
 have h1 : ltK key (f (e - 1)) (f s) := .inl h0
 have h2 := hR.le hi (show i ≤ e - 1 by omega) (by omega)
 have h3 := hL.le has (show s ≤ j by omega) hj
 rcases h2 with h2 | h2 <;> rcases h3 with h3 | h3
 · rw [h2, ← h3]; exact h1
 · rw [h2]; exact h1.trans h3
 · rw [← h3]; exact h2.trans h1
 · exact (h2.trans h1).trans h3
def seqL (f : Nat → Int) (n : Nat) : List Int := (List.range n).map f
theorem seqL_length (f : Nat → Int) (n : Nat) : (seqL f n).length = n := by simp [seqL]
theorem seqL_get (f : Nat → Int) {n i : Nat} (h : i < n) : (seqL f n)[i]? = some (f i) := by
 unfold seqL
 rw [List.getElem?_map, List.getElem?_range h]
 rfl
theorem srt_same {key : Int → Int} {l l' : List Int} (h : l.Pairwise (ltK key)) (h' : l'.Pairwise (ltK key)) (hm : ∀ x, x ∈ l ↔ x ∈ l') : l = l' := by
 induction l generalizing l' with
 | nil =>
   cases l' with
   | nil => rfl
   | cons y r => have := (hm y).2 (by simp); simp at this
 | cons x r ih =>
   cases l' with
   | nil => have := (hm x).1 (by simp); simp at this
   | cons y r' =>
     rw [List.pairwise_cons] at h h'
     have hxy : x = y := by
       rcases List.mem_cons.1 ((hm x).1 (by simp)) with h1 | h1
       · exact h1
       · rcases List.mem_cons.1 ((hm y).2 (by simp)) with h2 | h2
         · exact h2.symm
         · exact (ltK.irrefl ((h.1 y h2).trans (h'.1 x h1))).elim
     subst hxy
     rw [ih h.2 h'.2 fun z => ?_]
     constructor
     · intro hz
       rcases List.mem_cons.1 ((hm z).1 (by simp [hz])) with h1 | h1
       · subst h1; exact (ltK.irrefl (h.1 z hz)).elim
       · exact h1
     · intro hz
       rcases List.mem_cons.1 ((hm z).2 (by simp [hz])) with h1 | h1
       · subst h1; exact (ltK.irrefl (h'.1 z hz)).elim
       · exact h1
theorem srt_list {key : Int → Int} {f : Nat → Int} {n : Nat} (h : SrtR key f 0 n) : (seqL f n).Pairwise (ltK key) := by
 unfold seqL
 rw [List.pairwise_map]
 refine List.Pairwise.imp_of_mem (R := (· < ·)) (fun {a b} ha hb hab => h a b (Nat.zero_le _) hab (List.mem_range.1 hb)) List.pairwise_lt_range
end Go.Pal
namespace Go.Proofs.YtmmhngjndnonhaaGreatDoor
open Go Go.RowKit Go.Pal
attribute [local go_sem] Oper.semAt_some
theorem wpPlan_stillG {ops : Array Oper} {S : World → Prop} {Q : Exit → Act → World → Prop} {K : Act → World → Prop} {a : Act} {w : World} {k : Nat} {r : List (Nat × Bool)} {o : Oper} {v : Value} (ho : ops[k]? = some o) (hw : Region.wanted o (yielded ops a.tmps) = true) (hv : ∀ w, S w → (execOp a.eval o).run Tryz.prog w = .ok (.value v) w)
   (h : ∀ K' : Act → World → Prop, (∀ a w, wpPlan Tryz.prog ops S Q K r a w → K' a w) → K' (a.put o.dst v) w) : wpPlan Tryz.prog ops S Q K ((k, true) :: r) a w :=
 ⟨o, v, ho, .inl ⟨hw, hv⟩, h _ fun _ _ h => h⟩
theorem wpPlan_actG {ops : Array Oper} {S : World → Prop} {Q : Exit → Act → World → Prop} {K : Act → World → Prop} {a : Act} {w : World} {k : Nat} {r : List (Nat × Bool)} {o : Oper} (ho : ops[k]? = some o) (hw : Region.wanted o (yielded ops a.tmps) = true)
   (h : ∀ K' : Act → World → Prop, (∀ a w, S w → wpPlan Tryz.prog ops S Q K r a w → K' a w) → o.wp Tryz.prog a w K' Q) : wpPlan Tryz.prog ops S Q K ((k, false) :: r) a w := by
 show wpOp Tryz.prog ops Q k _ a w
 unfold wpOp
 simp only [ho, hw, if_true]
 exact .inl (h _ fun a w hs hp => ⟨hs, hp⟩)
end Go.Proofs.YtmmhngjndnonhaaGreatDoor
namespace Go.Pal
open Go Go.RowKit
structure RowF (w : World) (g n : Nat) (f : Nat → Int) : Prop where
 lt : g < w.heap.size
 cell : ∀ i, i < n → w.cell? ⟨g, i, none⟩ = some (.int .i64 (f i)) ∧ w.frozen? ⟨g, i, none⟩ = false
theorem frozen?_of_block {w w' : World} {g i : Nat} (h : w'.heap[g]? = w.heap[g]?) : w'.frozen? ⟨g, i, none⟩ = w.frozen? ⟨g, i, none⟩ := by
 unfold World.frozen?
 simp only [h]
theorem RowF.congr {w w' : World} {g n : Nat} {f : Nat → Int} (h : RowF w g n f) (hb : w'.heap[g]? = w.heap[g]?) : RowF w' g n f := by
 have hlt := h.lt
 refine ⟨?_, fun i hi => ⟨(World.cell?_of_block hb).trans (h.cell i hi).1, (frozen?_of_block hb).trans (h.cell i hi).2⟩⟩
 have : w.heap[g]? = some w.heap[g] := Array.getElem?_eq_getElem hlt
 rw [this] at hb
 exact (Array.getElem?_eq_some_iff.1 hb).1
theorem RowF.drew {w : World} {g n : Nat} {f : Nat → Int} (h : RowF w g n f) : RowF w.drew g n f := h.congr rfl
theorem RowF.below {w w' : World} {g n : Nat} {f : Nat → Int} (h : RowF w g n f) (hb : Below w.heap.size w w') : RowF w' g n f := h.congr (hb.block g h.lt)
theorem RowF.set {w : World} {g n : Nat} {f : Nat → Int} (h : RowF w g n f) {x : Nat} (hx : x < n) (y : Int) : RowF (w.setCell ⟨g, x, none⟩ (.int .i64 y)) g n (fun k => if k = x then y else f k) := by
 refine ⟨by have := h.lt; simpa using this, fun i hi => ⟨?_, ?_⟩⟩
 · by_cases e : i = x
   · subst e
     rw [if_pos rfl]
     exact World.cell?_setCell_same _ _ _ (h.cell i hi).1
   · rw [if_neg e, World.cell?_setCell_other _ _ _ _ (by intro e'; exact e (Addr.mk.inj e').2.1.symm)]
     exact (h.cell i hi).1
 · rw [World.frozen?_setCell]
   exact (h.cell i hi).2
theorem RowF.swap {w : World} {g n : Nat} {f : Nat → Int} (h : RowF w g n f) {x y : Nat} (hx : x < n) (hy : y < n) (hxy : x ≠ y) : RowF ((w.setCell ⟨g, x, none⟩ (.int .i64 (f y))).setCell ⟨g, y, none⟩ (.int .i64 (f x))) g n (swapF f x y) := by
 have h2 := (h.set hx (f y)).set hy (f x)
 have e : (fun k => if k = y then f x else if k = x then f y else f k) = swapF f x y := by
   funext k
   unfold swapF
   by_cases c1 : k = x
   · subst c1; simp [hxy]
   · by_cases c2 : k = y
     · subst c2; simp [c1]
     · simp [c1, c2]
 rw [e] at h2
 exact h2
end Go.Pal
namespace Go.Proofs.YtmmhngjndnonhaaGreatDoor
open Go Go.RowKit Go.Pal
attribute [local go_sem] Oper.semAt_some
theorem swapRange_any (g n cap a b k : Nat) (f : Nat → Int) (hab : a + k ≤ b) (hbn : b + k ≤ n) (hn : n ≤ 100000) (fv : Value) (w : World) (hR : RowF w g n f) :
   Calls Tryz.prog 216 #[.slice (some ⟨g, 0, none⟩) n cap, .int .i64 (a : Int), .int .i64 (b : Int), .int .i64 (k : Int), fv] w fun e w' => e = .returned (.tuple #[]) ∧ RowF w' g n (swR f a b k) ∧ Same (fun j => j ≠ g) w w' := by
 have HR := Lib.hid hR
 clear hR
 go_enter Tryz.func216, Tryz.ntmps216
 go_wp2_with fail
 go_loopw [10] (fun i wr => ∃ j : Nat, j ≤ k ∧ i = .int .i64 (j : Int) ∧ RowF wr g n (swR f a b j) ∧ Same (fun j => j ≠ g) w wr) (fun i _ => k - (intOf i).toNat)
 case atStart => exact ⟨0, by omega, rfl, by rw [swR_zero]; exact HR.out, Same.refl _ _⟩
 case round =>
   obtain ⟨j, hj, rfl, hRr, hS⟩ := hrel
   have HRr := Lib.hid hRr
   have HS := Lib.hid hS
   have hgl := hRr.lt
   clear hS
   by_cases hlt : j < k
   · obtain ⟨cx, fx⟩ := hRr.cell (a + j) (by omega)
     obtain ⟨cy, fy⟩ := hRr.cell (b + j) (by omega)
     obtain ⟨cy1, fy1⟩ := (hRr.set (x := a + j) (by omega) (swR f a b j (b + j))).cell (b + j) (by omega)
     have hsw := hRr.swap (x := a + j) (y := b + j) (by omega) (by omega) (by omega)
     rw [swR_succ f (by omega)] at hsw
     have hsm : Same (fun k => k ≠ g) wr ((wr.setCell ⟨g, a + j, none⟩ (.int .i64 (swR f a b j (b + j)))).setCell ⟨g, b + j, none⟩ (.int .i64 (swR f a b j (a + j)))) := (Same.setCell _ _ _ _ (by simp)).trans (Same.setCell _ _ _ _ (by simp))
     have HSW := Lib.hid hsw
     have HSM := Lib.hid (HS.out.trans hsm)
     have ta : ((a : Int) + (j : Int)).toNat = a + j := by omega
     have tb : ((b : Int) + (j : Int)).toNat = b + j := by omega
     have la : (a : Int) + (j : Int) < (n : Int) := by omega
     have lb : (b : Int) + (j : Int) < (n : Int) := by omega
     have na : 0 ≤ (a : Int) + (j : Int) := by omega
     have nb : 0 ≤ (b : Int) + (j : Int) := by omega
     clear hRr hsw hsm
     go_wp2_with fail
     refine wp_region_mixZ (fun W => W = wr.drew) (fun _ => True) 21 [(0, true), (1, true), (2, true), (3, true), (4, true), (5, true), (6, true), (7, true), (8, true), (9, true), (10, true), (11, true), (12, true), (13, true), (14, true), (15, true), (16, true), (17, true), (18, true), (19, true), (20, true), (21, false), (22, true), (23, false)] (by kernel_rfl) (by kernel_rfl) rfl ?_
     repeat ((first | apply wpPlanZ_free rfl rfl | apply wpPlanZ_freeG rfl rfl); (intro w; go_simp; (try go_ints); (first | with_reducible rfl | (go_simp; with_reducible rfl))); (intro K hK; go_simp; (try go_ints); refine hK _ _ ?_; clear hK K))
     apply wpPlanZ_old rfl rfl (by kernel_rfl)
     · intro w hw
       subst hw
       go_simp
       (try go_ints)
       first | with_reducible rfl | (go_simp; with_reducible rfl)
     intro K hK
     go_simp
     (try go_ints)
     refine hK _ _ ?_
     clear hK K
     repeat ((first | apply wpPlanZ_free rfl rfl | apply wpPlanZ_freeG rfl rfl); (intro w; go_simp; (try go_ints); (first | with_reducible rfl | (go_simp; with_reducible rfl))); (intro K hK; go_simp; (try go_ints); refine hK _ _ ?_; clear hK K))
     apply wpPlanZ_old rfl rfl (by kernel_rfl)
     · intro w hw
       subst hw
       go_simp
       (try go_ints)
       first | with_reducible rfl | (go_simp; with_reducible rfl)
     intro K hK
     go_simp
     (try go_ints)
     refine hK _ _ ?_
     clear hK K
     repeat ((first | apply wpPlanZ_free rfl rfl | apply wpPlanZ_freeG rfl rfl); (intro w; go_simp; (try go_ints); (first | with_reducible rfl | (go_simp; with_reducible rfl))); (intro K hK; go_simp; (try go_ints); refine hK _ _ ?_; clear hK K))
     apply wpPlanZ_act rfl rfl (by decide)
     intro K hK
     unfold Oper.wp
     go_simp
     refine hK _ _ trivial ?_
     clear hK K
     repeat ((first | apply wpPlanZ_free rfl rfl | apply wpPlanZ_freeG rfl rfl); (intro w; go_simp; (try go_ints); (first | with_reducible rfl | (go_simp; with_reducible rfl))); (intro K hK; go_simp; (try go_ints); refine hK _ _ ?_; clear hK K))
     apply wpPlanZ_act rfl rfl (by decide)
     intro K hK
     unfold Oper.wp
     go_simp
     refine hK _ _ trivial ?_
     clear hK K
     refine wpPlanZ_nil ?_
     clear cx fx cy fy cy1 fy1
     go_wp2_with fail
     go_roundw
     case rel => exact ⟨j + 1, by omega, by go_num, HSW.out.drew, HSM.out.trans (Same.drew _ _)⟩
     case measure => simp [intOf]; omega
   · have hjk : j = k := by omega
     subst hjk
     go_wp2_with fail
     go_end0
     exact ⟨rfl, HRr.out, HS.out⟩
theorem rotate_any (g n cap a m b : Nat) (f : Nat → Int) (ham : a < m) (hmb : m < b) (hbn : b ≤ n) (hn : n ≤ 100000) (fv : Value) (w : World) (hR : RowF w g n f) :
   Calls Tryz.prog 201 #[.slice (some ⟨g, 0, none⟩) n cap, .int .i64 (a : Int), .int .i64 (m : Int), .int .i64 (b : Int), fv] w fun e w' => e = .returned (.tuple #[]) ∧ RowF w' g n (rotF f a m b) ∧ Same (fun j => j ≠ g) w w' := by
 have HR := Lib.hid hR
 have h1 : (m : Int) - (a : Int) = ((m - a : Nat) : Int) := by omega
 have h2 : (b : Int) - (m : Int) = ((b - m : Nat) : Int) := by omega
 obtain ⟨i0, hi0⟩ : ∃ i0, i0 = m - a := ⟨_, rfl⟩
 obtain ⟨j0, hj0⟩ : ∃ j0, j0 = b - m := ⟨_, rfl⟩
 rw [← hi0] at h1
 rw [← hj0] at h2
 have e0 : rotF f (m - i0) m (m + j0) = rotF f a m b := by rw [show m - i0 = a by omega, show m + j0 = b by omega]
 have HE0 := Lib.hid e0
 have i0a : i0 ≤ m - a := by omega
 have i0b : m - a ≤ i0 := by omega
 have j0a : j0 ≤ b - m := by omega
 have j0b : b - m ≤ j0 := by omega
 clear hR e0 hi0 hj0
 go_enter Tryz.func201, Tryz.ntmps201
 go_wp2_with fail
 clear h1 h2
 go_loopw [10, 11] (fun i j wr => ∃ (i1 j1 : Nat) (h : Nat → Int), 0 < i1 ∧ 0 < j1 ∧ i1 ≤ i0 ∧ j1 ≤ j0 ∧ i = .int .i64 (i1 : Int) ∧ j = .int .i64 (j1 : Int) ∧ RowF wr g n h ∧ rotF h (m - i1) m (m + j1) = rotF f a m b ∧ Same (fun j => j ≠ g) w wr) (fun i j _ => (intOf i).toNat + (intOf j).toNat)
 case atStart => exact ⟨i0, j0, f, by omega, by omega, Nat.le_refl _, Nat.le_refl _, rfl, rfl, HR.out, HE0.out, Same.refl _ _⟩
 case round =>
   obtain ⟨i1, j1, h, hi1, hj1, hi2, hj2, rfl, rfl, hRr, he, hS⟩ := hrel
   have HRr := Lib.hid hRr
   have HS := Lib.hid hS
   have HE := Lib.hid he
   clear hRr hS he
   have hmi : (m : Int) - (i1 : Int) = ((m - i1 : Nat) : Int) := by omega
   obtain ⟨d, hd⟩ : ∃ d, d = m - i1 := ⟨_, rfl⟩
   rw [← hd] at hmi HE
   have HDD := Lib.hid hd
   have da : d ≤ m - i1 := by omega
   have db : m - i1 ≤ d := by omega
   clear hd
   by_cases hne : i1 = j1
   · subst hne
     have HC := Lib.hid (swapRange_any g n cap d m i1 h (by omega) (by omega) hn fv wr HRr.out)
     have hq : swR h d m i1 = rotF f a m b := by rw [← HE.out, HDD.out]; exact turn_eq h (by omega)
     have HQ := Lib.hid hq
     clear hq
     go_wp2_with fail
     refine HC.out.mono ?_
     rintro e w1 ⟨rfl, hR1, hS1⟩
     have HR1 := Lib.hid hR1
     have HS1 := Lib.hid (HS.out.trans hS1)
     clear hR1 hS1 HC
     go_wp2_with fail
     go_end0
     exact ⟨rfl, by rw [← HQ.out]; exact HR1.out, HS1.out⟩
   · have hb1 : ((i1 : Int) == (j1 : Int)) = false := by rw [beq_eq_false_iff_ne]; omega
     have hb2 : ((i1 : Int) != (j1 : Int)) = true := by rw [bne_iff_ne]; omega
     have hb3 : (i1 == j1) = false := by rw [beq_eq_false_iff_ne]; omega
     by_cases hlt : j1 < i1
     · have hij : (i1 : Int) - (j1 : Int) = ((i1 - j1 : Nat) : Int) := by omega
       obtain ⟨i3, hi3⟩ : ∃ i3, i3 = i1 - j1 := ⟨_, rfl⟩
       rw [← hi3] at hij
       have i3a : i3 ≤ i1 - j1 := by omega
       have i3b : i1 - j1 ≤ i3 := by omega
       clear hi3
       have HC := Lib.hid (swapRange_any g n cap d m j1 h (by omega) (by omega) hn fv wr HRr.out)
       have hq : rotF (swR h d m j1) (m - i3) m (m + j1) = rotF f a m b := by
         rw [← HE.out, HDD.out, show m - i3 = m - i1 + j1 by omega]; exact turn_gt h (by omega) hlt hj1
       have HQ := Lib.hid hq
       clear hq
       go_wp2_with fail
       refine HC.out.mono ?_
       rintro e w1 ⟨rfl, hR1, hS1⟩
       have HR1 := Lib.hid hR1
       have HS1 := Lib.hid (HS.out.trans hS1)
       clear hR1 hS1 HC
       go_wp2_with fail
       go_roundw
       case rel => exact ⟨i3, j1, _, by omega, hj1, by omega, hj2, by go_num, rfl, HR1.out, HQ.out, HS1.out⟩
       case measure => simp [intOf]; omega
     · have hji : (j1 : Int) - (i1 : Int) = ((j1 - i1 : Nat) : Int) := by omega
       obtain ⟨j3, hj3⟩ : ∃ j3, j3 = j1 - i1 := ⟨_, rfl⟩
       rw [← hj3] at hji
       have j3a : j3 ≤ j1 - i1 := by omega
       have j3b : j1 - i1 ≤ j3 := by omega
       clear hj3
       have hmj : (m : Int) + (j1 : Int) - (i1 : Int) = ((m + j1 - i1 : Nat) : Int) := by omega
       obtain ⟨e3, he3⟩ : ∃ e3, e3 = m + j1 - i1 := ⟨_, rfl⟩
       rw [← he3] at hmj
       have HE3 := Lib.hid he3
       have e3a : e3 ≤ m + j1 - i1 := by omega
       have e3b : m + j1 - i1 ≤ e3 := by omega
       clear he3
       have HC := Lib.hid (swapRange_any g n cap d e3 i1 h (by omega) (by omega) hn fv wr HRr.out)
       have hq : rotF (swR h d e3 i1) (m - i1) m (m + j3) = rotF f a m b := by
         rw [← HE.out, HDD.out, HE3.out, show m + j3 = m + j1 - i1 by omega]; exact turn_lt h (by omega) (by omega) hi1
       have HQ := Lib.hid hq
       have hlt2 : ¬ (j1 : Int) < (i1 : Int) := by omega
       have hlt3 : decide ((j1 : Int) < (i1 : Int)) = false := by simp; omega
       clear hq
       go_wp2_with fail
       refine HC.out.mono ?_
       rintro e w1 ⟨rfl, hR1, hS1⟩
       have HR1 := Lib.hid hR1
       have HS1 := Lib.hid (HS.out.trans hS1)
       clear hR1 hS1 HC
       go_wp2_with fail
       go_roundw
       case rel => exact ⟨i1, j3, _, hi1, by omega, hi2, by omega, rfl, by go_num, HR1.out, HQ.out, HS1.out⟩
       case measure => simp [intOf]; omega
def CmpOk (F : Nat) (lb : Array Value) (g : Nat) (key : Int → Int) (D : Int → Prop) (w : World) : Prop :=
 ∀ W, Same (fun k => k ≠ g) w W → ∀ x y, D x → D y → ∃ c : Int, (c < 0 ↔ key x < key y) ∧ Calls Tryz.prog F (#[.int .i64 x, .int .i64 y] ++ lb) W fun e W' => e = .returned (.int .i64 c) ∧ Below W.heap.size W W'
theorem CmpOk.same {F : Nat} {lb : Array Value} {g : Nat} {key : Int → Int} {D : Int → Prop} {w w' : World} (h : CmpOk F lb g key D w) (hs : Same (fun k => k ≠ g) w w') : CmpOk F lb g key D w' := fun W hW => h W (hs.trans hW)
theorem same_below {g : Nat} {w w' : World} (h : Below w.heap.size w w') : Same (fun k => k ≠ g) w w' := (Same.of_below h).mono fun _ hk _ => hk
theorem insSort_any (F : Nat) (lb : Array Value) (eg : ∀ args w, (callFunc F args).run Tryz.prog w = .ok (.enter F args) w) (key : Int → Int) (D : Int → Prop) (g n cap a b : Nat) (f : Nat → Int) (hab : a ≤ b) (hbn : b ≤ n) (hn : n ≤ 100000)
   (hD : ∀ i, i < n → D (f i)) (hA : ∀ i j, a ≤ i → i < j → j < b → f i < f j) (w : World) (hR : RowF w g n f) (hC : CmpOk F lb g key D w) :
   Calls Tryz.prog 173 #[.slice (some ⟨g, 0, none⟩) n cap, .int .i64 (a : Int), .int .i64 (b : Int), .func (.func F) #[] lb] w fun e w' => e = .returned (.tuple #[]) ∧ ∃ f', RowF w' g n f' ∧ PermR a b f f' ∧ SrtR key f' a b ∧ Same (fun j => j ≠ g) w w' := by
 have HR := Lib.hid hR
 have HC := Lib.hid hC
 have HD := Lib.hid hD
 have HA := Lib.hid hA
 clear hR hC hD hA
 go_enter Tryz.func173, Tryz.ntmps173
 go_wp2_with fail
 go_loopw [8, 9] (fun i _ wr => ∃ (i1 : Nat) (h : Nat → Int), a + 1 ≤ i1 ∧ (i1 ≤ b ∨ i1 = a + 1) ∧ i = .int .i64 (i1 : Int) ∧ RowF wr g n h ∧ PermR a (min i1 b) f h ∧ SrtR key h a (min i1 b) ∧ Same (fun j => j ≠ g) w wr) (fun i _ _ => b + 1 - (intOf i).toNat)
 case atStart => exact ⟨a + 1, f, by omega, .inr rfl, by go_num, HR.out, PermR.refl _ _ _, fun i j h1 h2 h3 => by omega, Same.refl _ _⟩
 case round =>
   obtain ⟨i1, h, hi1, hi2, rfl, hRr, hp, hs, hS⟩ := hrel
   have HRr := Lib.hid hRr
   have HP := Lib.hid hp
   have HSr := Lib.hid hs
   have HS := Lib.hid hS
   clear hRr hp hs hS
   by_cases hlt : i1 < b
   · have hmin : min i1 b = i1 := by omega
     rw [hmin] at HP HSr
     have HDh : Hid (∀ i, i < n → D (h i)) := Lib.hid (fun i hi => by
       by_cases h1 : a ≤ i ∧ i < i1
       · obtain ⟨j, h2, h3, h4⟩ := HP.out.mem h1.1 h1.2
         rw [h4]; exact HD.out j (by omega)
       · rw [HP.out.out (by omega)]; exact HD.out i hi)
     have HAh : Hid (∀ t, a ≤ t → t < i1 → h t < h i1) := Lib.hid (fun t h1 h2 => by
       obtain ⟨j, h3, h4, h5⟩ := HP.out.mem h1 h2
       rw [h5, HP.out.out (i := i1) (by omega)]
       exact HA.out j i1 h3 h4 hlt)
     obtain ⟨wo, rfl⟩ : ∃ wo : World, wo = wr := ⟨_, rfl⟩
     clear hmin
     go_wp2_with fail
     go_loopw [9] (fun j wr => ∃ j1 : Nat, a ≤ j1 ∧ j1 ≤ i1 ∧ j = .int .i64 (j1 : Int) ∧ RowF wr g n (rotF h j1 i1 (i1 + 1)) ∧ (∀ t, j1 ≤ t → t < i1 → ltK key (h i1) (h t)) ∧ Same (fun j => j ≠ g) w wr) (fun j _ => (intOf j).toNat)
     case atStart => exact ⟨i1, by omega, Nat.le_refl _, rfl, by rw [rot_nil']; exact HRr.out, fun t h1 h2 => by omega, HS.out⟩
     case round =>
       obtain ⟨j1, hj1, hj2, rfl, hRq, hlK, hSq⟩ := hrel
       obtain ⟨wq, rfl⟩ : ∃ wq : World, wq = wr := ⟨_, rfl⟩
       have HRq := Lib.hid hRq
       have HLK := Lib.hid hlK
       have HSq := Lib.hid hSq
       clear hRq hlK hSq
       by_cases hja : j1 = a
       · subst hja
         have hdone : SrtR key (rotF h j1 i1 (i1 + 1)) j1 (i1 + 1) := merge_done (by omega) (by omega) (by omega) (by omega) HSr.out (fun i j h1 h2 h3 => by omega) (fun i j h1 h2 h3 h4 => by omega) (fun i j h1 h2 h3 h4 => by
           have : i = i1 := by omega
           subst this
           exact HLK.out j h3 h4) (fun i j h1 h2 h3 h4 => by omega) (fun i j h1 h2 h3 h4 => by omega)
         have HDone := Lib.hid hdone
         clear hdone
         go_wp2_with fail
         refine wp_region_free (fun w' => w' = wq.drew) (by kernel_rfl) (by kernel_rfl) rfl ?_
         repeat (first | ((first | apply wpFree_still (hg := rfl) | apply wpFree_stillG rfl); (intro w hw; subst hw; go_simp; (try go_ints); (first | with_reducible rfl | (go_simp; with_reducible rfl))); (intro K hK; go_simp; (try go_ints); refine hK _ ?_; clear hK K)) | (apply wpFree_skip rfl; (intro K hK; go_simp; (try go_ints); refine hK _ ?_; clear hK K)))
         with_reducible refine wpFree_nil ?_
         rintro w1 rfl
         go_wp2_with fail
         go_roundw
         case rel => exact ⟨i1 + 1, _, by omega, .inl (by omega), by go_num, HRq.out.drew, by
           rw [show min (i1 + 1) b = i1 + 1 by omega]
           exact (HP.out.mono (Nat.le_refl _) (by omega)).trans ((rot_perm h (by omega) (by omega)).mono (by omega) (Nat.le_refl _)), by rw [show min (i1 + 1) b = i1 + 1 by omega]; exact HDone.out, HSq.out.trans (Same.drew _ _)⟩
         case measure => simp [intOf]; omega
       · obtain ⟨j2, rfl⟩ : ∃ j2, j1 = j2 + 1 := ⟨j1 - 1, by omega⟩
         have vx : rotF h (j2 + 1) i1 (i1 + 1) (j2 + 1) = h i1 := by
           rw [rot_lo h (by omega) (by omega)]; congr 1; omega
         have vy : rotF h (j2 + 1) i1 (i1 + 1) j2 = h j2 := rot_out h (by omega) (by omega) (by omega)
         obtain ⟨c, hc, hcall⟩ := HC.out.same HSq.out wq.drew (Same.drew _ _) (h i1) (h j2) (HDh.out i1 (by omega)) (HDh.out j2 (by omega))
         have HCall := Lib.hid hcall
         have HCc := Lib.hid hc
         have HF := Lib.hid fun W (hw : Below wq.heap.size wq W) => (⟨((HRq.out.below hw).cell (j2 + 1) (by omega)).1.trans (by rw [vx]), ((HRq.out.below hw).cell j2 (by omega)).1.trans (by rw [vy])⟩ : W.cell? ⟨g, j2 + 1, none⟩ = some (.int .i64 (h i1)) ∧ W.cell? ⟨g, j2, none⟩ = some (.int .i64 (h j2)))
         have VX := Lib.hid vx
         have VY := Lib.hid vy
         have gt1 : (a : Int) < (j2 : Int) + 1 := by omega
         have e1 : (j2 : Int) + 1 - 1 = (j2 : Int) := by omega
         have t1 : ((j2 : Int) + 1).toNat = j2 + 1 := by omega
         have n1 : 0 ≤ (j2 : Int) + 1 := by omega
         have l1 : (j2 : Int) + 1 < (n : Int) := by omega
         have l2 : (j2 : Int) < (n : Int) := by omega
         clear hcall hc vx vy
         go_wp2_with fail
         refine wp_region_mix (fun W => Below wq.heap.size wq W) 16 [(0, true), (1, true), (2, true), (3, true), (4, true), (5, true), (6, true), (7, true), (8, true), (9, true), (10, true), (11, true), (12, true), (13, true), (14, false), (15, true)] (by kernel_rfl) (by kernel_rfl) (Below.refl _ _).drew ?_
         have HD0 := Lib.hid (Below.refl wq.heap.size wq).drew
         repeat ((first | apply wpPlan_still rfl rfl | apply wpPlan_stillG rfl rfl); (intro w hw; obtain ⟨k1, k2⟩ := HF.out _ hw; clear hw; go_simp; (try go_ints); (first | with_reducible rfl | (go_simp; with_reducible rfl))); (intro K hK; go_simp; (try go_ints); refine hK _ _ ?_; clear hK K))
         apply wpPlan_actG (by simp only [List.getElem?_toArray, List.getElem?_cons_succ, List.getElem?_cons_zero]; rfl) (by rfl)
         intro K hK
         unfold Oper.wp
         go_simp
         refine HCall.out.mono ?_
         rintro e w1 ⟨rfl, hb1⟩
         have HB1 := Lib.hid (HD0.out.trans hb1)
         refine hK _ _ HB1.out ?_
         clear hK K hb1 HCall
         have hR1 := HRq.out.below HB1.out
         have HS1 := Lib.hid (HSq.out.trans (same_below HB1.out))
         have HR1 := Lib.hid hR1
         clear hR1
         by_cases hk : key (h i1) < key (h j2)
         · have hcl : c < 0 := HCc.out.2 hk
           have HK := Lib.hid hk
           clear hk
           repeat ((first | apply wpPlan_still rfl rfl | apply wpPlan_stillG rfl rfl); (intro w hw; obtain ⟨k1, k2⟩ := HF.out _ hw; clear hw; go_simp; (try go_ints); (first | with_reducible rfl | (go_simp; with_reducible rfl))); (intro K hK; go_simp; (try go_ints); refine hK _ _ ?_; clear hK K))
           refine wpPlan_nil ?_
           simp only [List.drop_succ_cons, List.drop_zero]
           go_wp2_with fail
           clear hcl
           obtain ⟨cx, fx⟩ := HR1.out.cell (j2 + 1) (by omega)
           obtain ⟨cy, fy⟩ := HR1.out.cell j2 (by omega)
           have hset := (HR1.out.set (x := j2 + 1) (by omega) (rotF h (j2 + 1) i1 (i1 + 1) j2)).cell j2 (by omega)
           have hsw := HR1.out.swap (x := j2 + 1) (y := j2) (by omega) (by omega) (by omega)
           rw [VX.out] at cx hsw
           rw [VY.out] at cy hset hsw
           obtain ⟨cy1, fy1⟩ := hset
           rw [show swapF (rotF h (j2 + 1) i1 (i1 + 1)) (j2 + 1) j2 = rotF h j2 i1 (i1 + 1) from rot_bwd h (k := j2 + 1) (by omega) (by omega)] at hsw
           have HSW := Lib.hid hsw
           have HSM := Lib.hid (HS1.out.trans ((Same.setCell _ w1 ⟨g, j2 + 1, none⟩ (.int .i64 (h j2)) (by simp)).trans (Same.setCell _ _ ⟨g, j2, none⟩ (.int .i64 (h i1)) (by simp))))
           clear hsw
           refine wp_region_mixZ (fun W => W = w1.drew) (fun _ => True) 15 [(0, true), (1, true), (2, true), (3, true), (4, true), (5, true), (6, true), (7, true), (8, true), (9, true), (10, true), (11, true), (12, true), (13, true), (14, true), (15, false), (16, true), (17, false)] (by kernel_rfl) (by kernel_rfl) rfl ?_
           repeat ((first | apply wpPlanZ_free rfl rfl | apply wpPlanZ_freeG rfl rfl); (intro w; go_simp; (try go_ints); (first | with_reducible rfl | (go_simp; with_reducible rfl))); (intro K hK; go_simp; (try go_ints); refine hK _ _ ?_; clear hK K))
           apply wpPlanZ_old rfl rfl (by kernel_rfl)
           · intro w hw
             subst hw
             go_simp
             (try go_ints)
             first | with_reducible rfl | (go_simp; with_reducible rfl)
           intro K hK
           go_simp
           (try go_ints)
           refine hK _ _ ?_
           clear hK K
           repeat ((first | apply wpPlanZ_free rfl rfl | apply wpPlanZ_freeG rfl rfl); (intro w; go_simp; (try go_ints); (first | with_reducible rfl | (go_simp; with_reducible rfl))); (intro K hK; go_simp; (try go_ints); refine hK _ _ ?_; clear hK K))
           apply wpPlanZ_old rfl rfl (by kernel_rfl)
           · intro w hw
             subst hw
             go_simp
             (try go_ints)
             first | with_reducible rfl | (go_simp; with_reducible rfl)
           intro K hK
           go_simp
           (try go_ints)
           refine hK _ _ ?_
           clear hK K
           repeat ((first | apply wpPlanZ_free rfl rfl | apply wpPlanZ_freeG rfl rfl); (intro w; go_simp; (try go_ints); (first | with_reducible rfl | (go_simp; with_reducible rfl))); (intro K hK; go_simp; (try go_ints); refine hK _ _ ?_; clear hK K))
           apply wpPlanZ_act rfl rfl (by decide)
           intro K hK
           unfold Oper.wp
           go_simp
           refine hK _ _ trivial ?_
           clear hK K
           repeat ((first | apply wpPlanZ_free rfl rfl | apply wpPlanZ_freeG rfl rfl); (intro w; go_simp; (try go_ints); (first | with_reducible rfl | (go_simp; with_reducible rfl))); (intro K hK; go_simp; (try go_ints); refine hK _ _ ?_; clear hK K))
           apply wpPlanZ_act rfl rfl (by decide)
           intro K hK
           unfold Oper.wp
           go_simp
           refine hK _ _ trivial ?_
           clear hK K
           refine wpPlanZ_nil ?_
           clear cx fx cy fy cy1 fy1
           go_wp2_with fail
           go_roundw
           case rel => exact ⟨j2, by omega, by omega, rfl, HSW.out.drew, fun t h1 h2 => by
             by_cases e : t = j2
             · subst e; exact .inl HK.out
             · exact HLK.out t (by omega) h2, HSM.out.trans (Same.drew _ _)⟩
           case measure => (simp [intOf]; try omega)
         · have hcl : ¬ c < 0 := fun e => hk (HCc.out.1 e)
           have hcd : decide (c < 0) = false := by simpa using hcl
           have hx : ltK key (h j2) (h i1) := by
             have := HAh.out j2 (by omega) (by omega)
             unfold ltK
             omega
           have hdone : SrtR key (rotF h (j2 + 1) i1 (i1 + 1)) a (i1 + 1) := merge_done (by omega) (by omega) (by omega) (by omega) HSr.out (fun i j h1 h2 h3 => by omega) (fun i j h1 h2 h3 h4 => by omega) (fun i j h1 h2 h3 h4 => by
             have : i = i1 := by omega
             subst this
             exact HLK.out j h3 h4) (fun i j h1 h2 h3 h4 => by omega) (fun i j h1 h2 h3 h4 => by
             have : j = i1 := by omega
             subst this
             rcases HSr.out.le h1 (show i ≤ j2 by omega) (by omega) with h5 | h5
             · rw [h5]; exact hx
             · exact h5.trans hx)
           have HDone := Lib.hid hdone
           clear hdone hx hk
           repeat ((first | apply wpPlan_still rfl rfl | apply wpPlan_stillG rfl rfl); (intro w hw; obtain ⟨k1, k2⟩ := HF.out _ hw; clear hw; go_simp; (try go_ints); (first | with_reducible rfl | (go_simp; with_reducible rfl))); (intro K hK; go_simp; (try go_ints); refine hK _ _ ?_; clear hK K))
           refine wpPlan_nil ?_
           simp only [List.drop_succ_cons, List.drop_zero]
           go_wp2_with fail
           go_roundw
           case rel => exact ⟨i1 + 1, _, by omega, .inl (by omega), by go_num, HR1.out, by
             rw [show min (i1 + 1) b = i1 + 1 by omega]
             exact (HP.out.mono (Nat.le_refl _) (by omega)).trans ((rot_perm h (by omega) (by omega)).mono (by omega) (Nat.le_refl _)), by rw [show min (i1 + 1) b = i1 + 1 by omega]; exact HDone.out, HS1.out⟩
           case measure => simp [intOf]; omega
   · have hib : i1 = b ∨ i1 = a + 1 := by omega
     have hmin : min i1 b = b := by omega
     rw [hmin] at HP HSr
     clear hmin
     go_wp2_with fail
     go_end0
     exact ⟨rfl, h, HRr.out, HP.out, HSr.out, HS.out⟩
def SymOk (F : Nat) (lb : Array Value) (key : Int → Int) (D : Int → Prop) (g n cap a m b : Nat) (f : Nat → Int) (w : World) : Prop :=
 Calls Tryz.prog 174 #[.slice (some ⟨g, 0, none⟩) n cap, .int .i64 (a : Int), .int .i64 (m : Int), .int .i64 (b : Int), .func (.func F) #[] lb] w fun e w' => e = .returned (.tuple #[]) ∧ ∃ f', RowF w' g n f' ∧ PermR a b f f' ∧ SrtR key f' a b ∧ Same (fun j => j ≠ g) w w'
theorem symGen_any (F : Nat) (lb : Array Value) (eg : ∀ args w, (callFunc F args).run Tryz.prog w = .ok (.enter F args) w) (key : Int → Int) (D : Int → Prop) (g n cap : Nat) (hn : n ≤ 100000)
   (a m b : Nat) (f : Nat → Int) (w : World) (ham : a + 2 ≤ m) (hmb : m + 2 ≤ b) (hbn : b ≤ n) (hR : RowF w g n f) (hD : ∀ i, i < n → D (f i)) (hL : SrtR key f a m) (hRs : SrtR key f m b) (hA : AscR f a m b) (hC : CmpOk F lb g key D w)
   (ih : ∀ (a' m' b' : Nat) (f' : Nat → Int) (w' : World), b' - a' < b - a → a' < m' → m' < b' → b' ≤ n → RowF w' g n f' → (∀ i, i < n → D (f' i)) → SrtR key f' a' m' → SrtR key f' m' b' → AscR f' a' m' b' → CmpOk F lb g key D w' → SymOk F lb key D g n cap a' m' b' f' w') :
   SymOk F lb key D g n cap a m b f w := by
 unfold SymOk at ih ⊢
 have IH := Lib.hid ih
 have HR := Lib.hid hR
 have HC := Lib.hid hC
 have HD := Lib.hid hD
 have HL := Lib.hid hL
 have HRs := Lib.hid hRs
 have HA := Lib.hid hA
 clear ih hR hC hD hL hRs hA
 have e1 : ((m : Int) - (a : Int) == 1) = false := by rw [beq_eq_false_iff_ne]; omega
 have e1' : ¬ (m : Int) - (a : Int) = 1 := by omega
 have e2 : ((b : Int) - (m : Int) == 1) = false := by rw [beq_eq_false_iff_ne]; omega
 have e2' : ¬ (b : Int) - (m : Int) = 1 := by omega
 obtain ⟨mid, hmid⟩ : ∃ mid, mid = (a + b) / 2 := ⟨_, rfl⟩
 have em : ((a : Int) + (b : Int)) / 2 = (mid : Int) := by omega
 have m1 : 2 * mid ≤ a + b := by omega
 have m2 : a + b ≤ 2 * mid + 1 := by omega
 clear hmid
 obtain ⟨N0, hN0⟩ : ∃ N0, N0 = mid + m := ⟨_, rfl⟩
 have eN : (mid : Int) + (m : Int) = (N0 : Int) := by omega
 have n1 : N0 ≤ mid + m := by omega
 have n2 : mid + m ≤ N0 := by omega
 clear hN0
 go_enter Tryz.func174, Tryz.ntmps174
 go_upto_if 140 with fail
 clear e1 e1' e2 e2' em eN
 go_cut [20, 21] from 138 to 146 (fun s r wx => ∃ lo hi : Nat, s = .int .i64 (lo : Int) ∧ r = .int .i64 (hi : Int) ∧ a ≤ lo ∧ lo ≤ hi ∧ hi ≤ m ∧ N0 ≤ lo + b ∧ hi ≤ mid ∧ (lo ≤ a ∨ lo + b ≤ N0) ∧ (m ≤ hi ∨ mid ≤ hi) ∧ wx = w)
 case first =>
   by_cases hmm : mid < m
   · have hb : (N0 : Int) - (b : Int) = ((N0 - b : Nat) : Int) := by omega
     have hmm2 : (mid : Int) < (m : Int) := by omega
     go_wp2_with fail
     go_meet
     case rel => exact ⟨N0 - b, mid, by rw [← hb], rfl, by omega, by omega, by omega, by omega, by omega, .inr (by omega), .inr (by omega), rfl⟩
   · have hmm2 : ¬ (mid : Int) < (m : Int) := by omega
     have hmm3 : decide ((mid : Int) < (m : Int)) = false := by simp; omega
     go_wp2_with fail
     go_meet
     case rel => exact ⟨a, m, rfl, rfl, by omega, by omega, by omega, by omega, by omega, .inl (by omega), .inl (by omega), rfl⟩
 case rest =>
   obtain ⟨lo, hi, rfl, rfl, f1, f2, f3, f4, f5, f6, f7, hwx⟩ := hcut
   subst hwx
   obtain ⟨w0, rfl⟩ : ∃ w0 : World, w0 = wc := ⟨_, rfl⟩
   obtain ⟨p, hp⟩ : ∃ p, p = N0 - 1 := ⟨_, rfl⟩
   have ep : (N0 : Int) - 1 = (p : Int) := by omega
   have p1 : p + 1 ≤ N0 := by omega
   have p2 : N0 ≤ p + 1 := by omega
   clear hp
   go_wp2_with fail
   clear ep
   go_loopw [20, 21] (fun s r wr => ∃ s1 r1 : Nat, lo ≤ s1 ∧ s1 ≤ r1 ∧ r1 ≤ hi ∧ s = .int .i64 (s1 : Int) ∧ r = .int .i64 (r1 : Int) ∧ (lo < s1 → key (f (s1 - 1)) ≤ key (f (N0 - s1))) ∧ (r1 < hi → key (f (N0 - 1 - r1)) < key (f r1)) ∧ RowF wr g n f ∧ Same (fun j => j ≠ g) w0 wr) (fun s r _ => (intOf r).toNat - (intOf s).toNat)
   case atStart => exact ⟨lo, hi, Nat.le_refl _, f2, Nat.le_refl _, rfl, rfl, fun h => by omega, fun h => by omega, HR.out, Same.refl _ _⟩
   case round =>
     obtain ⟨s1, r1, hs1, hsr, hr1, rfl, rfl, hlo, hhi, hRr, hS⟩ := hrel
     have HRr := Lib.hid hRr
     have HS := Lib.hid hS
     have HLo := Lib.hid hlo
     have HHi := Lib.hid hhi
     obtain ⟨wo, rfl⟩ : ∃ wo : World, wo = wr := ⟨_, rfl⟩
     clear hRr hS hlo hhi
     by_cases hlt : s1 < r1
     · obtain ⟨h, hh⟩ : ∃ h, h = (s1 + r1) / 2 := ⟨_, rfl⟩
       have hh1 : s1 ≤ h := by omega
       have hh2 : h < r1 := by omega
       have hq : ((s1 : Int) + (r1 : Int)) / 2 = (h : Int) := by omega
       obtain ⟨q, hqq⟩ : ∃ q, q = p - h := ⟨_, rfl⟩
       have eq1 : (p : Int) - (h : Int) = (q : Int) := by omega
       have q1 : q + h ≤ p := by omega
       have q2 : p ≤ q + h := by omega
       have ln1 : h < n := by omega
       have ln2 : q < n := by omega
       have ln3 : (h : Int) < (n : Int) := by omega
       have ln4 : (q : Int) < (n : Int) := by omega
       clear hh hqq
       obtain ⟨c, hc, hcall⟩ := HC.out.same HS.out wo.drew (Same.drew _ _) (f q) (f h) (HD.out q (by omega)) (HD.out h (by omega))
       have HCall := Lib.hid hcall
       have HCc := Lib.hid hc
       have HF := Lib.hid fun W (hw : Below wo.heap.size wo W) => (⟨((HRr.out.below hw).cell q (by omega)).1, ((HRr.out.below hw).cell h (by omega)).1⟩ : W.cell? ⟨g, q, none⟩ = some (.int .i64 (f q)) ∧ W.cell? ⟨g, h, none⟩ = some (.int .i64 (f h)))
       clear hcall hc
       go_wp2_with fail
       clear hq
       refine wp_region_mix (fun W => Below wo.heap.size wo W) 13 [(0, true), (1, true), (2, true), (3, true), (4, true), (5, true), (6, true), (7, true), (8, true), (9, true), (10, true), (11, false), (12, true)] (by kernel_rfl) (by kernel_rfl) (Below.refl _ _).drew ?_
       have HD0 := Lib.hid (Below.refl wo.heap.size wo).drew
       repeat ((first | apply wpPlan_still rfl rfl | apply wpPlan_stillG rfl rfl); (intro w hw; obtain ⟨k1, k2⟩ := HF.out _ hw; clear hw; go_simp; (try go_ints); (first | with_reducible rfl | (go_simp; with_reducible rfl))); (intro K hK; go_simp; (try go_ints); refine hK _ _ ?_; clear hK K))
       apply wpPlan_actG (by simp only [List.getElem?_toArray, List.getElem?_cons_succ, List.getElem?_cons_zero]; rfl) (by rfl)
       intro K hK
       unfold Oper.wp
       go_simp
       refine HCall.out.mono ?_
       rintro e w1 ⟨rfl, hb1⟩
       have HB1 := Lib.hid (HD0.out.trans hb1)
       refine hK _ _ HB1.out ?_
       clear hK K hb1 HCall
       have HR1 := Lib.hid (HRr.out.below HB1.out)
       have HS1 := Lib.hid (HS.out.trans (same_below HB1.out))
       by_cases hk : key (f q) < key (f h)
       · have hcl : c < 0 := HCc.out.2 hk
         have HK := Lib.hid hk
         clear hk
         repeat ((first | apply wpPlan_still rfl rfl | apply wpPlan_stillG rfl rfl); (intro w hw; obtain ⟨k1, k2⟩ := HF.out _ hw; clear hw; go_simp; (try go_ints); (first | with_reducible rfl | (go_simp; with_reducible rfl))); (intro K hK; go_simp; (try go_ints); refine hK _ _ ?_; clear hK K))
         refine wpPlan_nil ?_
         simp only [List.drop_succ_cons, List.drop_zero]
         go_wp2_with fail
         go_roundw
         case rel => exact ⟨s1, h, hs1, hh1, by omega, rfl, rfl, HLo.out, fun _ => by rw [show N0 - 1 - h = q by omega]; exact HK.out, HR1.out, HS1.out⟩
         case measure => simp [intOf]; omega
       · have hcl : ¬ c < 0 := fun e => hk (HCc.out.1 e)
         have hcd : decide (c < 0) = false := by simpa using hcl
         have HK := Lib.hid (show key (f h) ≤ key (f q) by omega)
         clear hk
         repeat ((first | apply wpPlan_still rfl rfl | apply wpPlan_stillG rfl rfl); (intro w hw; obtain ⟨k1, k2⟩ := HF.out _ hw; clear hw; go_simp; (try go_ints); (first | with_reducible rfl | (go_simp; with_reducible rfl))); (intro K hK; go_simp; (try go_ints); refine hK _ _ ?_; clear hK K))
         refine wpPlan_nil ?_
         simp only [List.drop_succ_cons, List.drop_zero]
         go_wp2_with fail
         go_roundw
         case rel => exact ⟨h + 1, r1, by omega, by omega, hr1, by go_num, rfl, fun _ => by rw [show N0 - (h + 1) = q by omega, show h + 1 - 1 = h by omega]; exact HK.out, HHi.out, HR1.out, HS1.out⟩
         case measure => simp [intOf]; omega
     · obtain ⟨e, he⟩ : ∃ e, e = N0 - s1 := ⟨_, rfl⟩
       have ee : (N0 : Int) - (s1 : Int) = (e : Int) := by omega
       have e1 : e + s1 ≤ N0 := by omega
       have e2 : N0 ≤ e + s1 := by omega
       clear he
       have H3 := found_lo (s := s1) (e := e) HL.out HRs.out HA.out (by omega) (by omega) fun h1 h2 => by
         have h3 := HLo.out (by omega)
         rw [show N0 - s1 = e by omega] at h3
         omega
       have H4 := found_hi (s := s1) (e := e) HL.out HRs.out (by omega) (by omega) fun h1 h2 => by
         have h3 := HHi.out (by omega)
         rw [show N0 - 1 - r1 = e - 1 by omega, show r1 = s1 by omega] at h3
         exact h3
       have hv := halves (by omega) (by omega) (by omega) (by omega) HL.out HRs.out HA.out H3 H4
       rw [show s1 + (e - m) = mid by omega] at hv
       have hperm : PermR a b f (rotF f s1 m e) := (rot_perm f (by omega) (by omega)).mono (by omega) (by omega)
       have HRo : Hid (s1 < m → m < e → Calls Tryz.prog 201 #[.slice (some ⟨g, 0, none⟩) n cap, .int .i64 (s1 : Int), .int .i64 (m : Int), .int .i64 (e : Int), .func (.func F) #[] lb] wo fun x w' => x = .returned (.tuple #[]) ∧ RowF w' g n (rotF f s1 m e) ∧ Same (fun j => j ≠ g) wo w') := Lib.hid fun c1 c2 => rotate_any g n cap s1 m e f c1 c2 (by omega) hn _ wo HRr.out
       have HNo : Hid (¬ (s1 < m ∧ m < e) → rotF f s1 m e = f) := Lib.hid fun hc => by
         by_cases c1 : s1 < m
         · rw [show e = m by omega]; exact rot_nil f
         · rw [show s1 = m by omega]; exact rot_nil' f
       obtain ⟨g1, hg1⟩ : ∃ g1, g1 = rotF f s1 m e := ⟨_, rfl⟩
       rw [← hg1] at hv hperm HRo HNo
       have HV := Lib.hid hv
       have HP := Lib.hid hperm
       have HDg : Hid (∀ i, i < n → D (g1 i)) := Lib.hid fun i hi => by
         by_cases h1 : a ≤ i ∧ i < b
         · obtain ⟨j, h2, h3, h4⟩ := HP.out.mem h1.1 h1.2
           rw [h4]; exact HD.out j (by omega)
         · rw [HP.out.out (by omega)]; exact HD.out i hi
       clear hg1 hv hperm H3 H4
       go_upto_region 39 with fail
       clear ee
       go_cut [24, 185] from 178 to 184 (fun ev t wx => ev = .int .i64 (e : Int) ∧ t = .bool (decide (s1 < m ∧ m < e)) ∧ wx = wo)
       case first =>
         by_cases c1 : s1 < m
         · have c1' : (s1 : Int) < (m : Int) := by omega
           by_cases c2 : m < e
           · have c2' : (m : Int) < (e : Int) := by omega
             go_wp2_with fail
             go_meet
             case rel => exact ⟨rfl, by simp [c1, c2], rfl⟩
           · have c2' : ¬ (m : Int) < (e : Int) := by omega
             have c2d : decide ((m : Int) < (e : Int)) = false := by simp; omega
             go_wp2_with fail
             go_meet
             case rel => exact ⟨rfl, by simp [c2], rfl⟩
         · have c1' : ¬ (s1 : Int) < (m : Int) := by omega
           have c1d : decide ((s1 : Int) < (m : Int)) = false := by simp; omega
           go_wp2_with fail
           go_meet
           case rel => exact ⟨rfl, by simp [c1], rfl⟩
       case rest =>
         obtain ⟨rfl, rfl, hwx⟩ := hcut
         subst hwx
         obtain ⟨w1, rfl⟩ : ∃ w1 : World, w1 = wc := ⟨_, rfl⟩
         obtain ⟨B1, hB1⟩ : ∃ B1, B1 = decide (s1 < m ∧ m < e) := ⟨_, rfl⟩
         have HB1 := Lib.hid hB1
         rw [← hB1]
         clear hB1
         go_upto_if 185 with fail
         go_cut [24] from 185 to 191 (fun ev wx => ev = .int .i64 (e : Int) ∧ RowF wx g n g1 ∧ Same (fun j => j ≠ g) w0 wx)
         case first =>
           cases B1 with
           | true =>
             have hc := of_decide_eq_true HB1.out.symm
             have HCa := Lib.hid (HRo.out hc.1 hc.2)
             clear hc
             go_wp2_with fail
             refine HCa.out.mono ?_
             rintro x w2 ⟨rfl, hR2, hS2⟩
             have HR2 := Lib.hid hR2
             have HS2 := Lib.hid (HS.out.trans hS2)
             clear hR2 hS2
             go_wp2_with fail
             go_meet
             case rel => exact ⟨rfl, HR2.out, HS2.out⟩
           | false =>
             have hc := of_decide_eq_false HB1.out.symm
             have HNN := Lib.hid (HNo.out hc)
             clear hc
             go_wp2_with fail
             go_meet
             case rel => exact ⟨rfl, by rw [HNN.out]; exact HRr.out, HS.out⟩
         case rest =>
           obtain ⟨rfl, hRg, hSg⟩ := hcut
           obtain ⟨w2, rfl⟩ : ∃ w2 : World, w2 = wc := ⟨_, rfl⟩
           have HRg := Lib.hid hRg
           have HSg := Lib.hid hSg
           clear hRg hSg
           go_upto_region 41 with fail
           go_cut [24, 199] from 192 to 198 (fun ev t wx => ev = .int .i64 (e : Int) ∧ t = .bool (decide (a < s1 ∧ s1 < mid)) ∧ wx = w2)
           case first =>
             by_cases c1 : a < s1
             · have c1' : (a : Int) < (s1 : Int) := by omega
               by_cases c2 : s1 < mid
               · have c2' : (s1 : Int) < (mid : Int) := by omega
                 go_wp2_with fail
                 go_meet
                 case rel => exact ⟨rfl, by simp [c1, c2], rfl⟩
               · have c2' : ¬ (s1 : Int) < (mid : Int) := by omega
                 have c2d : decide ((s1 : Int) < (mid : Int)) = false := by simp; omega
                 go_wp2_with fail
                 go_meet
                 case rel => exact ⟨rfl, by simp [c2], rfl⟩
             · have c1' : ¬ (a : Int) < (s1 : Int) := by omega
               have c1d : decide ((a : Int) < (s1 : Int)) = false := by simp; omega
               go_wp2_with fail
               go_meet
               case rel => exact ⟨rfl, by simp [c1], rfl⟩
           case rest =>
             obtain ⟨rfl, rfl, hwx⟩ := hcut
             subst hwx
             obtain ⟨w3, rfl⟩ : ∃ w3 : World, w3 = wc := ⟨_, rfl⟩
             obtain ⟨B2, hB2⟩ : ∃ B2, B2 = decide (a < s1 ∧ s1 < mid) := ⟨_, rfl⟩
             have HB2 := Lib.hid hB2
             rw [← hB2]
             clear hB2
             go_upto_if 199 with fail
             go_cut [24] from 199 to 205 (fun ev wx => ev = .int .i64 (e : Int) ∧ ∃ g2, RowF wx g n g2 ∧ PermR a mid g1 g2 ∧ SrtR key g2 a mid ∧ Same (fun j => j ≠ g) w0 wx)
             case first =>
               cases B2 with
               | true =>
                 have hc := of_decide_eq_true HB2.out.symm
                 have HCa := Lib.hid (IH.out a s1 mid g1 w3 (by omega) hc.1 hc.2 (by omega) HRg.out HDg.out HV.out.l1 HV.out.l2 HV.out.la (HC.out.same HSg.out))
                 clear hc
                 go_wp2_with fail
                 refine HCa.out.mono ?_
                 rintro x w4 ⟨rfl, g2, hR2, hP2, hS2, hsm⟩
                 have HR2 := Lib.hid hR2
                 have HP2 := Lib.hid hP2
                 have HS2 := Lib.hid hS2
                 have HSm := Lib.hid (HSg.out.trans hsm)
                 clear hR2 hP2 hS2 hsm
                 go_wp2_with fail
                 go_meet
                 case rel => exact ⟨rfl, g2, HR2.out, HP2.out, HS2.out, HSm.out⟩
               | false =>
                 have hc := of_decide_eq_false HB2.out.symm
                 have hs : SrtR key g1 a mid := by
                   by_cases h1 : a < s1
                   · have h2 := HV.out.l1
                     rwa [show s1 = mid by omega] at h2
                   · have h2 := HV.out.l2
                     rwa [show s1 = a by omega] at h2
                 have HSs := Lib.hid hs
                 clear hc hs
                 go_wp2_with fail
                 go_meet
                 case rel => exact ⟨rfl, g1, HRg.out, PermR.refl _ _ _, HSs.out, HSg.out⟩
             case rest =>
               obtain ⟨rfl, g2, hR2, hP2, hS2, hsm⟩ := hcut
               obtain ⟨w4, rfl⟩ : ∃ w4 : World, w4 = wc := ⟨_, rfl⟩
               have HR2 := Lib.hid hR2
               have HP2 := Lib.hid hP2
               have HS2 := Lib.hid hS2
               have HSm := Lib.hid hsm
               have HDg2 : Hid (∀ i, i < n → D (g2 i)) := Lib.hid fun i hi => by
                 by_cases h1 : a ≤ i ∧ i < mid
                 · obtain ⟨j, h2, h3, h4⟩ := HP2.out.mem h1.1 h1.2
                   rw [h4]; exact HDg.out j (by omega)
                 · rw [HP2.out.out (by omega)]; exact HDg.out i hi
               clear hR2 hP2 hS2 hsm
               go_upto_region 43 with fail
               go_cut [24, 213] from 206 to 212 (fun ev t wx => ev = .int .i64 (e : Int) ∧ t = .bool (decide (mid < e ∧ e < b)) ∧ wx = w4)
               case first =>
                 by_cases c1 : mid < e
                 · have c1' : (mid : Int) < (e : Int) := by omega
                   by_cases c2 : e < b
                   · have c2' : (e : Int) < (b : Int) := by omega
                     go_wp2_with fail
                     go_meet
                     case rel => exact ⟨rfl, by simp [c1, c2], rfl⟩
                   · have c2' : ¬ (e : Int) < (b : Int) := by omega
                     have c2d : decide ((e : Int) < (b : Int)) = false := by simp; omega
                     go_wp2_with fail
                     go_meet
                     case rel => exact ⟨rfl, by simp [c2], rfl⟩
                 · have c1' : ¬ (mid : Int) < (e : Int) := by omega
                   have c1d : decide ((mid : Int) < (e : Int)) = false := by simp; omega
                   go_wp2_with fail
                   go_meet
                   case rel => exact ⟨rfl, by simp [c1], rfl⟩
               case rest =>
                 obtain ⟨rfl, rfl, hwx⟩ := hcut
                 subst hwx
                 obtain ⟨w5, rfl⟩ : ∃ w5 : World, w5 = wc := ⟨_, rfl⟩
                 obtain ⟨B3, hB3⟩ : ∃ B3, B3 = decide (mid < e ∧ e < b) := ⟨_, rfl⟩
                 have HB3 := Lib.hid hB3
                 rw [← hB3]
                 clear hB3
                 have hr1 : SrtR key g2 mid e := HV.out.r1.congr fun i h1 h2 => HP2.out.out (.inr h1)
                 have hr2 : SrtR key g2 e b := HV.out.r2.congr fun i h1 h2 => HP2.out.out (.inr (by omega))
                 have hra : AscR g2 mid e b := fun i j h1 h2 h3 h4 => by
                   rw [HP2.out.out (.inr h1), HP2.out.out (.inr (by omega))]
                   exact HV.out.ra i j h1 h2 h3 h4
                 cases B3 with
                 | true =>
                   have hc := of_decide_eq_true HB3.out.symm
                   have HCa := Lib.hid (IH.out mid e b g2 w5 (by omega) hc.1 hc.2 hbn HR2.out HDg2.out hr1 hr2 hra (HC.out.same HSm.out))
                   clear hc hr1 hr2 hra
                   go_wp2_with fail
                   refine HCa.out.mono ?_
                   rintro x w6 ⟨rfl, g3, hR3, hP3, hS3, hsm3⟩
                   have HR3 := Lib.hid hR3
                   have HSm3 := Lib.hid (HSm.out.trans hsm3)
                   have HD3 := Lib.hid (HV.out.done (by omega) (by omega) HP2.out hP3 HS2.out hS3)
                   have HP3 := Lib.hid ((HP.out.trans (HP2.out.mono (Nat.le_refl _) (by omega))).trans (hP3.mono (by omega) (Nat.le_refl _)))
                   clear hR3 hP3 hS3 hsm3
                   go_wp2_with fail
                   go_end0
                   exact ⟨rfl, g3, HR3.out, HP3.out, HD3.out, HSm3.out⟩
                 | false =>
                   have hc := of_decide_eq_false HB3.out.symm
                   have hs : SrtR key g2 mid b := by
                     by_cases h1 : mid < e
                     · rwa [show e = b by omega] at hr1
                     · rwa [show e = mid by omega] at hr2
                   have HD3 := Lib.hid (HV.out.done (by omega) (by omega) HP2.out (PermR.refl _ _ _) HS2.out hs)
                   have HP3 := Lib.hid (HP.out.trans (HP2.out.mono (Nat.le_refl _) (by omega)))
                   clear hc hs hr1 hr2 hra
                   go_wp2_with fail
                   go_end0
                   exact ⟨rfl, g2, HR2.out, HP3.out, HD3.out, HSm.out⟩
theorem symMerge_any (F : Nat) (lb : Array Value) (eg : ∀ args w, (callFunc F args).run Tryz.prog w = .ok (.enter F args) w) (key : Int → Int) (D : Int → Prop) (g n cap : Nat) (hn : n ≤ 100000) :
   ∀ (N a m b : Nat) (f : Nat → Int) (w : World), b - a ≤ N → a < m → m < b → b ≤ n → RowF w g n f → (∀ i, i < n → D (f i)) → SrtR key f a m → SrtR key f m b → AscR f a m b → CmpOk F lb g key D w →
   Calls Tryz.prog 174 #[.slice (some ⟨g, 0, none⟩) n cap, .int .i64 (a : Int), .int .i64 (m : Int), .int .i64 (b : Int), .func (.func F) #[] lb] w fun e w' => e = .returned (.tuple #[]) ∧ ∃ f', RowF w' g n f' ∧ PermR a b f f' ∧ SrtR key f' a b ∧ Same (fun j => j ≠ g) w w' := by
 intro N
 induction N with
 | zero => intro a m b f w h1 h2 h3; omega
 | succ N ih =>
 intro a m b f w hN ham hmb hbn hR hD hL hRs hA hC
 have IH := Lib.hid ih
 have HR := Lib.hid hR
 have HC := Lib.hid hC
 have HD := Lib.hid hD
 have HL := Lib.hid hL
 have HRs := Lib.hid hRs
 have HA := Lib.hid hA
 clear ih hR hC hD hL hRs hA
 by_cases h1 : m - a = 1
 · have e1 : (m : Int) - (a : Int) = 1 := by omega
   have hma : a + 1 ≤ m := by omega
   have hma2 : m ≤ a + 1 := by omega
   clear h1
   go_enter Tryz.func174, Tryz.ntmps174
   go_wp2_with fail
   clear e1
   go_loopw [10, 11] (fun i j wr => ∃ i1 j1 : Nat, m ≤ i1 ∧ i1 ≤ j1 ∧ j1 ≤ b ∧ i = .int .i64 (i1 : Int) ∧ j = .int .i64 (j1 : Int) ∧ (m < i1 → key (f (i1 - 1)) < key (f a)) ∧ (j1 < b → key (f a) ≤ key (f j1)) ∧ RowF wr g n f ∧ Same (fun j => j ≠ g) w wr) (fun i j _ => (intOf j).toNat - (intOf i).toNat)
   case atStart => exact ⟨m, b, Nat.le_refl _, by omega, Nat.le_refl _, rfl, rfl, fun h => by omega, fun h => by omega, HR.out, Same.refl _ _⟩
   case round =>
     obtain ⟨i1, j1, hi1, hij, hj1, rfl, rfl, hlo, hhi, hRr, hS⟩ := hrel
     have HRr := Lib.hid hRr
     have HS := Lib.hid hS
     have HLo := Lib.hid hlo
     have HHi := Lib.hid hhi
     obtain ⟨wo, rfl⟩ : ∃ wo : World, wo = wr := ⟨_, rfl⟩
     clear hRr hS hlo hhi
     by_cases hlt : i1 < j1
     · obtain ⟨h, hh⟩ : ∃ h, h = (i1 + j1) / 2 := ⟨_, rfl⟩
       have hh1 : i1 ≤ h := by omega
       have hh2 : h < j1 := by omega
       have hq : ((i1 : Int) + (j1 : Int)) / 2 = (h : Int) := by omega
       have ln1 : h < n := by omega
       have ln2 : a < n := by omega
       have ln3 : (h : Int) < (n : Int) := by omega
       have ln4 : (a : Int) < (n : Int) := by omega
       clear hh
       obtain ⟨c, hc, hcall⟩ := HC.out.same HS.out wo.drew (Same.drew _ _) (f h) (f a) (HD.out h (by omega)) (HD.out a (by omega))
       have HCall := Lib.hid hcall
       have HCc := Lib.hid hc
       have HF := Lib.hid fun W (hw : Below wo.heap.size wo W) => (⟨((HRr.out.below hw).cell h (by omega)).1, ((HRr.out.below hw).cell a (by omega)).1⟩ : W.cell? ⟨g, h, none⟩ = some (.int .i64 (f h)) ∧ W.cell? ⟨g, a, none⟩ = some (.int .i64 (f a)))
       clear hcall hc
       go_wp2_with fail
       clear hq
       refine wp_region_mix (fun W => Below wo.heap.size wo W) 10 [(0, true), (1, true), (2, true), (3, true), (4, true), (5, true), (6, true), (7, true), (8, true), (9, false)] (by kernel_rfl) (by kernel_rfl) (Below.refl _ _).drew ?_
       have HD0 := Lib.hid (Below.refl wo.heap.size wo).drew
       repeat ((first | apply wpPlan_still rfl rfl | apply wpPlan_stillG rfl rfl); (intro w hw; obtain ⟨k1, k2⟩ := HF.out _ hw; clear hw; go_simp; (try go_ints); (first | with_reducible rfl | (go_simp; with_reducible rfl))); (intro K hK; go_simp; (try go_ints); refine hK _ _ ?_; clear hK K))
       apply wpPlan_actG (by simp only [List.getElem?_toArray, List.getElem?_cons_succ, List.getElem?_cons_zero]; rfl) (by rfl)
       intro K hK
       unfold Oper.wp
       go_simp
       refine HCall.out.mono ?_
       rintro e w1 ⟨rfl, hb1⟩
       have HB1 := Lib.hid (HD0.out.trans hb1)
       refine hK _ _ HB1.out ?_
       clear hK K hb1 HCall
       have HR1 := Lib.hid (HRr.out.below HB1.out)
       have HS1 := Lib.hid (HS.out.trans (same_below HB1.out))
       by_cases hk : key (f h) < key (f a)
       · have hcl : c < 0 := HCc.out.2 hk
         have HK := Lib.hid hk
         clear hk
         repeat ((first | apply wpPlan_still rfl rfl | apply wpPlan_stillG rfl rfl); (intro w hw; obtain ⟨k1, k2⟩ := HF.out _ hw; clear hw; go_simp; (try go_ints); (first | with_reducible rfl | (go_simp; with_reducible rfl))); (intro K hK; go_simp; (try go_ints); refine hK _ _ ?_; clear hK K))
         refine wpPlan_nil ?_
         simp only [List.drop_succ_cons, List.drop_zero]
         go_wp2_with fail
         go_roundw
         case rel => exact ⟨h + 1, j1, by omega, by omega, hj1, by go_num, rfl, fun _ => HK.out, HHi.out, HR1.out, HS1.out⟩
         case measure => simp [intOf]; omega
       · have hcl : ¬ c < 0 := fun e => hk (HCc.out.1 e)
         have hcd : decide (c < 0) = false := by simpa using hcl
         have HK := Lib.hid (show key (f a) ≤ key (f h) by omega)
         clear hk
         repeat ((first | apply wpPlan_still rfl rfl | apply wpPlan_stillG rfl rfl); (intro w hw; obtain ⟨k1, k2⟩ := HF.out _ hw; clear hw; go_simp; (try go_ints); (first | with_reducible rfl | (go_simp; with_reducible rfl))); (intro K hK; go_simp; (try go_ints); refine hK _ _ ?_; clear hK K))
         refine wpPlan_nil ?_
         simp only [List.drop_succ_cons, List.drop_zero]
         go_wp2_with fail
         go_roundw
         case rel => exact ⟨i1, h, hi1, hh1, by omega, rfl, rfl, HLo.out, fun _ => HK.out, HR1.out, HS1.out⟩
         case measure => simp [intOf]; omega
     · have hji : j1 ≤ i1 := by omega
       have hi3 : (i1 : Int) - 1 = ((i1 - 1 : Nat) : Int) := by omega
       obtain ⟨i2, hi2⟩ : ∃ i2, i2 = i1 - 1 := ⟨_, rfl⟩
       rw [← hi2] at hi3
       have i2a : i2 + 1 ≤ i1 := by omega
       have i2b : i1 ≤ i2 + 1 := by omega
       have hdone : SrtR key (rotF f a m i1) a b := merge_done (Nat.le_refl _) (by omega) hi1 (by omega) HL.out HRs.out (fun i j h1 h2 h3 => by omega) (found_hi HL.out HRs.out (Nat.le_refl _) (by omega) fun h1 h2 => HLo.out h1) (found_lo HL.out HRs.out HA.out (Nat.le_refl _) hi1 fun h1 h2 => by
         have h5 := HHi.out (by omega)
         rw [show m - 1 = a by omega, show i1 = j1 by omega]
         omega) (fun i j h1 h2 h3 => by omega)
       have hperm : PermR a b f (rotF f a m i1) := (rot_perm f (by omega) hi1).mono (Nat.le_refl _) (by omega)
       have hrow : rotF f a (a + 1) i1 = rotF f a m i1 := by rw [show a + 1 = m by omega]
       have HDone := Lib.hid hdone
       have HPerm := Lib.hid hperm
       have HRow := Lib.hid hrow
       clear hi2 hdone hperm hrow
       go_wp2_with fail
       go_loopw [13] (fun k wr => ∃ k1 : Nat, a ≤ k1 ∧ k1 ≤ i2 ∧ k = .int .i64 (k1 : Int) ∧ RowF wr g n (rotF f a (a + 1) (k1 + 1)) ∧ Same (fun j => j ≠ g) w wr) (fun k _ => i2 - (intOf k).toNat)
       case atStart => exact ⟨a, Nat.le_refl _, by omega, rfl, by rw [rot_nil]; exact HRr.out, HS.out⟩
       case round =>
         obtain ⟨k1, hk1, hk2, rfl, hRq, hSq⟩ := hrel
         obtain ⟨wq, rfl⟩ : ∃ wq : World, wq = wr := ⟨_, rfl⟩
         have HRq := Lib.hid hRq
         have HSq := Lib.hid hSq
         clear hRq hSq
         by_cases hlk : k1 < i2
         · obtain ⟨cx, fx⟩ := HRq.out.cell k1 (by omega)
           obtain ⟨cy, fy⟩ := HRq.out.cell (k1 + 1) (by omega)
           obtain ⟨cy1, fy1⟩ := (HRq.out.set (x := k1) (by omega) (rotF f a (a + 1) (k1 + 1) (k1 + 1))).cell (k1 + 1) (by omega)
           have hsw := HRq.out.swap (x := k1) (y := k1 + 1) (by omega) (by omega) (by omega)
           rw [show swapF (rotF f a (a + 1) (k1 + 1)) k1 (k1 + 1) = rotF f a (a + 1) (k1 + 1 + 1) from rot_fwd f (x := k1 + 1) (by omega)] at hsw
           have HSW := Lib.hid hsw
           have HSM := Lib.hid (HSq.out.trans ((Same.setCell _ wq ⟨g, k1, none⟩ (.int .i64 (rotF f a (a + 1) (k1 + 1) (k1 + 1))) (by simp)).trans (Same.setCell _ _ ⟨g, k1 + 1, none⟩ (.int .i64 (rotF f a (a + 1) (k1 + 1) k1)) (by simp))))
           have t1 : ((k1 : Int) + 1).toNat = k1 + 1 := by omega
           have n1 : 0 ≤ (k1 : Int) + 1 := by omega
           have l1 : (k1 : Int) + 1 < (n : Int) := by omega
           have l2 : (k1 : Int) < (n : Int) := by omega
           clear hsw
           go_wp2_with fail
           refine wp_region_mixZ (fun W => W = wq.drew) (fun _ => True) 15 [(0, true), (1, true), (2, true), (3, true), (4, true), (5, true), (6, true), (7, true), (8, true), (9, true), (10, true), (11, true), (12, true), (13, true), (14, true), (15, false), (16, true), (17, false)] (by kernel_rfl) (by kernel_rfl) rfl ?_
           repeat ((first | apply wpPlanZ_free rfl rfl | apply wpPlanZ_freeG rfl rfl); (intro w; go_simp; (try go_ints); (first | with_reducible rfl | (go_simp; with_reducible rfl))); (intro K hK; go_simp; (try go_ints); refine hK _ _ ?_; clear hK K))
           apply wpPlanZ_old rfl rfl (by kernel_rfl)
           · intro w hw
             subst hw
             go_simp
             (try go_ints)
             first | with_reducible rfl | (go_simp; with_reducible rfl)
           intro K hK
           go_simp
           (try go_ints)
           refine hK _ _ ?_
           clear hK K
           repeat ((first | apply wpPlanZ_free rfl rfl | apply wpPlanZ_freeG rfl rfl); (intro w; go_simp; (try go_ints); (first | with_reducible rfl | (go_simp; with_reducible rfl))); (intro K hK; go_simp; (try go_ints); refine hK _ _ ?_; clear hK K))
           apply wpPlanZ_old rfl rfl (by kernel_rfl)
           · intro w hw
             subst hw
             go_simp
             (try go_ints)
             first | with_reducible rfl | (go_simp; with_reducible rfl)
           intro K hK
           go_simp
           (try go_ints)
           refine hK _ _ ?_
           clear hK K
           repeat ((first | apply wpPlanZ_free rfl rfl | apply wpPlanZ_freeG rfl rfl); (intro w; go_simp; (try go_ints); (first | with_reducible rfl | (go_simp; with_reducible rfl))); (intro K hK; go_simp; (try go_ints); refine hK _ _ ?_; clear hK K))
           apply wpPlanZ_act rfl rfl (by decide)
           intro K hK
           unfold Oper.wp
           go_simp
           refine hK _ _ trivial ?_
           clear hK K
           repeat ((first | apply wpPlanZ_free rfl rfl | apply wpPlanZ_freeG rfl rfl); (intro w; go_simp; (try go_ints); (first | with_reducible rfl | (go_simp; with_reducible rfl))); (intro K hK; go_simp; (try go_ints); refine hK _ _ ?_; clear hK K))
           apply wpPlanZ_act rfl rfl (by decide)
           intro K hK
           unfold Oper.wp
           go_simp
           refine hK _ _ trivial ?_
           clear hK K
           refine wpPlanZ_nil ?_
           clear cx fx cy fy cy1 fy1
           go_wp2_with fail
           go_roundw
           case rel => exact ⟨k1 + 1, by omega, by omega, by go_num, HSW.out.drew, HSM.out.trans (Same.drew _ _)⟩
           case measure => simp [intOf]; omega
         · have hR9 := HRq.out
           rw [show k1 + 1 = i1 by omega, HRow.out] at hR9
           have HR9 := Lib.hid hR9
           have hk0 : ¬ (k1 : Int) < (i2 : Int) := by omega
           clear hR9
           go_wp2_with fail
           (try simp only [Exit.inBlock, Exit.then])
           refine bodyPost_ret (results_none rfl _ _ _) rfl ?_
           exact ⟨rfl, _, HR9.out, HPerm.out, HDone.out, HSq.out⟩
 · by_cases h2 : b - m = 1
   · have e1 : ((m : Int) - (a : Int) == 1) = false := by rw [beq_eq_false_iff_ne]; omega
     have e1' : ¬ (m : Int) - (a : Int) = 1 := by omega
     have e2 : (b : Int) - (m : Int) = 1 := by omega
     have hbm : m + 1 ≤ b := by omega
     have hbm2 : b ≤ m + 1 := by omega
     clear h1 h2
     go_enter Tryz.func174, Tryz.ntmps174
     go_wp2_with fail
     clear e1 e1' e2
     go_loopw [14, 15] (fun i j wr => ∃ i1 j1 : Nat, a ≤ i1 ∧ i1 ≤ j1 ∧ j1 ≤ m ∧ i = .int .i64 (i1 : Int) ∧ j = .int .i64 (j1 : Int) ∧ (a < i1 → key (f (i1 - 1)) ≤ key (f m)) ∧ (j1 < m → key (f m) < key (f j1)) ∧ RowF wr g n f ∧ Same (fun j => j ≠ g) w wr) (fun i j _ => (intOf j).toNat - (intOf i).toNat)
     case atStart => exact ⟨a, m, Nat.le_refl _, by omega, Nat.le_refl _, rfl, rfl, fun h => by omega, fun h => by omega, HR.out, Same.refl _ _⟩
     case round =>
       obtain ⟨i1, j1, hi1, hij, hj1, rfl, rfl, hlo, hhi, hRr, hS⟩ := hrel
       have HRr := Lib.hid hRr
       have HS := Lib.hid hS
       have HLo := Lib.hid hlo
       have HHi := Lib.hid hhi
       obtain ⟨wo, rfl⟩ : ∃ wo : World, wo = wr := ⟨_, rfl⟩
       clear hRr hS hlo hhi
       by_cases hlt : i1 < j1
       · obtain ⟨h, hh⟩ : ∃ h, h = (i1 + j1) / 2 := ⟨_, rfl⟩
         have hh1 : i1 ≤ h := by omega
         have hh2 : h < j1 := by omega
         have hq : ((i1 : Int) + (j1 : Int)) / 2 = (h : Int) := by omega
         have ln1 : h < n := by omega
         have ln2 : m < n := by omega
         have ln3 : (h : Int) < (n : Int) := by omega
         have ln4 : (m : Int) < (n : Int) := by omega
         clear hh
         obtain ⟨c, hc, hcall⟩ := HC.out.same HS.out wo.drew (Same.drew _ _) (f m) (f h) (HD.out m (by omega)) (HD.out h (by omega))
         have HCall := Lib.hid hcall
         have HCc := Lib.hid hc
         have HF := Lib.hid fun W (hw : Below wo.heap.size wo W) => (⟨((HRr.out.below hw).cell h (by omega)).1, ((HRr.out.below hw).cell m (by omega)).1⟩ : W.cell? ⟨g, h, none⟩ = some (.int .i64 (f h)) ∧ W.cell? ⟨g, m, none⟩ = some (.int .i64 (f m)))
         clear hcall hc
         go_wp2_with fail
         clear hq
         refine wp_region_mix (fun W => Below wo.heap.size wo W) 11 [(0, true), (1, true), (2, true), (3, true), (4, true), (5, true), (6, true), (7, true), (8, true), (9, false), (10, true)] (by kernel_rfl) (by kernel_rfl) (Below.refl _ _).drew ?_
         have HD0 := Lib.hid (Below.refl wo.heap.size wo).drew
         repeat ((first | apply wpPlan_still rfl rfl | apply wpPlan_stillG rfl rfl); (intro w hw; obtain ⟨k1, k2⟩ := HF.out _ hw; clear hw; go_simp; (try go_ints); (first | with_reducible rfl | (go_simp; with_reducible rfl))); (intro K hK; go_simp; (try go_ints); refine hK _ _ ?_; clear hK K))
         apply wpPlan_actG (by simp only [List.getElem?_toArray, List.getElem?_cons_succ, List.getElem?_cons_zero]; rfl) (by rfl)
         intro K hK
         unfold Oper.wp
         go_simp
         refine HCall.out.mono ?_
         rintro e w1 ⟨rfl, hb1⟩
         have HB1 := Lib.hid (HD0.out.trans hb1)
         refine hK _ _ HB1.out ?_
         clear hK K hb1 HCall
         have HR1 := Lib.hid (HRr.out.below HB1.out)
         have HS1 := Lib.hid (HS.out.trans (same_below HB1.out))
         by_cases hk : key (f m) < key (f h)
         · have hcl : c < 0 := HCc.out.2 hk
           have HK := Lib.hid hk
           clear hk
           repeat ((first | apply wpPlan_still rfl rfl | apply wpPlan_stillG rfl rfl); (intro w hw; obtain ⟨k1, k2⟩ := HF.out _ hw; clear hw; go_simp; (try go_ints); (first | with_reducible rfl | (go_simp; with_reducible rfl))); (intro K hK; go_simp; (try go_ints); refine hK _ _ ?_; clear hK K))
           refine wpPlan_nil ?_
           simp only [List.drop_succ_cons, List.drop_zero]
           go_wp2_with fail
           go_roundw
           case rel => exact ⟨i1, h, hi1, hh1, by omega, rfl, rfl, HLo.out, fun _ => HK.out, HR1.out, HS1.out⟩
           case measure => simp [intOf]; omega
         · have hcl : ¬ c < 0 := fun e => hk (HCc.out.1 e)
           have hcd : decide (c < 0) = false := by simpa using hcl
           have HK := Lib.hid (show key (f h) ≤ key (f m) by omega)
           clear hk
           repeat ((first | apply wpPlan_still rfl rfl | apply wpPlan_stillG rfl rfl); (intro w hw; obtain ⟨k1, k2⟩ := HF.out _ hw; clear hw; go_simp; (try go_ints); (first | with_reducible rfl | (go_simp; with_reducible rfl))); (intro K hK; go_simp; (try go_ints); refine hK _ _ ?_; clear hK K))
           refine wpPlan_nil ?_
           simp only [List.drop_succ_cons, List.drop_zero]
           go_wp2_with fail
           go_roundw
           case rel => exact ⟨h + 1, j1, by omega, by omega, hj1, by go_num, rfl, fun _ => HK.out, HHi.out, HR1.out, HS1.out⟩
           case measure => simp [intOf]; omega
       · have hji : j1 ≤ i1 := by omega
         have hdone : SrtR key (rotF f i1 m (m + 1)) a b := merge_done hi1 (by omega) (by omega) (by omega) HL.out HRs.out (fun i j h1 h2 h3 h4 => by omega) (found_hi HL.out HRs.out hi1 (by omega) fun h1 h2 => by
           rw [show m + 1 - 1 = m by omega, show i1 = j1 by omega]
           exact HHi.out (by omega)) (fun i j h1 h2 h3 h4 => by omega) (fun i j h1 h2 h3 h4 => found_lo HL.out HRs.out HA.out (by omega) (Nat.le_refl _) (fun h5 h6 => by have := HLo.out h5; omega) i j h1 h2 h3 (by omega))
         have hperm : PermR a b f (rotF f i1 m (m + 1)) := (rot_perm f (by omega) (by omega)).mono hi1 (by omega)
         have HDone := Lib.hid hdone
         have HPerm := Lib.hid hperm
         clear hdone hperm
         go_wp2_with fail
         go_loopw [17] (fun k wr => ∃ k1 : Nat, i1 ≤ k1 ∧ k1 ≤ m ∧ k = .int .i64 (k1 : Int) ∧ RowF wr g n (rotF f k1 m (m + 1)) ∧ Same (fun j => j ≠ g) w wr) (fun k _ => (intOf k).toNat)
         case atStart => exact ⟨m, by omega, Nat.le_refl _, rfl, by rw [rot_nil']; exact HRr.out, HS.out⟩
         case round =>
           obtain ⟨k1, hk1, hk2, rfl, hRq, hSq⟩ := hrel
           obtain ⟨wq, rfl⟩ : ∃ wq : World, wq = wr := ⟨_, rfl⟩
           have HRq := Lib.hid hRq
           have HSq := Lib.hid hSq
           clear hRq hSq
           by_cases hlk : i1 < k1
           · obtain ⟨k2, rfl⟩ : ∃ k2, k1 = k2 + 1 := ⟨k1 - 1, by omega⟩
             obtain ⟨cx, fx⟩ := HRq.out.cell (k2 + 1) (by omega)
             obtain ⟨cy, fy⟩ := HRq.out.cell k2 (by omega)
             obtain ⟨cy1, fy1⟩ := (HRq.out.set (x := k2 + 1) (by omega) (rotF f (k2 + 1) m (m + 1) k2)).cell k2 (by omega)
             have hsw := HRq.out.swap (x := k2 + 1) (y := k2) (by omega) (by omega) (by omega)
             rw [show swapF (rotF f (k2 + 1) m (m + 1)) (k2 + 1) k2 = rotF f k2 m (m + 1) from rot_bwd f (k := k2 + 1) (by omega) (by omega)] at hsw
             have HSW := Lib.hid hsw
             have HSM := Lib.hid (HSq.out.trans ((Same.setCell _ wq ⟨g, k2 + 1, none⟩ (.int .i64 (rotF f (k2 + 1) m (m + 1) k2)) (by simp)).trans (Same.setCell _ _ ⟨g, k2, none⟩ (.int .i64 (rotF f (k2 + 1) m (m + 1) (k2 + 1))) (by simp))))
             have e5 : (k2 : Int) + 1 - 1 = (k2 : Int) := by omega
             have t1 : ((k2 : Int) + 1).toNat = k2 + 1 := by omega
             have n1 : 0 ≤ (k2 : Int) + 1 := by omega
             have l1 : (k2 : Int) + 1 < (n : Int) := by omega
             have l2 : (k2 : Int) < (n : Int) := by omega
             have g1 : (i1 : Int) < (k2 : Int) + 1 := by omega
             clear hsw
             go_wp2_with fail
             refine wp_region_mixZ (fun W => W = wq.drew) (fun _ => True) 15 [(0, true), (1, true), (2, true), (3, true), (4, true), (5, true), (6, true), (7, true), (8, true), (9, true), (10, true), (11, true), (12, true), (13, true), (14, true), (15, false), (16, true), (17, false)] (by kernel_rfl) (by kernel_rfl) rfl ?_
             repeat ((first | apply wpPlanZ_free rfl rfl | apply wpPlanZ_freeG rfl rfl); (intro w; go_simp; (try go_ints); (first | with_reducible rfl | (go_simp; with_reducible rfl))); (intro K hK; go_simp; (try go_ints); refine hK _ _ ?_; clear hK K))
             apply wpPlanZ_old rfl rfl (by kernel_rfl)
             · intro w hw
               subst hw
               go_simp
               (try go_ints)
               first | with_reducible rfl | (go_simp; with_reducible rfl)
             intro K hK
             go_simp
             (try go_ints)
             refine hK _ _ ?_
             clear hK K
             repeat ((first | apply wpPlanZ_free rfl rfl | apply wpPlanZ_freeG rfl rfl); (intro w; go_simp; (try go_ints); (first | with_reducible rfl | (go_simp; with_reducible rfl))); (intro K hK; go_simp; (try go_ints); refine hK _ _ ?_; clear hK K))
             apply wpPlanZ_old rfl rfl (by kernel_rfl)
             · intro w hw
               subst hw
               go_simp
               (try go_ints)
               first | with_reducible rfl | (go_simp; with_reducible rfl)
             intro K hK
             go_simp
             (try go_ints)
             refine hK _ _ ?_
             clear hK K
             repeat ((first | apply wpPlanZ_free rfl rfl | apply wpPlanZ_freeG rfl rfl); (intro w; go_simp; (try go_ints); (first | with_reducible rfl | (go_simp; with_reducible rfl))); (intro K hK; go_simp; (try go_ints); refine hK _ _ ?_; clear hK K))
             apply wpPlanZ_act rfl rfl (by decide)
             intro K hK
             unfold Oper.wp
             go_simp
             refine hK _ _ trivial ?_
             clear hK K
             repeat ((first | apply wpPlanZ_free rfl rfl | apply wpPlanZ_freeG rfl rfl); (intro w; go_simp; (try go_ints); (first | with_reducible rfl | (go_simp; with_reducible rfl))); (intro K hK; go_simp; (try go_ints); refine hK _ _ ?_; clear hK K))
             apply wpPlanZ_act rfl rfl (by decide)
             intro K hK
             unfold Oper.wp
             go_simp
             refine hK _ _ trivial ?_
             clear hK K
             refine wpPlanZ_nil ?_
             clear cx fx cy fy cy1 fy1
             go_wp2_with fail
             go_roundw
             case rel => exact ⟨k2, by omega, by omega, rfl, HSW.out.drew, HSM.out.trans (Same.drew _ _)⟩
             case measure => (simp [intOf]; try omega)
           · have hR9 := HRq.out
             rw [show k1 = i1 by omega] at hR9
             have HR9 := Lib.hid hR9
             have hk0 : ¬ (i1 : Int) < (k1 : Int) := by omega
             clear hR9
             go_wp2_with fail
             (try simp only [Exit.inBlock, Exit.then])
             refine bodyPost_ret (results_none rfl _ _ _) rfl ?_
             exact ⟨rfl, _, HR9.out, HPerm.out, HDone.out, HSq.out⟩
   · have hIH := IH.out
     exact symGen_any F lb eg key D g n cap hn a m b f w (by omega) (by omega) hbn HR.out HD.out HL.out HRs.out HA.out HC.out (fun a' m' b' f' w' h k1 k2 k3 k4 k5 k6 k7 k8 k9 => hIH a' m' b' f' w' (by omega) k1 k2 k3 k4 k5 k6 k7 k8 k9)
end Go.Proofs.YtmmhngjndnonhaaGreatDoor
namespace Go.Pal
open Go
theorem mul_step (D : Nat) {j k : Nat} (h : j < k) : D * j + D ≤ D * k := by
 have := Nat.mul_le_mul_left D (show j + 1 ≤ k from h)
 rw [Nat.mul_add, Nat.mul_one] at this
 exact this
theorem mul_two_swap (B k : Nat) : B * (2 * k) = 2 * B * k := by rw [Nat.mul_left_comm, Nat.mul_assoc]
theorem AscR.keep {f f' : Nat → Int} {a e c n : Nat} (h : AscR f 0 c n) (p : PermR a e f f') (hc : c ≤ a ∨ e ≤ c) (he : e ≤ n) : AscR f' 0 c n := fun i j h1 h2 h3 h4 => by
 have hi : ∃ i', i' < c ∧ f' i = f i' := by
   by_cases ci : a ≤ i ∧ i < e
   · obtain ⟨i', k1, k2, k3⟩ := p.mem ci.1 ci.2
     exact ⟨i', by omega, k3⟩
   · exact ⟨i, h2, p.out (by omega)⟩
 have hj : ∃ j', c ≤ j' ∧ j' < n ∧ f' j = f j' := by
   by_cases cj : a ≤ j ∧ j < e
   · obtain ⟨j', k1, k2, k3⟩ := p.mem cj.1 cj.2
     exact ⟨j', by omega, by omega, k3⟩
   · exact ⟨j, h3, h4, p.out (by omega)⟩
 obtain ⟨i', k1, k2⟩ := hi
 obtain ⟨j', k3, k4, k5⟩ := hj
 rw [k2, k5]
 exact h i' j' (Nat.zero_le _) k1 k3 k4
theorem SrtR.keep {key : Int → Int} {f f' : Nat → Int} {a e c d : Nat} (h : SrtR key f c d) (p : PermR a e f f') (hc : d ≤ a ∨ e ≤ c) : SrtR key f' c d :=
 h.congr fun i h1 h2 => p.out (by omega)
theorem SrtR.none {key : Int → Int} {f : Nat → Int} {a b : Nat} (h : b ≤ a) : SrtR key f a b := fun i j h1 h2 h3 => by omega
structure Blk (key : Int → Int) (f0 f : Nat → Int) (B n : Nat) : Prop where
 perm : PermR 0 n f0 f
 srt : ∀ k, SrtR key f (B * k) (min (B * k + B) n)
 asc : ∀ k, AscR f 0 (B * k) n
structure BlkI (key : Int → Int) (f0 f : Nat → Int) (B n k : Nat) : Prop where
 perm : PermR 0 n f0 f
 srt : ∀ j, j < k → SrtR key f (B * j) (min (B * j + B) n)
 asc : ∀ k, AscR f 0 (B * k) n
 rest : ∀ i, B * k ≤ i → f i = f0 i
theorem BlkI.start {key : Int → Int} {f0 : Nat → Int} {n : Nat} (B : Nat) (hA : ∀ i j, i < j → j < n → f0 i < f0 j) : BlkI key f0 f0 B n 0 :=
 ⟨PermR.refl _ _ _, fun j h => by omega, fun k i j h1 h2 h3 h4 => hA i j (by omega) h4, fun i _ => rfl⟩
theorem BlkI.step {key : Int → Int} {f0 f f' : Nat → Int} {B n k e : Nat} (h : BlkI key f0 f B n k) (he : e = min (B * k + B) n) (p : PermR (B * k) e f f') (s : SrtR key f' (B * k) e) : BlkI key f0 f' B n (k + 1) := by
 refine ⟨h.perm.trans (p.mono (Nat.zero_le _) (by omega)), fun j hj => ?_, fun j => ?_, fun i hi => ?_⟩
 · by_cases c : j = k
   · subst c; rw [← he]; exact s
   · have := mul_step B (show j < k by omega)
     exact (h.srt j (by omega)).keep p (.inl (by omega))
 · refine (h.asc j).keep p ?_ (by omega)
   by_cases c : j ≤ k
   · exact .inl (Nat.mul_le_mul_left _ c)
   · have := mul_step B (show k < j by omega)
     exact .inr (by omega)
 · rw [Nat.mul_add, Nat.mul_one] at hi
   rw [p.out (.inr (by omega)), h.rest i (by omega)]
theorem BlkI.fin {key : Int → Int} {f0 f : Nat → Int} {B n k : Nat} (h : BlkI key f0 f B n k) (he : n ≤ B * k) : Blk key f0 f B n := by
 refine ⟨h.perm, fun j => ?_, h.asc⟩
 by_cases c : j < k
 · exact h.srt j c
 · have := Nat.mul_le_mul_left B (show k ≤ j by omega)
   exact SrtR.none (by omega)
structure BlkH (key : Int → Int) (f0 f : Nat → Int) (B n k : Nat) : Prop where
 perm : PermR 0 n f0 f
 done : ∀ j, j < k → SrtR key f (2 * B * j) (min (2 * B * j + 2 * B) n)
 srt : ∀ j, 2 * k ≤ j → SrtR key f (B * j) (min (B * j + B) n)
 asc : ∀ j, 2 * k ≤ j → AscR f 0 (B * j) n
 ascE : ∀ j, AscR f 0 (2 * B * j) n
theorem Blk.start {key : Int → Int} {f0 f : Nat → Int} {B n : Nat} (h : Blk key f0 f B n) : BlkH key f0 f B n 0 :=
 ⟨h.perm, fun j hj => by omega, fun j _ => h.srt j, fun j _ => h.asc j, fun j => by rw [← mul_two_swap]; exact h.asc _⟩
theorem BlkH.step {key : Int → Int} {f0 f f' : Nat → Int} {B n k e : Nat} (h : BlkH key f0 f B n k) (he : e = min (2 * B * k + 2 * B) n) (p : PermR (2 * B * k) e f f') (s : SrtR key f' (2 * B * k) e) : BlkH key f0 f' B n (k + 1) := by
 have hB : ∀ j, 2 * (k + 1) ≤ j → e ≤ B * j := fun j hj => by
   have h1 := Nat.mul_le_mul_left B hj
   rw [mul_two_swap, Nat.mul_add, Nat.mul_one] at h1
   omega
 refine ⟨h.perm.trans (p.mono (Nat.zero_le _) (by omega)), fun j hj => ?_, fun j hj => ?_, fun j hj => ?_, fun j => ?_⟩
 · by_cases c : j = k
   · subst c; rw [← he]; exact s
   · have := mul_step (2 * B) (show j < k by omega)
     exact (h.done j (by omega)).keep p (.inl (by omega))
 · exact (h.srt j (by omega)).keep p (.inr (hB j hj))
 · exact (h.asc j (by omega)).keep p (.inr (hB j hj)) (by omega)
 · refine (h.ascE j).keep p ?_ (by omega)
   by_cases c : j ≤ k
   · exact .inl (Nat.mul_le_mul_left _ c)
   · have := mul_step (2 * B) (show k < j by omega)
     exact .inr (by omega)
theorem BlkH.fin {key : Int → Int} {f0 f : Nat → Int} {B n k : Nat} (h : BlkH key f0 f B n k) (he : n ≤ 2 * B * k) : Blk key f0 f (2 * B) n := by
 refine ⟨h.perm, fun j => ?_, h.ascE⟩
 by_cases c : j < k
 · exact h.done j c
 · have := Nat.mul_le_mul_left (2 * B) (show k ≤ j by omega)
   exact SrtR.none (by omega)
theorem BlkH.pair {key : Int → Int} {f0 f : Nat → Int} {B n k : Nat} (h : BlkH key f0 f B n k) (hm : 2 * B * k + B ≤ n) :
   SrtR key f (2 * B * k) (2 * B * k + B) ∧ SrtR key f (2 * B * k + B) (min (2 * B * k + 2 * B) n) ∧ AscR f (2 * B * k) (2 * B * k + B) (min (2 * B * k + 2 * B) n) := by
 have e1 : B * (2 * k) = 2 * B * k := mul_two_swap B k
 have e2 : B * (2 * k + 1) = 2 * B * k + B := by rw [Nat.mul_add, Nat.mul_one, e1]
 have h1 := h.srt (2 * k) (Nat.le_refl _)
 have h2 := h.srt (2 * k + 1) (by omega)
 have h3 := h.asc (2 * k + 1) (by omega)
 rw [e1, show min (2 * B * k + B) n = 2 * B * k + B by omega] at h1
 rw [e2, show 2 * B * k + B + B = 2 * B * k + 2 * B by omega] at h2
 rw [e2] at h3
 exact ⟨h1, h2, fun i j a1 a2 a3 a4 => h3 i j (Nat.zero_le _) a2 a3 (by omega)⟩
theorem BlkH.last {key : Int → Int} {f0 f : Nat → Int} {B n k : Nat} (h : BlkH key f0 f B n k) (hm : n ≤ 2 * B * k + B) : SrtR key f (2 * B * k) n := by
 have h1 := h.srt (2 * k) (Nat.le_refl _)
 rw [mul_two_swap, show min (2 * B * k + B) n = n by omega] at h1
 exact h1
theorem Blk.all {key : Int → Int} {f0 f : Nat → Int} {B n : Nat} (h : Blk key f0 f B n) (hn : n ≤ B) : SrtR key f 0 n := by
 have h1 := h.srt 0
 rw [Nat.mul_zero, show min (0 + B) n = n by omega] at h1
 exact h1
theorem perm_dom {D : Int → Prop} {f f' : Nat → Int} {n : Nat} (p : PermR 0 n f f') (h : ∀ i, i < n → D (f i)) : ∀ i, i < n → D (f' i) := fun i hi => by
 obtain ⟨j, _, h2, h3⟩ := p.mem (Nat.zero_le _) hi
 rw [h3]; exact h j h2
end Go.Pal
namespace Go.Proofs.YtmmhngjndnonhaaGreatDoor
open Go Go.RowKit Go.Pal
attribute [local go_sem] Oper.semAt_some
theorem stable_any (F : Nat) (lb : Array Value) (eg : ∀ args w, (callFunc F args).run Tryz.prog w = .ok (.enter F args) w) (key : Int → Int) (D : Int → Prop) (g n cap : Nat) (hn : n ≤ 100000)
   (f : Nat → Int) (hA : ∀ i j, i < j → j < n → f i < f j) (hD : ∀ i, i < n → D (f i)) (w : World) (hR : RowF w g n f) (hC : CmpOk F lb g key D w) :
   Calls Tryz.prog 146 #[.slice (some ⟨g, 0, none⟩) n cap, .int .i64 (n : Int), .func (.func F) #[] lb] w fun e w' => e = .returned (.tuple #[]) ∧ ∃ f', RowF w' g n f' ∧ PermR 0 n f f' ∧ SrtR key f' 0 n ∧ Same (fun j => j ≠ g) w w' := by
 have HR := Lib.hid hR
 have HC := Lib.hid hC
 have HD := Lib.hid hD
 have HA := Lib.hid hA
 clear hR hC hD hA
 go_enter Tryz.func146, Tryz.ntmps146
 go_wp2_with fail
 go_loopw [7, 8] (fun x y wr => ∃ (k a1 b1 : Nat) (h : Nat → Int), Hid (a1 = 20 * k) ∧ a1 ≤ n ∧ a1 + 20 ≤ b1 ∧ b1 ≤ a1 + 20 ∧ x = .int .i64 (a1 : Int) ∧ y = .int .i64 (b1 : Int) ∧ RowF wr g n h ∧ BlkI key f h 20 n k ∧ Same (fun j => j ≠ g) w wr) (fun x _ _ => n - (intOf x).toNat)
 case atStart => exact ⟨0, 0, 20, f, Lib.hid rfl, Nat.zero_le _, by omega, by omega, rfl, rfl, HR.out, BlkI.start 20 HA.out, Same.refl _ _⟩
 case round =>
   obtain ⟨k, a1, b1, h, HK, ha1, hb1, hb2, rfl, rfl, hRr, hB, hS⟩ := hrel
   obtain ⟨wo, rfl⟩ : ∃ wo : World, wo = wr := ⟨_, rfl⟩
   have HRr := Lib.hid hRr
   have HB := Lib.hid hB
   have HS := Lib.hid hS
   clear hRr hB hS
   have HDh : Hid (∀ i, i < n → D (h i)) := Lib.hid (perm_dom HB.out.perm HD.out)
   have HAh : Hid (∀ i j, a1 ≤ i → i < j → j < n → h i < h j) := Lib.hid fun i j h1 h2 h3 => by
     have hk := HK.out
     rw [HB.out.rest i (by omega), HB.out.rest j (by omega)]
     exact HA.out i j h2 h3
   by_cases hlt : b1 ≤ n
   · have HI := Lib.hid (insSort_any F lb eg key D g n cap a1 b1 h (by omega) hlt hn HDh.out (fun i j h1 h2 h3 => HAh.out i j h1 h2 (by omega)) wo HRr.out (HC.out.same HS.out))
     go_wp2_with fail
     refine HI.out.mono ?_
     rintro e w1 ⟨rfl, h', hR1, hP1, hS1, hm1⟩
     have HR1 := Lib.hid hR1
     have HM1 := Lib.hid (HS.out.trans hm1)
     have hst : BlkI key f h' 20 n (k + 1) := by
       have hk := HK.out
       refine HB.out.step (e := b1) (by omega) (by rw [← hk]; exact hP1) (by rw [← hk]; exact hS1)
     have HST := Lib.hid hst
     clear hR1 hP1 hS1 hm1 hst HI
     go_wp2_with fail
     go_roundw
     case rel => exact ⟨k + 1, b1, b1 + 20, h', Lib.hid (by have hk := HK.out; omega), hlt, by omega, by omega, rfl, by go_num, HR1.out, HST.out, HM1.out⟩
     case measure => simp [intOf]; omega
   · have HI := Lib.hid (insSort_any F lb eg key D g n cap a1 n h ha1 (Nat.le_refl _) hn HDh.out HAh.out wo HRr.out (HC.out.same HS.out))
     have hlt2 : n < b1 := by omega
     clear hlt
     go_wp2_with fail
     refine HI.out.mono ?_
     rintro e w1 ⟨rfl, h', hR1, hP1, hS1, hm1⟩
     have HR1 := Lib.hid hR1
     have HM1 := Lib.hid (HS.out.trans hm1)
     have hst : Blk key f h' 20 n := by
       have hk := HK.out
       exact (HB.out.step (e := n) (by omega) (by rw [← hk]; exact hP1) (by rw [← hk]; exact hS1)).fin (by omega)
     have HST := Lib.hid hst
     clear hR1 hP1 hS1 hm1 hst HI
     go_wp2_with fail
     go_loopw [6, 7, 8, 9] (fun x _ _ _ wr => ∃ (B : Nat) (h : Nat → Int), 0 < B ∧ B ≤ 2 * n + 20 ∧ x = .int .i64 (B : Int) ∧ RowF wr g n h ∧ Blk key f h B n ∧ Same (fun j => j ≠ g) w wr) (fun x _ _ _ _ => n - (intOf x).toNat)
     case atStart => exact ⟨20, h', by omega, by omega, rfl, HR1.out, HST.out, HM1.out⟩
     case round =>
       obtain ⟨B, h2, hB0, hB1, rfl, hRb, hBk, hSb⟩ := hrel
       obtain ⟨wp, rfl⟩ : ∃ wp : World, wp = wr := ⟨_, rfl⟩
       have HRb := Lib.hid hRb
       have HBk := Lib.hid hBk
       have HSb := Lib.hid hSb
       clear hRb hBk hSb HB HRr HS HK HR1 HM1 HST hb1 hb2 ha1 HDh HAh hlt2
       by_cases hlb : B < n
       · have e2 : (2 : Int) * (B : Int) = ((2 * B : Nat) : Int) := by omega
         obtain ⟨B2, hB2⟩ : ∃ B2, B2 = 2 * B := ⟨_, rfl⟩
         rw [← hB2] at e2
         have HB2 := Lib.hid hB2
         have c1 : B2 ≤ 2 * B := by omega
         have c2 : 2 * B ≤ B2 := by omega
         have e3 : (B : Int) * (2 : Int) = (B2 : Int) := by omega
         clear hB2
         go_wp2_with fail
         go_loopw [7, 8] (fun x y wr => ∃ (k a1 b1 : Nat) (h : Nat → Int), Hid (a1 = 2 * B * k) ∧ a1 ≤ n ∧ a1 + B2 ≤ b1 ∧ b1 ≤ a1 + B2 ∧ x = .int .i64 (a1 : Int) ∧ y = .int .i64 (b1 : Int) ∧ RowF wr g n h ∧ BlkH key f h B n k ∧ Same (fun j => j ≠ g) w wr) (fun x _ _ => n - (intOf x).toNat)
         case atStart => exact ⟨0, 0, B2, h2, Lib.hid rfl, Nat.zero_le _, by omega, by omega, rfl, rfl, HRb.out, HBk.out.start, HSb.out⟩
         case round =>
           obtain ⟨k, a1, b1, h3, HK, ha1, hb1, hb2, rfl, rfl, hRr, hB, hS⟩ := hrel
           obtain ⟨wo, rfl⟩ : ∃ wo : World, wo = wr := ⟨_, rfl⟩
           have HRr := Lib.hid hRr
           have HB := Lib.hid hB
           have HS := Lib.hid hS
           clear hRr hB hS
           have HDh : Hid (∀ i, i < n → D (h3 i)) := Lib.hid (perm_dom HB.out.perm HD.out)
           obtain ⟨m1, hm1⟩ : ∃ m1, m1 = a1 + B := ⟨_, rfl⟩
           have em : (a1 : Int) + (B : Int) = (m1 : Int) := by omega
           have ma : m1 ≤ a1 + B := by omega
           have mb : a1 + B ≤ m1 := by omega
           have HMm := Lib.hid hm1
           clear hm1
           by_cases hlt : b1 ≤ n
           · have hpr := HB.out.pair (by have := HK.out; omega)
             rw [← HK.out, ← HMm.out, ← HB2.out, show min (a1 + B2) n = b1 by omega] at hpr
             have HI := Lib.hid (symMerge_any F lb eg key D g n cap hn (b1 - a1) a1 m1 b1 h3 wo (Nat.le_refl _) (by omega) (by omega) hlt HRr.out HDh.out hpr.1 hpr.2.1 hpr.2.2 (HC.out.same HS.out))
             clear hpr
             go_wp2_with fail
             refine HI.out.mono ?_
             rintro e w1 ⟨rfl, h', hR1, hP1, hS1, hm1⟩
             have HR1 := Lib.hid hR1
             have HM1 := Lib.hid (HS.out.trans hm1)
             have hst : BlkH key f h' B n (k + 1) := by
               have hk := HK.out
               refine HB.out.step (e := b1) (by omega) (by rw [← hk]; exact hP1) (by rw [← hk]; exact hS1)
             have HST := Lib.hid hst
             clear hR1 hP1 hS1 hm1 hst HI
             go_wp2_with fail
             go_roundw
             case rel => exact ⟨k + 1, b1, b1 + B2, h', Lib.hid (by have hk := HK.out; rw [Nat.mul_add, Nat.mul_one]; omega), hlt, by omega, by omega, rfl, by go_num, HR1.out, HST.out, HM1.out⟩
             case measure => simp [intOf]; omega
           · have hlt2 : n < b1 := by omega
             clear hlt
             by_cases hmn : m1 < n
             · have hpr := HB.out.pair (by have := HK.out; omega)
               rw [← HK.out, ← HMm.out, ← HB2.out, show min (a1 + B2) n = n by omega] at hpr
               have HI := Lib.hid (symMerge_any F lb eg key D g n cap hn (n - a1) a1 m1 n h3 wo (Nat.le_refl _) (by omega) (by omega) (Nat.le_refl _) HRr.out HDh.out hpr.1 hpr.2.1 hpr.2.2 (HC.out.same HS.out))
               clear hpr
               go_wp2_with fail
               refine HI.out.mono ?_
               rintro e w1 ⟨rfl, h', hR1, hP1, hS1, hm1⟩
               have HR1 := Lib.hid hR1
               have HM1 := Lib.hid (HS.out.trans hm1)
               have hst : Blk key f h' B2 n := by
                 have hk := HK.out
                 rw [HB2.out]
                 refine (HB.out.step (e := n) (by have := HB2.out; omega) (by rw [← hk]; exact hP1) (by rw [← hk]; exact hS1)).fin ?_
                 rw [Nat.mul_add, Nat.mul_one]
                 have := HB2.out
                 omega
               have HST := Lib.hid hst
               clear hR1 hP1 hS1 hm1 hst HI
               go_wp2_with fail
               go_roundw
               case rel => exact ⟨B2, h', by omega, by omega, by first | rfl | go_num, HR1.out, HST.out, HM1.out⟩
               case measure => simp [intOf]; omega
             · have hmn2 : n ≤ m1 := by omega
               have hmn3 : ¬ (m1 : Int) < (n : Int) := by omega
               have hmn4 : decide ((m1 : Int) < (n : Int)) = false := by simp; omega
               have hst : Blk key f h3 B2 n := by
                 have hk := HK.out
                 have hl := HB.out.last (by have := HMm.out; omega)
                 rw [HB2.out]
                 refine (HB.out.step (e := n) (by have := HB2.out; omega) (PermR.refl _ _ _) hl).fin ?_
                 rw [Nat.mul_add, Nat.mul_one]
                 have := HB2.out
                 omega
               have HST := Lib.hid hst
               clear hst
               go_wp2_with fail
               go_roundw
               case rel => exact ⟨B2, h3, by omega, by omega, by first | rfl | go_num, HRr.out, HST.out, HS.out⟩
               case measure => simp [intOf]; omega
       · have hnb : n ≤ B := by omega
         clear hlb
         go_wp2_with fail
         go_end0
         exact ⟨rfl, h2, HRb.out, HBk.out.perm, HBk.out.all hnb, HSb.out⟩
theorem sortStable_any (F : Nat) (lb : Array Value) (eg : ∀ args w, (callFunc F args).run Tryz.prog w = .ok (.enter F args) w) (key : Int → Int) (D : Int → Prop) (g n cap : Nat) (hn : n ≤ 100000)
   (f : Nat → Int) (hA : ∀ i j, i < j → j < n → f i < f j) (hD : ∀ i, i < n → D (f i)) (w : World) (hR : RowF w g n f) (hC : CmpOk F lb g key D w) :
   Calls Tryz.prog 74 #[.slice (some ⟨g, 0, none⟩) n cap, .func (.func F) #[] lb] w fun e w' => e = .returned (.tuple #[]) ∧ ∃ f', RowF w' g n f' ∧ PermR 0 n f f' ∧ SrtR key f' 0 n ∧ Same (fun j => j ≠ g) w w' := by
 have HI := Lib.hid (stable_any F lb eg key D g n cap hn f hA hD w hR hC)
 clear hR hC hD hA
 go_enter Tryz.func74, Tryz.ntmps74
 go_wp2_with fail
 refine HI.out.mono ?_
 rintro e w1 ⟨rfl, h1⟩
 have H1 := Lib.hid h1
 clear h1
 go_wp2_with fail
 go_end0
 exact ⟨rfl, H1.out⟩
theorem compareInt_neg (x y : Int) : Lib.compareInt x y < 0 ↔ x < y := by
 unfold Lib.compareInt
 split
 · simp; omega
 · split
   · simp; omega
   · simp; omega
theorem elim1_any (m : List (Int × Int)) (b bM : Nat) (x y : Int) (hx : InI x) (hy : InI y) (W : World) (hO : Pal.Own CP Tryz.prog 3 W bM m) (hr : row? W b = some #[.map (some bM)]) :
   Calls Tryz.prog 75 #[.int .i64 x, .int .i64 y, .pointer (some ⟨b, 0, none⟩)] W fun e W' => e = .returned (.int .i64 (Lib.compareInt ((Pal.look m y).getD 0) ((Pal.look m x).getD 0))) ∧ W' = W := by
 have h1 := hO.look goodP Tryz.underlying140 (b0 := 0) (fun w => zeroInt w) (x := x) hx
 have h2 := hO.look goodP Tryz.underlying140 (b0 := 0) (fun w => zeroInt w) (x := y) hy
 simp only [CP] at h1 h2
 have c0 := cell?_row (i := 0) hr
 simp at c0
 obtain ⟨dx, hdx⟩ : ∃ d, d = (Pal.look m x).getD 0 := ⟨_, rfl⟩
 obtain ⟨dy, hdy⟩ : ∃ d, d = (Pal.look m y).getD 0 := ⟨_, rfl⟩
 rw [← hdx] at h1 ⊢
 rw [← hdy] at h2 ⊢
 have HC := Lib.hid fun W => compare_any dy dx W
 clear hO hr hdx hdy
 go_enter Tryz.func75, Tryz.ntmps75
 go_wp2_with fail
 refine (HC.out _).mono ?_
 rintro e w1 ⟨rfl, rfl⟩
 go_wp2_with fail
 go_ret
 exact ⟨rfl, rfl⟩
theorem elim_cmp (m : List (Int × Int)) (b bM g : Nat) (w : World) (hO : Pal.Own CP Tryz.prog 3 w bM m) (hr : row? w b = some #[.map (some bM)]) (h1 : b ≠ g) (h2 : bM ≠ g) :
   CmpOk 75 #[.pointer (some ⟨b, 0, none⟩)] g (fun x => -((Pal.look m x).getD 0)) InI w := by
 intro W hW x y hx hy
 refine ⟨Lib.compareInt ((Pal.look m y).getD 0) ((Pal.look m x).getD 0), ?_, (elim1_any m b bM x y hx hy W (hO.congr (hW.block bM hO.lt h2)) ((row?_congr (hW.block b (row?_lt hr) h1)).trans hr)).mono ?_⟩
 · rw [compareInt_neg]
   show _ ↔ -_ < -_
   omega
 · rintro e W' ⟨rfl, rfl⟩
   exact ⟨rfl, Below.refl _ _⟩
theorem insSort_nil (c : Nat) (fv : Value) (w : World) :
   Calls Tryz.prog 173 #[.slice none 0 c, .int .i64 0, .int .i64 0, fv] w fun e w' => e = .returned (.tuple #[]) ∧ w' = w := by
 go_enter Tryz.func173, Tryz.ntmps173
 go_wp2_with fail
 go_loopw [8, 9] (fun i _ wr => i = .int .i64 1 ∧ wr = w) (fun _ _ _ => 0)
 case atStart => exact ⟨rfl, rfl⟩
 case round =>
   obtain ⟨rfl, rfl⟩ := hrel
   go_wp2_with fail
   go_end0
   exact ⟨rfl, rfl⟩
theorem stable_nil (c : Nat) (fv : Value) (w : World) :
   Calls Tryz.prog 146 #[.slice none 0 c, .int .i64 0, fv] w fun e w' => e = .returned (.tuple #[]) ∧ w' = w := by
 go_enter Tryz.func146, Tryz.ntmps146
 go_wp2_with fail
 go_loopw [7, 8] (fun x y wr => x = .int .i64 0 ∧ y = .int .i64 20 ∧ wr = w) (fun _ _ _ => 0)
 case atStart => exact ⟨rfl, rfl, rfl⟩
 case round =>
   obtain ⟨rfl, rfl, rfl⟩ := hrel
   go_wp2_with fail
   refine (insSort_nil c fv _).mono ?_
   rintro e w1 ⟨rfl, rfl⟩
   go_wp2_with fail
   go_loopw [6, 7, 8, 9] (fun x _ _ _ wr => x = .int .i64 20 ∧ wr = w1) (fun _ _ _ _ _ => 0)
   case atStart => exact ⟨rfl, rfl⟩
   case round =>
     obtain ⟨rfl, rfl⟩ := hrel
     go_wp2_with fail
     go_end0
     exact ⟨rfl, rfl⟩
theorem sortStable_nil (c : Nat) (fv : Value) (w : World) :
   Calls Tryz.prog 74 #[.slice none 0 c, fv] w fun e w' => e = .returned (.tuple #[]) ∧ w' = w := by
 go_enter Tryz.func74, Tryz.ntmps74
 go_wp2_with fail
 refine (stable_nil c fv _).mono ?_
 rintro e w1 ⟨rfl, rfl⟩
 go_wp2_with fail
 go_end0
 exact ⟨rfl, rfl⟩
end Go.Proofs.YtmmhngjndnonhaaGreatDoor
