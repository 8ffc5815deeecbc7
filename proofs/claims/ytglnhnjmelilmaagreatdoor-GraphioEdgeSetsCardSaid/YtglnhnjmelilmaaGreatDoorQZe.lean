/- Plain laws: what is read from a text of edges ascends; the text of a set reads to its .. -/
import Derived.Test.YtglnhnjmelilmaaGreatDoorQZC
import Derived.Test.YtglnhnjmelilmaaGreatDoorQZD
import Derived.Test.YtglnhnjmelilmaaGreatDoorQJg
import Derived.Test.YtglnhnjmelilmaaGreatDoorQVd
set_option linter.all false
namespace Go.Pal
open Go Go.RowKit
theorem readE_up {G : Gr} (hG : G.Ok) : ∀ (n : Nat) (s : List UInt8) (p : Int × Int) (l : List Nat), l.Pairwise (· < ·) → (∀ k ∈ l, ∃ e, G.E[k]? = some e ∧ (e.1.1 < p.1 ∨ (e.1.1 = p.1 ∧ e.1.2 ≤ p.2))) → (readE G n s p l).1.Pairwise (· < ·) ∧ ∀ k ∈ (readE G n s p l).1, k < G.E.length
 | 0, s, p, l, _, _ => by
   show ([] : List Nat).Pairwise _ ∧ _
   exact ⟨List.Pairwise.nil, by simp [readE]⟩
 | n + 1, s, p, l, hl, hp => by
   cases h : endOf s with
   | none => rw [readE_none h]; exact ⟨List.Pairwise.nil, by simp⟩
   | some q =>
     obtain ⟨u, v, r⟩ := q
     have huv := (endOf_le h).2.1
     rw [readE_some h]
     split
     · rename_i hb
       split
       · exact ⟨List.Pairwise.nil, by simp⟩
       · rename_i hix
         obtain ⟨k, x, hk, hx, hpx⟩ := idx_get2 hix
         have hxe := (edgB_iff hG huv (List.mem_of_getElem? hx)).1 hpx
         rw [hk, Int.toNat_natCast]
         obtain ⟨hk1, hk2⟩ := List.getElem?_eq_some_iff.1 hx
         have hb2 : p.1 < u ∨ (u = p.1 ∧ p.2 < v) := by simpa [behB] using hb
         have hlt : ∀ j ∈ l, j < k := by
           intro j hj
           obtain ⟨e, he, hep⟩ := hp j hj
           obtain ⟨hj1, hj2⟩ := List.getElem?_eq_some_iff.1 he
           refine Decidable.byContradiction fun hn => ?_
           rcases Nat.lt_or_ge k j with hkj | hkj
           · have := List.pairwise_iff_getElem.1 hG.sE k j hk1 hj1 hkj
             rw [hk2, hj2] at this
             have h2 : x.1.1 < e.1.1 ∨ (x.1.1 = e.1.1 ∧ x.1.2 < e.1.2) := by simpa [ltE] using this
             rw [hxe] at h2
             simp only at h2
             omega
           · obtain rfl : j = k := by omega
             rw [hx] at he
             obtain rfl := Option.some.inj he
             rw [hxe] at hep
             simp only at hep
             omega
         have hl2 : (l ++ [k]).Pairwise (· < ·) := List.pairwise_append.2 ⟨hl, List.pairwise_singleton _ _, fun a ha b hb => by rw [List.mem_singleton.1 hb]; exact hlt a ha⟩
         have hp2 : ∀ j ∈ l ++ [k], ∃ e, G.E[j]? = some e ∧ (e.1.1 < u ∨ (e.1.1 = u ∧ e.1.2 ≤ v)) := by
           intro j hj
           rcases List.mem_append.1 hj with hj | hj
           · obtain ⟨e, he, hep⟩ := hp j hj
             exact ⟨e, he, by omega⟩
           · rw [List.mem_singleton.1 hj]
             exact ⟨x, hx, by rw [hxe]; exact .inr ⟨rfl, Int.le_refl _⟩⟩
         split
         · exact readE_up hG n _ (u, v) _ hl2 hp2
         · split
           · refine ⟨hl2, fun j hj => ?_⟩
             obtain ⟨e, he, -⟩ := hp2 j hj
             exact (List.getElem?_eq_some_iff.1 he).1
           · exact ⟨List.Pairwise.nil, by simp⟩
     · exact ⟨List.Pairwise.nil, by simp⟩
theorem readT_up {G : Gr} (hG : G.Ok) (s : List UInt8) : (readT G s).1.Pairwise (· < ·) ∧ ∀ k ∈ (readT G s).1, k < G.E.length := by
 unfold readT
 split
 · exact ⟨List.Pairwise.nil, by simp⟩
 · split
   · exact readE_up hG _ _ _ _ List.Pairwise.nil (by simp)
   · exact ⟨List.Pairwise.nil, by simp⟩
theorem readT_elems {G : Gr} (hG : G.Ok) (s : List UInt8) : elemsI (setL (readT G s).1) = (readT G s).1.map fun (k : Nat) => (k : Int) := by
 have h := readT_up hG s
 have hm := hG.most
 exact elems_setL h.1 fun k hk => by have := h.2 k hk; omega
theorem digs_dec (u : Nat) (c : UInt8) (r : List UInt8) (hc : ¬ isDig c) : digs (Lib.decDigits u ++ c :: r) = Lib.decDigits u := by
 unfold digs
 rw [List.takeWhile_append_of_pos fun a ha => by simpa using dec_all u a ha, List.takeWhile_cons, if_neg (by simpa using hc), List.append_nil]
theorem numb_dec {u : Nat} (h : u ≤ 2147483648) : numb (Lib.decDigits u) = some (u : Int) := by
 refine numb_some ⟨(Lib.itoa_nonneg u).symm, by omega, by omega⟩
theorem endOf_text {u v : Nat} (huv : u < v) (hv : v ≤ 2147483648) (c : UInt8) (r : List UInt8) (hc : ¬ isDig c) : endOf (Lib.decDigits u ++ 45 :: (Lib.decDigits v ++ c :: r)) = some ((u : Int), (v : Int), c :: r) := by
 have h45 : ¬ isDig 45 := by unfold isDig; decide
 unfold endOf
 rw [digs_dec u 45 _ h45, numb_dec (by omega), List.drop_left]
 have e : (45 : UInt8).toNat = 45 := rfl
 simp only [e, if_true, digs_dec v c r hc, numb_dec hv, List.drop_left]
 rw [if_pos (by omega)]
theorem readE_text {G : Gr} (hG : G.Ok) : ∀ (m : List Nat) (a n : Nat) (l : List Nat) (p : Int × Int), (a :: m).Pairwise (· < ·) → (∀ k ∈ a :: m, k < G.E.length) → (∀ e, G.E[a]? = some e → p.1 < e.1.1 ∨ (e.1.1 = p.1 ∧ p.2 < e.1.2)) → m.length < n → readE G n (Lib.join ((a :: m).map G.endsAt) [32] ++ [125]) p l = (l ++ a :: m, 0)
 | m, a, 0, _, _, _, _, _, h => by omega
 | m, a, n + 1, l, p, hs, hl, hp, hn => by
   obtain ⟨e, he⟩ : ∃ e, G.E[a]? = some e := ⟨_, List.getElem?_eq_getElem (hl a List.mem_cons_self)⟩
   have hmem := List.mem_of_getElem? he
   obtain ⟨i1, i2, i3⟩ := hG.endsI e hmem
   obtain ⟨⟨u', v'⟩, th⟩ := e
   simp only at i1 i2 i3
   obtain ⟨u, rfl⟩ : ∃ u : Nat, u' = u := ⟨u'.toNat, by omega⟩
   obtain ⟨v, rfl⟩ : ∃ v : Nat, v' = v := ⟨v'.toNat, by omega⟩
   have hidx := edgB_at hG i2 he
   have hends : G.endsAt a = Lib.decDigits u ++ 45 :: Lib.decDigits v := by
     unfold Gr.endsAt
     rw [he]
     show Lib.itoa (u : Int) ++ 45 :: Lib.itoa (v : Int) = _
     rw [Lib.itoa_nonneg, Lib.itoa_nonneg]
   have hbe : behB (u : Int) (v : Int) p = true := decide_eq_true (by have := hp _ he; simpa using this)
   cases m with
   | nil =>
     have ht : Lib.join ([a].map G.endsAt) [32] ++ [125] = Lib.decDigits u ++ 45 :: (Lib.decDigits v ++ 125 :: []) := by
       rw [List.map_cons, List.map_nil, join_one, hends]
       simp
     rw [ht, readE_some (endOf_text (by omega) (by omega) 125 [] (by unfold isDig; decide)), if_pos hbe, if_neg (by rw [hidx]; omega), if_neg (by rw [cutB_cons, if_neg (by decide)]; simp), if_pos rfl, hidx]
     rfl
   | cons b m =>
     have ht : Lib.join ((a :: b :: m).map G.endsAt) [32] ++ [125] = Lib.decDigits u ++ 45 :: (Lib.decDigits v ++ 32 :: (Lib.join ((b :: m).map G.endsAt) [32] ++ [125])) := by
       rw [List.map_cons, List.map_cons, join_two, hends, ← List.map_cons]
       simp
     rw [List.pairwise_cons] at hs
     rw [ht, readE_some (endOf_text (by omega) (by omega) 32 _ (by unfold isDig; decide)), if_pos hbe, if_neg (by rw [hidx]; omega), cutB_cons, if_pos rfl, if_pos rfl, hidx, Int.toNat_natCast,
       readE_text hG m b n (l ++ [a]) ((u : Int), (v : Int)) hs.2 (fun k hk => hl k (List.mem_cons_of_mem _ hk)) (fun e2 he2 => ?_) (by simp at hn; omega)]
     · simp
     · have hab := hs.1 b List.mem_cons_self
       obtain ⟨ha1, ha2⟩ := List.getElem?_eq_some_iff.1 he
       obtain ⟨hb1, hb2⟩ := List.getElem?_eq_some_iff.1 he2
       have := List.pairwise_iff_getElem.1 hG.sE a b ha1 hb1 hab
       rw [ha2, hb2] at this
       have h3 : (u : Int) < e2.1.1 ∨ ((u : Int) = e2.1.1 ∧ (v : Int) < e2.1.2) := by simpa [ltE] using this
       show (u : Int) < e2.1.1 ∨ (e2.1.1 = (u : Int) ∧ (v : Int) < e2.1.2)
       omega
theorem join_ge (f : Nat → List UInt8) : ∀ (m : List Nat) (a : Nat), m.length ≤ (Lib.join ((a :: m).map f) [32]).length
 | [], a => by simp
 | b :: m, a => by
   have ih := join_ge f m b
   rw [List.map_cons, List.map_cons, join_two, ← List.map_cons]
   simp at ih ⊢
   omega
theorem readT_ends {G : Gr} (hG : G.Ok) {S : Nat} (hin : ∀ j ∈ elems S, j < G.E.length) : readT G (G.endsText S) = (elems S, 0) := by
 unfold Gr.endsText readT
 cases hm : elems S with
 | nil => rw [if_pos (by simp [Lib.join, List.intercalate])]
 | cons a m =>
   rw [hm] at hin
   have hs := elems_sorted S
   rw [hm] at hs
   have hne : ¬ [123] ++ Lib.join ((a :: m).map G.endsAt) [32] ++ [125] = [123, 125] := by
     intro h
     have h2 := readE_text hG m a (m.length + 1) [] (-1, -1) hs hin (fun e he => by have := (hG.endsI e (List.mem_of_getElem? he)).1; exact .inl (by show (-1 : Int) < _; omega)) (by omega)
     have h3 : Lib.join ((a :: m).map G.endsAt) [32] ++ [125] = [125] := by
       have := List.cons.inj (h : 123 :: (Lib.join ((a :: m).map G.endsAt) [32] ++ [125]) = 123 :: [125])
       exact this.2
     rw [h3] at h2
     have h4 : endOf [125] = none := by
       have h5 : numb (digs [125]) = none := by
         have : digs [125] = [] := by unfold digs; rw [List.takeWhile_cons, if_neg (by unfold isDig; decide)]
         rw [this]
         refine numb_none fun n hn => ?_
         rcases numOf_look hn with ⟨k, _, _, e⟩ | ⟨k, _, _, _, e⟩
         · exact dec_ne k e.symm
         · cases e
       unfold endOf
       rw [h5]
     rw [readE_none h4] at h2
     cases h2
   rw [if_neg hne]
   have hc : cutB 123 ([123] ++ Lib.join ((a :: m).map G.endsAt) [32] ++ [125]) = (Lib.join ((a :: m).map G.endsAt) [32] ++ [125], true) := rfl
   rw [hc, if_pos rfl]
   exact readE_text hG m a _ [] (-1, -1) hs hin (fun e he => by have := (hG.endsI e (List.mem_of_getElem? he)).1; exact .inl (by show (-1 : Int) < _; omega)) (by have := join_ge G.endsAt m a; have l1 : ([123] : List UInt8).length = 1 := rfl; rw [List.length_append, List.length_append]; omega)
theorem endsText_len {G : Gr} (hG : G.Ok) (S : Nat) : (G.endsText S).length ≤ 100000 := by
 have hb : ∀ l ∈ (elems S).map G.endsAt, l.length ≤ 50 := by
   intro l hl
   obtain ⟨i, -, rfl⟩ := List.mem_map.1 hl
   unfold Gr.endsAt endsB
   cases h : G.E[i]? with
   | none =>
     have := Lib.itoa_length_le 0 (by omega) (by omega)
     simp only [Option.getD_none, List.length_append, List.length_cons]
     omega
   | some x =>
     obtain ⟨h1, h2, h3⟩ := hG.endsI x (List.mem_of_getElem? h)
     have a1 := Lib.itoa_length_le x.1.1 (by omega) (by omega)
     have a2 := Lib.itoa_length_le x.1.2 (by omega) (by omega)
     simp only [Option.getD_some, List.length_append, List.length_cons]
     omega
 have h1 := join_len hb [32]
 have h2 := elems_len2 S
 rw [List.length_map] at h1
 unfold Gr.endsText
 simp only [List.length_append, List.length_cons, List.length_nil] at h1 ⊢
 omega
end Go.Pal
namespace Go.Proofs.YtglnhnjmelilmaaGreatDoor
open Go Go.RowKit Go.Pal
attribute [local go_sem] Oper.semAt_some
theorem pedge_nil (s : List UInt8) (w : World) : Calls Tryz.prog 40 #[.pointer none, .string ⟨s.toArray⟩] w fun e w' => e = .returned (.tuple #[.agg (words 0), .int .i64 1]) ∧ Below w.heap.size w w' := by
 go_enter Tryz.func40, Tryz.ntmps40
 go_wp2_with fail
 refine ret_c2 w.heap.size (words 0) rfl Tryz.isAgg79 Tryz.sizeOf79 rfl rfl (by simp [go_sem]) (by simp only [words_size]) ⟨rfl, ?_⟩
 exact (Below.refl _ w).alloc (Nat.le_refl _) _
theorem edgeSet_nil (S : Nat) (w : World) : Calls Tryz.prog 37 #[.pointer none, .agg (words S)] w fun e w' => e = .returned (.tuple #[.string ⟨#[]⟩, .int .i64 1]) ∧ Below w.heap.size w w' := by
 go_enter Tryz.func37, Tryz.ntmps37
 go_wp2_with fail
 go_ret2
 exact ⟨rfl, (Below.refl _ w).alloc (Nat.le_refl _) _⟩
set_option maxRecDepth 10000 in
set_option maxHeartbeats 4000000 in
theorem esLaw_any (es : List Ed) (hes : ∀ e ∈ es, e.Wf) (S : Nat) (hS : IsSet S) (t : List UInt8) (vl : Value) (w : World) (hl : Rd edC 5 w.heap.size w vl es) (hc : ∃ a n c, vl = .slice a n c ∧ n ≤ c ∧ c ≤ 9223372036854775807) (hT : Tab3 w) (hE : Errs w) :
   Calls Tryz.prog 9 #[vl, .agg (words S), .string ⟨t.toArray⟩] w fun e w' => e = .returned (.bool true) ∧ Below w.heap.size w w' := by
 have HFe := Lib.hid fun W (hW : Below w.heap.size w W) => few_any es hes vl W ((hl.below hW (Nat.le_refl _)).mono hW.size) hc
 have hGk := fewG_ok hes
 obtain ⟨G, hG⟩ : ∃ G, G = fewG es := ⟨_, rfl⟩
 rw [← hG] at HFe hGk
 have HG := Lib.hid hGk
 have HT := Lib.hid fun W (h : Below w.heap.size w W) => hT.on h
 have HEr := Lib.hid fun W (h : Below w.heap.size w W) => hE.on h
 have HSet := Lib.hid hS
 obtain ⟨al, nl, cl, rfl, -, -⟩ := hc
 obtain ⟨few1, hfew1⟩ : ∃ few, few = decide (es.length ≤ 40) := ⟨_, rfl⟩
 rw [← hfew1] at HFe
 clear hl hes hT hE hG hGk hfew1 hS
 go_enter Tryz.func9, Tryz.ntmps9
 go_wp2_with fail
 generalize hW0 : World.alloc w _ = W0
 obtain ⟨hr0, hb0⟩ := alloc_row hW0
 have hs0 := row?_lt hr0
 clear hW0
 refine (HFe.out W0 hb0).mono ?_
 rintro r w1 ⟨g, bV, bE, vV, vE, rfl, hG1, hRG, -, hb1⟩
 have HG1 := Lib.hid hG1
 have HB1 := Lib.hid (hb0.trans (hb1.mono hb0.size))
 have HRG := Lib.hid hRG
 have hr4 := (row?_below hb1 hs0).trans hr0
 have hs1 := hb1.size
 obtain ⟨aV, cV, hvV⟩ := hRG.1.sl
 obtain ⟨aE, cE, hvE⟩ := hRG.2.sl
 subst hvV hvE
 obtain ⟨LV, hLV⟩ : ∃ n, n = G.V.length := ⟨_, rfl⟩
 obtain ⟨LE, hLE⟩ : ∃ n, n = G.E.length := ⟨_, rfl⟩
 rw [← hLV, ← hLE] at HRG ⊢
 have HLE := Lib.hid hLE
 clear hG1 hRG hb1 HFe hLV hLE hr0 hb0
 go_wp2_with fail
 generalize hW1 : World.alloc w1 _ = W1
 obtain ⟨hra, hba⟩ := alloc_row hW1
 have hsa := row?_lt hra
 clear hW1
 refine (known06_any W1 (HT.out W1 (HB1.out.trans (hba.mono HB1.out.size)))).mono ?_
 rintro r w3 ⟨rfl, hb3⟩
 have hb13 := hba.trans (hb3.mono hba.size)
 have HB3 := Lib.hid (HB1.out.trans (hb13.mono HB1.out.size))
 have HG3 := Lib.hid (HG1.out.below hb13)
 have HRG3 := Lib.hid (HRG.out.below hb13)
 have r4 := (row?_below hb13 (by omega)).trans hr4
 have r8 := (row?_below hb3 hsa).trans hra
 have l4 : w.heap.size < w3.heap.size := by have := hb13.size; omega
 have l8 : w1.heap.size < w3.heap.size := by have := hb3.size; omega
 clear hba hb3 hb13 hra hr4 hsa HG1 HRG HB1
 by_cases hlen : 500 < t.length
 · have d1 : decide ((500 : Int) < (t.length : Int)) = true := decide_eq_true (by omega)
   cases few1
   all_goals
     go_wp2_with fail
     refine (known06_any _ (HT.out _ HB3.out)).mono ?_
     rintro r w4 ⟨rfl, hb4⟩
     have HB4 := Lib.hid (HB3.out.trans (hb4.mono HB3.out.size))
     clear hb4
     go_wp2_with fail
     go_ret
     exact ⟨rfl, HB4.out⟩
 have d1 : decide ((500 : Int) < (t.length : Int)) = false := decide_eq_false (by omega)
 have d2 : t.length ≤ 500 := by omega
 clear hlen
 cases few1 with
 | false =>
   go_wp2_with fail
   refine (known06_any _ (HT.out _ HB3.out)).mono ?_
   rintro r w4 ⟨rfl, hb4⟩
   have HB4 := Lib.hid (HB3.out.trans (hb4.mono HB3.out.size))
   clear hb4
   go_wp2_with fail
   go_ret
   exact ⟨rfl, HB4.out⟩
 | true =>
 go_wp2_with fail
 refine (edgeSet_any g bV bE G HG.out S HSet.out w3 HG3.out (HT.out _ HB3.out).2 (HT.out _ HB3.out).1.1 (HT.out _ HB3.out).1.2).mono ?_
 rintro r w4 ⟨rfl, hb4⟩
 have HB4 := Lib.hid (HB3.out.trans (hb4.mono HB3.out.size))
 have HG4 := Lib.hid (HG3.out.below hb4)
 have HRG4 := Lib.hid (HRG3.out.below hb4)
 replace r4 := (row?_below hb4 l4).trans r4
 replace r8 := (row?_below hb4 l8).trans r8
 replace l4 : w.heap.size < w4.heap.size := Nat.lt_of_lt_of_le l4 hb4.size
 replace l8 : w1.heap.size < w4.heap.size := Nat.lt_of_lt_of_le l8 hb4.size
 have HRab := Lib.hid fun W (hW : Below w4.heap.size w4 W) => show row? W w1.heap.size = some #[.slice aV LV cV, .slice aE LE cE] ∧ row? W w.heap.size = some (words S) from
   ⟨(row?_below hW l8).trans r8, (row?_below hW l4).trans r4⟩
 clear hb4 HB3 HG3 HRG3
 rw [← HLE.out]
 obtain ⟨q, hq⟩ : ∃ q, q = sDiff S (belS LE) := ⟨_, rfl⟩
 rw [← hq]
 have HQ := Lib.hid hq
 clear hq
 obtain ⟨T, hT⟩ : ∃ T, T = G.endsText S := ⟨_, rfl⟩
 rw [← hT]
 have hTl : T.length ≤ 100000 := by rw [hT]; exact endsText_len HG.out S
 have HTx := Lib.hid hT
 clear hT
 by_cases hq0 : q = 0
 · rw [if_pos hq0]
   have hin : ∀ j ∈ elems S, j < LE := (sDiff_none HSet.out).1 (HQ.out.symm.trans hq0)
   have HRT := Lib.hid (show readT G T = (elems S, 0) from by rw [HTx.out]; exact readT_ends HG.out (by rw [← HLE.out]; exact hin))
   have HEn := Lib.hid fun vS W (hg : RefG W (.slice aV LV cV) (.slice aE LE cE) G) (hs : RdL W vS (elemsI S)) => rends_any G HG.out S HSet.out (.slice aV LV cV) (.slice aE LE cE) vS W hg hs
   rw [← HLE.out, ← HTx.out, ← HQ.out, hq0, if_pos rfl] at HEn
   clear hin HQ hq0
   go_wp2_with fail
   refine wp_region_mix (fun W => Below w4.heap.size w4 W) 8 [(0, true), (1, true), (2, false), (3, false), (4, true), (5, true), (6, true), (7, true)] (by kernel_rfl) (by kernel_rfl) (Below.refl _ _).drew ?_
   repeat (apply wpPlan_still rfl rfl; (intro w hw; obtain ⟨k1, k2⟩ := HRab.out _ hw; clear hw; go_simp; (try go_ints); (first | with_reducible rfl | (go_simp; with_reducible rfl))); (intro K hK; go_simp; (try go_ints); refine hK _ _ ?_; clear hK K))
   apply wpPlan_act rfl rfl
   intro K hK
   unfold Oper.wp
   go_simp
   refine (l01To_any S w4.drew).mono ?_
   rintro r w5 ⟨vx, rfl, hOx, hb5⟩
   have HB5 := Lib.hid (show Below w4.heap.size w4 w5 from (Below.refl _ w4).drew.trans hb5)
   have HOx := Lib.hid hOx.rdl
   refine hK _ _ HB5.out ?_
   clear hK K hOx hb5
   apply wpPlan_act rfl rfl
   intro K hK
   unfold Oper.wp
   go_simp
   refine (HEn.out _ w5 (HRG4.out.below HB5.out) HOx.out).mono ?_
   rintro r w6 ⟨rfl, hb6⟩
   have HB6 := Lib.hid (HB5.out.trans (hb6.mono HB5.out.size))
   refine hK _ _ HB6.out ?_
   clear hK K hb6 HEn
   repeat (apply wpPlan_still rfl rfl; (intro w hw; clear hw; go_simp; (try go_ints); (first | with_reducible rfl | (go_simp; with_reducible rfl))); (intro K hK; go_simp; (try go_ints); refine hK _ _ ?_; clear hK K))
   refine wpPlan_nil ?_
   simp only [List.drop_succ_cons, List.drop_zero]
   go_wp2_with fail
   refine (pedge_any g bV bE G HG.out T (by omega) w6 (HG4.out.below HB6.out) (HT.out _ (HB4.out.trans (HB6.out.mono HB4.out.size))).2 (HEr.out _ (HB4.out.trans (HB6.out.mono HB4.out.size)))).mono ?_
   rintro r w7 ⟨rfl, hb7⟩
   rw [HRT.out, setL_elems HSet.out]
   have HB7 := Lib.hid (HB6.out.trans (hb7.mono HB6.out.size))
   have r47 := (HRab.out w7 HB7.out).2
   have l47 : w.heap.size < w7.heap.size := Nat.lt_of_lt_of_le l4 HB7.out.size
   clear hb7
   have hqq : eqW S S = true := by rw [eqW_iff HSet.out HSet.out]; exact decide_eq_true rfl
   go_wp2_with fail
   generalize hWt : World.alloc w7 _ = Wt
   obtain ⟨-, hbt⟩ := alloc_row hWt
   have HBt := Lib.hid (HB7.out.trans (hbt.mono HB7.out.size))
   clear hWt hbt
   refine (pedge_any g bV bE G HG.out t (by omega) Wt (HG4.out.below HBt.out) (HT.out _ (HB4.out.trans (HBt.out.mono HB4.out.size))).2 (HEr.out _ (HB4.out.trans (HBt.out.mono HB4.out.size)))).mono ?_
   rintro r w8 ⟨rfl, hb8⟩
   obtain ⟨L, e0, hLe⟩ : ∃ L e0, readT G t = (L, e0) := ⟨_, _, rfl⟩
   have HLx := Lib.hid (show elemsI (setL L) = L.map (fun (k : Nat) => (k : Int)) from by have := readT_elems HG.out t; rw [hLe] at this; exact this)
   have HRE := Lib.hid fun W (hg : RefG W (.slice aV LV cV) (.slice aE LE cE) G) => rread_any G HG.out t (by omega) _ _ W hg
   rw [hLe] at HRE ⊢
   simp only at HRE ⊢
   have HB8 := Lib.hid (HBt.out.trans (hb8.mono HBt.out.size))
   obtain ⟨r88, r48⟩ := HRab.out w8 HB8.out
   have l88 : w1.heap.size < w8.heap.size := Nat.lt_of_lt_of_le l8 HB8.out.size
   have l48 : w.heap.size < w8.heap.size := Nat.lt_of_lt_of_le l4 HB8.out.size
   clear hb8 hLe r4 r8 HBt
   go_wp2_with fail
   generalize hW8 : World.alloc w8 _ = W8
   obtain ⟨h16, hb8⟩ := alloc_row hW8
   have hs8 := row?_lt h16
   have HB9 := Lib.hid (HB8.out.trans (hb8.mono HB8.out.size))
   clear hW8 r88 r48 hb8
   refine (HRE.out W8 (HRG4.out.below HB9.out)).mono ?_
   rintro r w9 ⟨v9, rfl, hv9, hb9⟩
   rw [← HLx.out] at hv9
   have HB10 := Lib.hid (HB9.out.trans (hb9.mono HB9.out.size))
   have g16 := (row?_below hb9 hs8).trans h16
   have s16 : w8.heap.size < w9.heap.size := Nat.lt_of_lt_of_le hs8 hb9.size
   obtain ⟨r89, r49⟩ := HRab.out w9 HB10.out
   have HV9 := Lib.hid hv9
   clear hb9 hv9 h16 HRE
   go_wp2_with fail
   refine (edgeSet_nil S w9).mono ?_
   rintro r w10 ⟨rfl, hb10⟩
   have HB11 := Lib.hid (HB10.out.trans (hb10.mono HB10.out.size))
   replace g16 := (row?_below hb10 s16).trans g16
   replace s16 : w8.heap.size < w10.heap.size := Nat.lt_of_lt_of_le s16 hb10.size
   have HV10 := Lib.hid (HV9.out.below hb10)
   clear hb10 r89 r49 HV9
   go_wp2_with fail
   refine (pedge_nil t w10).mono ?_
   rintro r w11 ⟨rfl, hb11⟩
   have HB12 := Lib.hid (HB11.out.trans (hb11.mono HB11.out.size))
   replace g16 := (row?_below hb11 s16).trans g16
   replace s16 : w8.heap.size < w11.heap.size := Nat.lt_of_lt_of_le s16 hb11.size
   have HV11 := Lib.hid (HV10.out.below hb11)
   clear hb11 HV10
   go_wp2_with fail
   generalize hW12 : World.alloc w11 _ = W12
   obtain ⟨-, hb12⟩ := alloc_row hW12
   have HB13 := Lib.hid (HB12.out.trans (hb12.mono HB12.out.size))
   have HV12 := Lib.hid (HV11.out.below hb12)
   clear hb12 hW12 g16 s16 HV11
   refine (l01To_any (setL L) W12).mono ?_
   rintro r w13 ⟨vx, rfl, hOx, hb13⟩
   have HB14 := Lib.hid (HB13.out.trans (hb13.mono HB13.out.size))
   have HX13 := Lib.hid hOx.rdl
   have HV13 := Lib.hid (HV12.out.below hb13)
   clear hOx hb13 HV12
   go_wp2_with fail
   refine (rsame_same (elemsI (setL L)) _ _ w13 HX13.out HV13.out (by have := elemsI_length (setL L); omega)).mono ?_
   rintro r w14 ⟨rfl, hb14⟩
   have HB15 := Lib.hid (HB14.out.trans (hb14.mono HB14.out.size))
   clear hb14
   go_wp2_with fail
   go_ret
   exact ⟨rfl, HB4.out.trans (HB15.out.mono HB4.out.size)⟩
 · rw [if_neg hq0]
   have HEn := Lib.hid fun vS W (hg : RefG W (.slice aV LV cV) (.slice aE LE cE) G) (hs : RdL W vS (elemsI S)) => rends_any G HG.out S HSet.out (.slice aV LV cV) (.slice aE LE cE) vS W hg hs
   rw [← HLE.out, ← HTx.out, ← HQ.out, if_neg hq0] at HEn
   clear HQ hq0
   go_wp2_with fail
   refine wp_region_mix (fun W => Below w4.heap.size w4 W) 8 [(0, true), (1, true), (2, false), (3, false), (4, true), (5, true), (6, true), (7, true)] (by kernel_rfl) (by kernel_rfl) (Below.refl _ _).drew ?_
   repeat (apply wpPlan_still rfl rfl; (intro w hw; obtain ⟨k1, k2⟩ := HRab.out _ hw; clear hw; go_simp; (try go_ints); (first | with_reducible rfl | (go_simp; with_reducible rfl))); (intro K hK; go_simp; (try go_ints); refine hK _ _ ?_; clear hK K))
   apply wpPlan_act rfl rfl
   intro K hK
   unfold Oper.wp
   go_simp
   refine (l01To_any S w4.drew).mono ?_
   rintro r w5 ⟨vx, rfl, hOx, hb5⟩
   have HB5 := Lib.hid (show Below w4.heap.size w4 w5 from (Below.refl _ w4).drew.trans hb5)
   have HOx := Lib.hid hOx.rdl
   refine hK _ _ HB5.out ?_
   clear hK K hOx hb5
   apply wpPlan_act rfl rfl
   intro K hK
   unfold Oper.wp
   go_simp
   refine (HEn.out _ w5 (HRG4.out.below HB5.out) HOx.out).mono ?_
   rintro r w6 ⟨rfl, hb6⟩
   have HB6 := Lib.hid (HB5.out.trans (hb6.mono HB5.out.size))
   refine hK _ _ HB6.out ?_
   clear hK K hb6 HEn
   repeat (apply wpPlan_still rfl rfl; (intro w hw; clear hw; go_simp; (try go_ints); (first | with_reducible rfl | (go_simp; with_reducible rfl))); (intro K hK; go_simp; (try go_ints); refine hK _ _ ?_; clear hK K))
   refine wpPlan_nil ?_
   simp only [List.drop_succ_cons, List.drop_zero]
   go_wp2_with fail
   have HBt := Lib.hid HB6.out
   refine (pedge_any g bV bE G HG.out t (by omega) w6 (HG4.out.below HBt.out) (HT.out _ (HB4.out.trans (HBt.out.mono HB4.out.size))).2 (HEr.out _ (HB4.out.trans (HBt.out.mono HB4.out.size)))).mono ?_
   rintro r w8 ⟨rfl, hb8⟩
   obtain ⟨L, e0, hLe⟩ : ∃ L e0, readT G t = (L, e0) := ⟨_, _, rfl⟩
   have HLx := Lib.hid (show elemsI (setL L) = L.map (fun (k : Nat) => (k : Int)) from by have := readT_elems HG.out t; rw [hLe] at this; exact this)
   have HRE := Lib.hid fun W (hg : RefG W (.slice aV LV cV) (.slice aE LE cE) G) => rread_any G HG.out t (by omega) _ _ W hg
   rw [hLe] at HRE ⊢
   simp only at HRE ⊢
   have HB8 := Lib.hid (HBt.out.trans (hb8.mono HBt.out.size))
   obtain ⟨r88, r48⟩ := HRab.out w8 HB8.out
   have l88 : w1.heap.size < w8.heap.size := Nat.lt_of_lt_of_le l8 HB8.out.size
   have l48 : w.heap.size < w8.heap.size := Nat.lt_of_lt_of_le l4 HB8.out.size
   clear hb8 hLe r4 r8 HBt
   go_wp2_with fail
   generalize hW8 : World.alloc w8 _ = W8
   obtain ⟨h16, hb8⟩ := alloc_row hW8
   have hs8 := row?_lt h16
   have HB9 := Lib.hid (HB8.out.trans (hb8.mono HB8.out.size))
   clear hW8 r88 r48 hb8
   refine (HRE.out W8 (HRG4.out.below HB9.out)).mono ?_
   rintro r w9 ⟨v9, rfl, hv9, hb9⟩
   rw [← HLx.out] at hv9
   have HB10 := Lib.hid (HB9.out.trans (hb9.mono HB9.out.size))
   have g16 := (row?_below hb9 hs8).trans h16
   have s16 : w8.heap.size < w9.heap.size := Nat.lt_of_lt_of_le hs8 hb9.size
   obtain ⟨r89, r49⟩ := HRab.out w9 HB10.out
   have HV9 := Lib.hid hv9
   clear hb9 hv9 h16 HRE
   go_wp2_with fail
   refine (edgeSet_nil S w9).mono ?_
   rintro r w10 ⟨rfl, hb10⟩
   have HB11 := Lib.hid (HB10.out.trans (hb10.mono HB10.out.size))
   replace g16 := (row?_below hb10 s16).trans g16
   replace s16 : w8.heap.size < w10.heap.size := Nat.lt_of_lt_of_le s16 hb10.size
   have HV10 := Lib.hid (HV9.out.below hb10)
   clear hb10 r89 r49 HV9
   go_wp2_with fail
   refine (pedge_nil t w10).mono ?_
   rintro r w11 ⟨rfl, hb11⟩
   have HB12 := Lib.hid (HB11.out.trans (hb11.mono HB11.out.size))
   replace g16 := (row?_below hb11 s16).trans g16
   replace s16 : w8.heap.size < w11.heap.size := Nat.lt_of_lt_of_le s16 hb11.size
   have HV11 := Lib.hid (HV10.out.below hb11)
   clear hb11 HV10
   go_wp2_with fail
   generalize hW12 : World.alloc w11 _ = W12
   obtain ⟨-, hb12⟩ := alloc_row hW12
   have HB13 := Lib.hid (HB12.out.trans (hb12.mono HB12.out.size))
   have HV12 := Lib.hid (HV11.out.below hb12)
   clear hb12 hW12 g16 s16 HV11
   refine (l01To_any (setL L) W12).mono ?_
   rintro r w13 ⟨vx, rfl, hOx, hb13⟩
   have HB14 := Lib.hid (HB13.out.trans (hb13.mono HB13.out.size))
   have HX13 := Lib.hid hOx.rdl
   have HV13 := Lib.hid (HV12.out.below hb13)
   clear hOx hb13 HV12
   go_wp2_with fail
   refine (rsame_same (elemsI (setL L)) _ _ w13 HX13.out HV13.out (by have := elemsI_length (setL L); omega)).mono ?_
   rintro r w14 ⟨rfl, hb14⟩
   have HB15 := Lib.hid (HB14.out.trans (hb14.mono HB14.out.size))
   clear hb14
   go_wp2_with fail
   go_ret
   exact ⟨rfl, HB4.out.trans (HB15.out.mono HB4.out.size)⟩
end Go.Proofs.YtglnhnjmelilmaaGreatDoor
