/-
  Walks: bags compared; trees of bags compared; frames compared.
  The reference's readers of the clusters agree with the plain model's. No program.
  Walk of the statement's Made.
-/
import Derived.Test.YtoiefehkfhkhbaaGreatDoorQRefE
import Derived.Test.YtoiefehkfhkhbaaGreatDoorQTop19
import Derived.Test.YtoiefehkfhkhbaaGreatDoorQRV
namespace Go.Proofs.YtoiefehkfhkhbaaGreatDoor
open Go Go.RowKit Go.Pal Go.Shelf

theorem part_bag0 (b : Bg) (w : World) : (part 3 (bagA b) 0).run Tryz.prog w = .ok (.int .i64 b.1) w := by
  have h := bagA_zero b
  simp [part, Sem.run_bind, Tryz.isAgg3, h]
theorem part_bag1 (b : Bg) (w : World) : (part 59 (bagA b) 1).run Tryz.prog w = .ok (.agg (words b.2)) w := by
  have h : (bagA b).extract 1 (1 + 16) = words b.2 := bagA_extract b
  simp [part, Sem.run_bind, Tryz.isAgg59, Tryz.sizeOf59, h]
theorem eqBag (x y : Bg) (w : World) : (Op.equalIn 10000 62 (.agg (bagA x)) (.agg (bagA y))).run Tryz.prog w = .ok (decide (x.1 = y.1) && eqW x.2 y.2) w := by
  have hst : Tryz.prog.stoodInHeld 62 = false := by kernel_rfl
  have h1 : ∀ (p q : Int) w, (Op.equalIn 9999 3 (.int .i64 p) (.int .i64 q)).run Tryz.prog w = .ok (p == q) w := fun p q w => run_equalIn_int (P := Tryz.prog) w 9998 3 .i64 .i64 p q Tryz.underlying3
  have h2 : ∀ (S R : Nat) w, (Op.equalIn 9999 59 (.agg (words S)) (.agg (words R))).run Tryz.prog w = .ok (eqW S R) w := fun S R w => run_equalIn_ints 9997 59 57 .u64 .u64 16 (words S) (words R) (fun i => (wd S i : Int)) (fun i => (wd R i : Int)) w Tryz.underlying59 Tryz.underlying57 Tryz.sizeOf57 Tryz.isAgg57 (fun _ hi => words_get S hi) (fun _ hi => words_get R hi)
  have hpr : ∀ w, (program).run Tryz.prog w = .ok Tryz.prog w := fun _ => rfl
  rw [show (10000 : Nat) = 9999 + 1 from rfl, Op.equalIn]
  simp only [Sem.run_bind, run_underlying Tryz.underlying62, Result.andThen_ok, hpr, hst, Bool.false_eq_true, if_false, List.forIn_toArray, List.forIn_cons, List.forIn_nil]
  obtain ⟨p, S⟩ := x
  obtain ⟨q, R⟩ := y
  cases e1 : (p == q) with
  | true =>
    have e3 : p = q := by simpa using e1
    cases e2 : eqW S R <;> simp [Sem.run_bind, part_bag0, part_bag1, h1, h2, e2, e3]
  | false =>
    have e3 : ¬ p = q := by simpa using e1
    simp [Sem.run_bind, part_bag0, h1, e1, e3]

theorem guardBag : Tryz.prog.eqGuardType Tryz.prog.depth 62 = false := by kernel_rfl
theorem eqW_self (S : Nat) : eqW S S = true := by unfold eqW; simp

theorem tparent_out (gt gf : Nat) (T : List Bg) (t : Tr) (fl : List TNd) (w : World) (h : TtOk w gt gf T t fl) (i : Int) (hi : ¬ (0 ≤ i ∧ i < (fl.length : Int))) :
    Calls Tryz.prog 21 #[.pointer (some ⟨gt, 0, none⟩), .int .i64 i] w fun e w' => e = .returned (.int .i64 (-1)) ∧ w' = w := by
  have hv := tvalid_any gt gf T t fl w h i
  have hin : (decide (0 ≤ i) && decide (i < (fl.length : Int))) = false := by
    cases e : (decide (0 ≤ i) && decide (i < (fl.length : Int))) with
    | false => rfl
    | true =>
      simp only [Bool.and_eq_true, decide_eq_true_eq] at e
      exact absurd e hi
  rw [hin] at hv
  have HV := Lib.hid hv
  clear hv hin h hi
  go_enter Tryz.func21, Tryz.ntmps21
  go_wp2_with fail
  refine HV.out.mono ?_
  rintro e w1 ⟨rfl, rfl⟩
  go_wp2
  go_ret
  exact ⟨rfl, rfl⟩
set_option maxRecDepth 10000 in
theorem tnode_out (gt gf : Nat) (T : List Bg) (t : Tr) (fl : List TNd) (w : World) (h : TtOk w gt gf T t fl) (i : Int) (hi : ¬ (0 ≤ i ∧ i < (fl.length : Int))) :
    Calls Tryz.prog 18 #[.pointer (some ⟨gt, 0, none⟩), .int .i64 i] w fun e w' => e = .returned (.tuple #[.agg tn0.cells, .bool false]) ∧ Below w.heap.size w w' := by
  have hb0 := (Below.refl w.heap.size w).alloc (Nat.le_refl _) (.cells tn0.cells 65)
  have hv := tvalid_any gt gf T t fl _ (h.below hb0) i
  have hin : (decide (0 ≤ i) && decide (i < (fl.length : Int))) = false := by
    cases e : (decide (0 ≤ i) && decide (i < (fl.length : Int))) with
    | false => rfl
    | true =>
      simp only [Bool.and_eq_true, decide_eq_true_eq] at e
      exact absurd e hi
  rw [hin] at hv
  have HV := Lib.hid hv
  have HB0 := Lib.hid hb0
  clear hv hin h hi hb0
  go_enter Tryz.func18, Tryz.ntmps18
  go_wp2_with fail
  refine HV.out.mono ?_
  rintro e w1 ⟨rfl, rfl⟩
  have hone := TN.allOne tn0 ⟨_, _, _, rfl⟩
  go_wp2_with fail
  refine ret_row2 _ tn0.cells rfl Tryz.isAgg65 Tryz.sizeOf65 rfl rfl (row?_alloc_at _ _ _ _ rfl) (TN.cells_size _) ?_
  exact ⟨rfl, HB0.out⟩
end Go.Proofs.YtoiefehkfhkhbaaGreatDoor
namespace Go.Pal
open Go Go.RowKit

theorem upR_eq (c : Ct) (i : Nat) : upR (c.flat 0) (i : Int) = upsTo (c.flat 0) (c.flat 0).length i := by
  have hmem : ∀ x : TNd, decide ((i : Int) ∈ x.kids.map fun j : Nat => (j : Int)) = decide (i ∈ x.kids) := fun x => by
    rw [Bool.eq_iff_iff, decide_eq_true_eq, decide_eq_true_eq, List.mem_map]
    exact ⟨fun ⟨a, h, e⟩ => by rwa [show i = a by omega], fun h => ⟨i, h, rfl⟩⟩
  unfold upR
  by_cases h : ∃ (j : Nat) (y : TNd), (c.flat 0)[j]? = some y ∧ i ∈ y.kids
  · obtain ⟨j, y, hy, hi⟩ := h
    have hjl := (List.getElem?_eq_some_iff.1 hy).1
    rw [upsTo_some hy hi _ hjl fun k x _ hx hix => (Ct.flat_uniq 0 c i k j x y hx hy hix hi).1]
    rw [firstI_some hy (by rw [hmem]; exact decide_eq_true hi) fun k x hk hx => by
      rw [hmem]
      exact decide_eq_false fun hix => by have := (Ct.flat_uniq 0 c i k j x y hx hy hix hi).1; omega]
    simp
  · rw [upsTo_none _ fun k x _ hx hix => h ⟨k, x, hx, hix⟩]
    exact firstI_none fun x hx => by
      obtain ⟨k, hk⟩ := List.mem_iff_getElem?.1 hx
      rw [hmem]
      exact decide_eq_false fun hix => h ⟨k, x, hk, hix⟩

/-- The bag of a leaf. -/
def leafB (x : TNd) : Option Nat := if x.kind = 0 then some x.bag else none
theorem filterMap_uniq {l : List TNd} : ∀ {i j : Nat} {x y : TNd} {b : Nat}, (l.filterMap leafB).Nodup → l[i]? = some x → l[j]? = some y → leafB x = some b → leafB y = some b → i = j := by
  induction l with
  | nil => intro i j x y b _ h; simp at h
  | cons z zs ih =>
    intro i j x y b hn hx hy hbx hby
    have hmem : ∀ {k : Nat} {u : TNd}, zs[k]? = some u → leafB u = some b → b ∈ zs.filterMap leafB := fun h hb => List.mem_filterMap.2 ⟨_, List.mem_of_getElem? h, hb⟩
    have hn2 : (zs.filterMap leafB).Nodup := by
      rw [List.filterMap_cons] at hn
      split at hn
      · exact hn
      · exact (List.nodup_cons.1 hn).2
    match i, j with
    | 0, 0 => rfl
    | 0, j + 1 =>
      simp at hx hy
      subst hx
      rw [List.filterMap_cons, hbx] at hn
      exact absurd (hmem hy hby) (List.nodup_cons.1 hn).1
    | i + 1, 0 =>
      simp at hx hy
      subst hy
      rw [List.filterMap_cons, hby] at hn
      exact absurd (hmem hx hbx) (List.nodup_cons.1 hn).1
    | i + 1, j + 1 =>
      simp at hx hy
      rw [ih hn2 hx hy hbx hby]
theorem leafsTo_some {fl : List TNd} {b j : Nat} {y : TNd} (hy : fl[j]? = some y) (hk : y.kind = 0) (hb : y.bag = b) (hu : ∀ i x, fl[i]? = some x → x.kind = 0 → x.bag = b → i = j) : ∀ (k : Nat), j < k → leafsTo fl k b = (j : Int)
  | 0, h => by omega
  | k + 1, h => by
    rw [leafsTo]
    by_cases e : j = k
    · subst e
      rw [hy]
      simp only [hk, if_true]
      simp [updI, hb]
    · have ih := leafsTo_some hy hk hb hu k (by omega)
      cases hx : fl[k]? with
      | none => exact ih
      | some x =>
        simp only
        split
        · rename_i hkx
          by_cases hbx : x.bag = b
          · exact absurd (hu k x hx hkx hbx) (by omega)
          · have : ¬ b = x.bag := fun e => hbx e.symm
            simp [updI, this, ih]
        · exact ih
/-- The leaf of a bag. -/
theorem leaf_of {fl : List TNd} {b : Nat} (hn : (fl.filterMap leafB).Nodup) (hb : b ∈ fl.filterMap leafB) : ∃ j : Nat, j < fl.length ∧ leafR fl (b : Int) = (j : Int) ∧ leafsTo fl fl.length b = (j : Int) := by
  obtain ⟨y, hy, hyb⟩ := List.mem_filterMap.1 hb
  obtain ⟨j, hj⟩ := List.mem_iff_getElem?.1 hy
  have hjl := (List.getElem?_eq_some_iff.1 hj).1
  have hk : y.kind = 0 ∧ y.bag = b := by
    unfold leafB at hyb
    split at hyb
    · rename_i h; exact ⟨h, Option.some.inj hyb⟩
    · cases hyb
  have hu : ∀ i x, fl[i]? = some x → x.kind = 0 → x.bag = b → i = j := fun i x hx hkx hbx => filterMap_uniq hn hx hj (by unfold leafB; rw [if_pos hkx, hbx]) hyb
  refine ⟨j, hjl, ?_, leafsTo_some hj hk.1 hk.2 hu _ hjl⟩
  unfold leafR
  rw [firstI_some hj (by simp [hk.1, hk.2]) fun i x hi hx => ?_]
  · simp
  · cases hh : (x.kind == 0 && decide ((x.bag : Int) = (b : Int))) with
    | false => rfl
    | true =>
      simp only [Bool.and_eq_true, beq_iff_eq, decide_eq_true_eq] at hh
      have := hu i x hx hh.1 (by omega)
      omega
theorem perm_heavy : ∀ {ks : List Tr} {h : Tr}, h ∈ ks → (ks.map Tr.lab).Nodup → (Tr.labss ks).Perm (h.labs ++ Tr.labss (ks.filter fun k => !((k.lab : Int) == (h.lab : Int))))
  | [], h, hm, _ => by cases hm
  | x :: xs, h, hm, hn => by
    rw [List.map_cons, List.nodup_cons] at hn
    by_cases e : x = h
    · subst e
      have hf : xs.filter (fun k => !((k.lab : Int) == (x.lab : Int))) = xs := by
        rw [List.filter_eq_self]
        intro k hk
        have : k.lab ≠ x.lab := fun e => hn.1 (by rw [← e]; exact List.mem_map_of_mem hk)
        simp
        omega
      rw [List.filter_cons_of_neg (by simp), hf, Tr.labss]
    · have hmx : h ∈ xs := (List.mem_cons.1 hm).resolve_left fun e' => e e'.symm
      have hne : x.lab ≠ h.lab := fun e' => hn.1 (by rw [e']; exact List.mem_map_of_mem hmx)
      rw [List.filter_cons_of_pos (by simp; omega), Tr.labss, Tr.labss]
      refine ((perm_heavy hmx hn.2).append_left x.labs).trans ?_
      rw [← List.append_assoc, ← List.append_assoc]
      exact List.Perm.append_right _ List.perm_append_comm
theorem hvL_none {ks : List Tr} (h : Tr.hvL ks = none) : ks = [] := by
  have key : ∀ (ks : List Tr) (x : Tr), ks.foldl Tr.hS (some x) ≠ none := by
    intro ks
    induction ks with
    | nil => intro x; simp
    | cons k ks ih =>
      intro x
      rw [List.foldl_cons, Tr.hS]
      split
      · exact ih _
      · exact ih _
  cases ks with
  | nil => rfl
  | cons k ks => exact absurd h (key ks k)
theorem nodup_kid {u h : Tr} (hn : u.labs.Nodup) (hh : h ∈ u.ks) : h.labs.Nodup := labs_nodup_sub (Sub.self.kid hh) hn
theorem perm_path {u : Tr} {l : List Tr} (hp : HPath u l) : u.labs.Nodup → (l.flatMap fun t => t.lab :: Tr.labss t.lights).Perm u.labs := by
  induction hp with
  | @last u h =>
    intro _
    have hk := hvL_none h
    have hl : u.lights = [] := by unfold Tr.lights; rw [hk]; rfl
    cases u
    simp only [Tr.ks] at hk
    subst hk
    simp [hl, Tr.labss, Tr.labs, Tr.lab]
  | @cons u h l hh hp ih =>
    intro hn
    have hm := Tr.hvL_mem hh
    rw [List.flatMap_cons]
    have h1 := ih (nodup_kid hn hm)
    have h2 := perm_heavy hm (labs_nodup_ks hn)
    have hl : u.lights = u.ks.filter fun k => !((k.lab : Int) == (h.lab : Int)) := by unfold Tr.lights; rw [hh]; rfl
    have e : u.labs = u.lab :: Tr.labss u.ks := by cases u; rfl
    rw [e, List.cons_append]
    refine List.Perm.cons _ ?_
    rw [hl]
    exact ((h1.append_left _).trans List.perm_append_comm).trans h2.symm
theorem flats_two (b : Nat) (c d : Ct) : Ct.flats b [c, d] = c.flat b ++ d.flat (b + c.sz) := by simp [Ct.flats]
theorem perm_cl {T : List Bg} {m : Md} {l : List Tr} {c : Ct} (h : Cl T m l c) : (∀ t ∈ l, t.labs.Nodup) → ∀ b, ((c.flat b).filterMap leafB).Perm (match m with | .chain => l.flatMap fun t => t.lab :: Tr.labss t.lights | .group _ => Tr.labss l) := by
  induction h with
  | @item0 t hl =>
    intro _ b
    simp [Ct.flat, Ct.flats, leafB, hl, Tr.labss]
  | @item1 t c hl hc ih =>
    intro hn b
    have h1 := ih (fun z hz => nodup_kid (hn t (by simp)) (List.mem_filter.1 hz).1) (b + 1)
    simp only [Ct.flat, Ct.flats, List.filterMap_append, List.append_nil]
    simp only [leafB, List.filterMap_cons, List.filterMap_nil, if_true, List.flatMap_cons, List.flatMap_nil, List.append_nil, List.nil_append, List.cons_append]
    refine List.Perm.cons _ ?_
    simpa [Ct.sz, Ct.szs] using h1
  | @path t u x l c d hc hd hx ihc ihd =>
    intro hn b
    have h1 := ihc (fun z hz => hn z (List.mem_of_mem_take hz)) b
    have h2 := ihd (fun z hz => hn z (List.mem_of_mem_drop hz)) (b + c.sz)
    rw [Ct.flat, flats_two, List.filterMap_append, List.filterMap_append]
    have e : ([(⟨3, t.lab, Ct.tops b [c, d], adhS T t.lab ||| belS T x⟩ : TNd)]).filterMap leafB = [] := by simp [leafB]
    rw [e, List.append_nil]
    have h3 := h1.append h2
    rw [← List.flatMap_append, List.take_append_drop] at h3
    exact h3
  | @single b' t l c hp hc ih =>
    intro hn b
    have ht := hn t (by simp)
    have h1 := ih (fun z hz => by
      have key : ∀ {u : Tr} {l : List Tr}, HPath u l → u.labs.Nodup → ∀ z ∈ l, z.labs.Nodup := by
        intro u l hp
        induction hp with
        | last _ => intro hn z hz; simp at hz; subst hz; exact hn
        | cons hh _ ih => intro hn z hz; rcases List.mem_cons.1 hz with rfl | hz; exact hn; exact ih (nodup_kid hn (Tr.hvL_mem hh)) z hz
      exact key hp ht z hz) b
    refine h1.trans ?_
    simp only [Tr.labss, List.append_nil]
    exact perm_path hp ht
  | @rake b' t u l c d hc hd ihc ihd =>
    intro hn b
    have h1 := ihc (fun z hz => hn z (List.mem_of_mem_take hz)) b
    have h2 := ihd (fun z hz => hn z (List.mem_of_mem_drop hz)) (b + c.sz)
    rw [Ct.flat, flats_two, List.filterMap_append, List.filterMap_append]
    have e : ([(⟨1, b', Ct.tops b [c, d], hasS T (t :: u :: l)⟩ : TNd)]).filterMap leafB = [] := by simp [leafB]
    rw [e, List.append_nil]
    have h3 := h1.append h2
    rw [← Tr.labss_append, List.take_append_drop] at h3
    exact h3
/-- Each bag has its leaf. -/
theorem leaves {T : List Bg} {t : Tr} (hV : Valid T t) (hn : t.labs.Nodup) {l : List Tr} (hp : HPath t l) {c : Ct} (hC : Cl T .chain l c) (b : Nat) (hb : b < T.length) :
    ∃ j : Nat, j < (c.flat 0).length ∧ leafR (c.flat 0) (b : Int) = (j : Int) ∧ leafsTo (c.flat 0) (c.flat 0).length b = (j : Int) := by
  have key : ∀ {u : Tr} {l : List Tr}, HPath u l → u.labs.Nodup → ∀ z ∈ l, z.labs.Nodup := by
    intro u l hp
    induction hp with
    | last _ => intro hn z hz; simp at hz; subst hz; exact hn
    | cons hh _ ih => intro hn z hz; rcases List.mem_cons.1 hz with rfl | hz; exact hn; exact ih (nodup_kid hn (Tr.hvL_mem hh)) z hz
  have h1 := (perm_cl hC (key hp hn) 0).trans (perm_path hp hn)
  refine leaf_of (h1.nodup_iff.2 hn) (h1.mem_iff.2 ?_)
  have hlt : ∀ x ∈ t.labs, x < T.length := by
    have key2 : ∀ (u : Tr), Fits T.length (kidsTo T T.length) u → ∀ x ∈ u.labs, x < T.length := by
      intro u
      induction u using Tr.induct with
      | h b ks ih =>
        intro hF x hx
        rw [Tr.labs] at hx
        rcases List.mem_cons.1 hx with rfl | hx
        · exact hF.lab
        · obtain ⟨k, hk, hx⟩ := Tr.labss_mem hx
          exact ih k hk (hF.labL.2 k hk) x hx
    exact key2 t hV.fits
  by_cases hbm : b ∈ t.labs
  · exact hbm
  · exfalso
    have h2 := length_le_of (l1 := b :: t.labs) (l2 := List.range T.length) (List.nodup_cons.2 ⟨hbm, hn⟩) fun x hx => by
      rcases List.mem_cons.1 hx with rfl | hx
      · exact List.mem_range.2 hb
      · exact List.mem_range.2 (hlt x hx)
    rw [List.length_cons, Tr.length_labs, hV.all, List.length_range] at h2
    omega
theorem deeps_mem : ∀ {ps : List Ct}, ps ≠ [] → ∃ (m : Nat) (p : Ct), ps[m]? = some p ∧ p.deep = Ct.deeps ps
  | [], h => absurd rfl h
  | [c], _ => ⟨0, c, rfl, by simp [Ct.deeps]⟩
  | c :: d :: ds, _ => by
    obtain ⟨m, p, h1, h2⟩ := deeps_mem (ps := d :: ds) (by simp)
    by_cases h : Ct.deeps (d :: ds) ≤ c.deep
    · exact ⟨0, c, rfl, by rw [Ct.deeps]; omega⟩
    · exact ⟨m + 1, p, by simpa using h1, by rw [Ct.deeps]; omega⟩
theorem Ct.far (U : Nat → Int) (c : Ct) : ∀ (b : Nat), (∀ i x, (c.flat b)[i]? = some x → ∀ p ∈ x.kids, U p = ((b + i : Nat) : Int)) → ∃ j m, b ≤ j ∧ j < b + c.sz ∧ Steps U m j (b + c.sz - 1) ∧ m + 1 = c.deep := by
  induction c using Ct.induct with
  | h kd g s ps ih =>
    intro b hU
    have e0 : b + (Ct.node kd g s ps).sz - 1 = b + Ct.szs ps := by simp [Ct.sz]
    by_cases hps : ps = []
    · subst hps
      exact ⟨b, 0, Nat.le_refl _, by simp [Ct.sz], by rw [e0]; simp [Ct.szs]; exact .zero, by simp [Ct.deep, Ct.deeps]⟩
    · obtain ⟨m, p, hp, hd⟩ := deeps_mem hps
      obtain ⟨j, k, h1, h2, h3, h4⟩ := ih p (List.mem_of_getElem? hp) (b + Ct.szs (ps.take m)) (fun i x hx q hq => by
        have := hU (Ct.szs (ps.take m) + i) x (by
          have h := flats_get hp hx
          rw [Ct.flat, List.getElem?_append_left (List.getElem?_eq_some_iff.1 h).1]
          exact h) q hq
        rw [this]
        congr 1
        omega)
      have htop := hU (Ct.szs ps) ⟨kd, g, Ct.tops b ps, s⟩ (by
        rw [Ct.flat, List.getElem?_append_right (by rw [Ct.flats_length]; exact Nat.le_refl _), Ct.flats_length, Nat.sub_self]
        rfl) (b + Ct.szs (ps.take m) + p.sz - 1) (List.mem_of_getElem? (tops_get hp))
      have hle := szs_take_leC ps (m + 1)
      rw [szs_take_succC hp] at hle
      refine ⟨j, k + 1, by omega, by simp [Ct.sz]; omega, by rw [e0]; exact h3.snoc htop, ?_⟩
      simp only [Ct.deep]
      omega
theorem mxF_deep (c : Ct) : mxF (upsTo (c.flat 0) (c.flat 0).length) (c.flat 0).length (c.flat 0).length = c.deep := by
  have hUT := c.upTree
  have hl := Ct.flat_length 0 c
  have hp := c.sz_pos
  refine Nat.le_antisymm (hUT.mxF_le _) ?_
  obtain ⟨j, m, h1, h2, h3, h4⟩ := Ct.far (upsTo (c.flat 0) (c.flat 0).length) c 0 (fun i x hx q hq => by
    have hil := (List.getElem?_eq_some_iff.1 hx).1
    rw [upsTo_some hx hq _ hil fun k y _ hy hqy => (Ct.flat_uniq 0 c q k i y x hy hx hqy hq).1]
    simp)
  have hr : (0 + c.sz - 1) = (c.flat 0).length - 1 := by omega
  rw [hr] at h3
  have hjn : j < (c.flat 0).length := by omega
  have hlt := hUT.steps_lt h3 rfl hjn
  have hd : dpt (upsTo (c.flat 0) (c.flat 0).length) (c.flat 0).length j = m + 1 := h3.dptF hUT.root _ (by omega)
  have := mxF_ge (U := upsTo (c.flat 0) (c.flat 0).length) (n := (c.flat 0).length) (i := j) (k := (c.flat 0).length) (by omega) hjn
  omega
end Go.Pal
namespace Go.Proofs.YtoiefehkfhkhbaaGreatDoor
open Go Go.RowKit Go.Pal Go.Shelf

theorem rd_take24 {T : List Bg} {w : World} {a : Option Addr} {c : Nat} (h : Rd bagA 17 w.heap.size w (.slice a T.length c) T) {k : Nat} (hk : k ≤ T.length) : Rd bagA 17 w.heap.size w (.slice a k c) (T.take k) := by
  obtain ⟨a', c', hv, h⟩ := h
  simp only [Value.slice.injEq] at hv
  obtain ⟨rfl, -, rfl⟩ := hv
  refine ⟨a, c, by rw [List.length_take, Nat.min_eq_left hk], ?_⟩
  rcases h with h | ⟨b, off, ha, hb, hc⟩
  · exact .inl (by rw [h]; simp)
  · exact .inr ⟨b, off, ha, hb, fun i x hi => hc i x (by rw [List.getElem?_take] at hi; split at hi; exact hi; cases hi)⟩
/-- What Made returns of a tree of bags that is a frame. -/
def MadeOk (w' : World) (T : List Bg) (gf gt : Nat) (tv : Value) (t : Tr) (l : List Tr) (c : Ct) : Prop :=
  Valid T t ∧ t.labs.Nodup ∧ HPath t l ∧ Cl T .chain l c ∧ c.sz ≤ 100000 ∧ FrameOk w' gf T t ∧ TtOk w' gt gf T t (c.flat 0) ∧ RefT w' tv T

set_option maxRecDepth 10000 in
set_option maxHeartbeats 2000000 in
theorem made_any (T : List Bg) (v : Value) (w : World) (hv : Rd bagA 17 w.heap.size w v T) (hcap : capOk v) (hlen : T.length ≤ 9223372036854775807) (hS : ∀ x ∈ T, IsSet x.2) (hp : ∀ x ∈ T, -9223372036854775808 ≤ x.1 ∧ x.1 ≤ 9223372036854775807) (hT : Tabs w) :
    Calls Tryz.prog 4 #[v] w fun e w' => ((∃ tv, e = .returned (.tuple #[.pointer none, .pointer none, tv, .bool false])) ∨ (∃ gf gt tv t l c, e = .returned (.tuple #[.pointer (some ⟨gf, 0, none⟩), .pointer (some ⟨gt, 0, none⟩), tv, .bool true]) ∧ T.length ≤ 24 ∧ MadeOk w' T gf gt tv t l c)) ∧ Below w.heap.size w w' := by
  obtain ⟨a, cc, rfl, -⟩ := id hv
  have hcap' : T.length ≤ cc := hcap
  by_cases h24 : T.length ≤ 24
  · have hmin : min (T.length : Int) 24 = (T.length : Int) := by omega
    have h24z : ¬ (24 : Int) < (T.length : Int) := by omega
    have h24y : decide ((24 : Int) < (T.length : Int)) = false := by simp; omega
    have HTo := Lib.hid (l26To_any T _ w hv (by omega) hS)
    have HNew := Lib.hid fun tv w' (hw : RefT w' tv T) => r45new_any T tv w' hw (by omega) hp
    have HS := Lib.hid hS
    have HV := Lib.hid hv
    have HTab := Lib.hid hT
    clear hv hcap hS hp hT
    go_enter Tryz.func4, Tryz.ntmps4
    go_wp2_with fail
    refine HTo.out.mono ?_
    rintro e w1 ⟨tv, rfl, hR1, hb1⟩
    have HR1 := Lib.hid hR1
    have HB1 := Lib.hid hb1
    obtain ⟨ta, tc, rfl⟩ : ∃ a c, tv = .slice a T.length c := by obtain ⟨a, c, h, -⟩ := hR1; exact ⟨a, c, h⟩
    clear hR1 hb1 HTo
    by_cases h0 : r45N T = 0
    · have HN2 := HNew.out _ w1 HR1.out
      rw [h0] at HN2
      have HN3 := Lib.hid HN2
      have HZ := Lib.hid h0
      clear HN2 h0 HNew
      go_wp2_with fail
      refine HN3.out.mono ?_
      rintro e w2 ⟨rfl, hb2⟩
      have HB2 := Lib.hid (HB1.out.trans (hb2.mono HB1.out.size))
      have HR2 := Lib.hid (HR1.out.below hb2)
      clear hb2 HN3 HR1 HB1
      obtain ⟨z1, z2, z3⟩ := r45N_zero HZ.out
      obtain ⟨t, hVal, hnd⟩ := valid_of z1 z2 HS.out z3
      have hs2 := HB2.out.size
      have hTb := HTab.out.on HB2.out
      have HNw := Lib.hid (new_any T t hVal hnd _ w2 ((HV.out.below HB2.out (Nat.le_refl _)).mono hs2) hTb.1 hTb.2)
      have HVal := Lib.hid hVal
      have HND := Lib.hid hnd
      clear z1 z2 z3 hVal hnd hTb HZ
      go_wp2_with fail
      refine HNw.out.mono ?_
      rintro e w3 ⟨gf, rfl, hF3, hb3⟩
      have HF3 := Lib.hid hF3
      have HB3 := Lib.hid (HB2.out.trans (hb3.mono hs2))
      have HR3 := Lib.hid (HR2.out.below hb3)
      have hs3 := HB3.out.size
      clear hF3 hb3 HNw HR2 HB2
      obtain ⟨l, hl⟩ := HPath.ex t
      have hne : T ≠ [] := fun e => by have := HVal.out.pos; rw [e] at this; simp at this
      obtain ⟨c, hc⟩ := Cl.ex T (l := l) (fun e => by subst e; cases hl)
      have hct := (Cl.count hc (fun r hr u hu => labs_nodup_ks (labs_nodup_sub ((hpath_sub hl .self r hr).trans hu) HND.out))).1 rfl
      rw [hl.sumW, HVal.out.all] at hct
      have hcs : c.sz ≤ 100000 := by omega
      have hts : t.sz ≤ 65536 := by rw [HVal.out.all]; omega
      have HTt := Lib.hid (ttNew_any T t HVal.out hts gf w3 HF3.out l hl c hc hcs)
      have HL := Lib.hid hl
      have HC := Lib.hid hc
      clear hl hc hct hts hne
      go_wp2_with fail
      refine HTt.out.mono ?_
      rintro e w4 ⟨gt, rfl, hO4, hb4⟩
      have HO4 := Lib.hid hO4
      have HB4 := Lib.hid (HB3.out.trans (hb4.mono hs3))
      have HR4 := Lib.hid (HR3.out.below hb4)
      have HF4 := Lib.hid (HF3.out.below hb4)
      clear hO4 hb4 HTt HR3 HF3
      go_wp2_with fail
      exact bodyPost_ret (v := .tuple #[.pointer (some ⟨gf, 0, none⟩), .pointer (some ⟨gt, 0, none⟩), .slice ta T.length tc, .bool true]) (by simp [results, Tryz.results4, go_sem]) rfl ⟨.inr ⟨gf, gt, _, t, l, c, rfl, h24, HVal.out, HND.out, HL.out, HC.out, hcs, HF4.out, HO4.out, HR4.out⟩, HB4.out⟩
    · have HN2 := Lib.hid (HNew.out _ w1 HR1.out)
      have h1 : (r45N T == 0) = false := by simpa using h0
      have h2 : (r45N T != 0) = true := by simpa using h0
      obtain ⟨E, hE⟩ : ∃ E, E = r45N T := ⟨_, rfl⟩
      rw [← hE] at HN2 h0 h1 h2
      clear hE HNew
      go_wp2_with fail
      refine HN2.out.mono ?_
      rintro e w2 ⟨rfl, hb2⟩
      have HB2 := Lib.hid (HB1.out.trans (hb2.mono HB1.out.size))
      clear hb2 HN2
      go_wp2_with fail
      exact bodyPost_ret (v := .tuple #[.pointer none, .pointer none, .slice ta T.length tc, .bool false]) (by simp [results, Tryz.results4, go_sem]) rfl ⟨.inl ⟨_, rfl⟩, HB2.out⟩
  · have hmin : min (T.length : Int) 24 = ((24 : Nat) : Int) := by omega
    have h24z : (24 : Int) < (T.length : Int) := by omega
    have h24y : decide ((24 : Int) < (T.length : Int)) = true := by simp; omega
    have htl : (T.take 24).length = 24 := by rw [List.length_take]; omega
    have HTo := Lib.hid (l26To_any (T.take 24) (.slice a 24 cc) w (rd_take24 hv (by omega)) (by rw [htl]; omega) (fun x hx => hS x (List.mem_of_mem_take hx)))
    have hc24 : 24 ≤ cc := by omega
    clear hv hcap hS hp hT htl
    go_enter Tryz.func4, Tryz.ntmps4
    go_wp2_with fail
    refine HTo.out.mono ?_
    rintro e w1 ⟨tv, rfl, hR1, hb1⟩
    have HB1 := Lib.hid hb1
    obtain ⟨ta, tc, rfl⟩ : ∃ a c, tv = .slice a (T.take 24).length c := by obtain ⟨a, c, h, -⟩ := hR1; exact ⟨a, c, h⟩
    obtain ⟨n24, hn⟩ : ∃ n, n = (T.take 24).length := ⟨_, rfl⟩
    rw [← hn]
    clear hR1 hb1 HTo hn
    go_wp2_with fail
    exact bodyPost_ret (v := .tuple #[.pointer none, .pointer none, .slice ta n24 tc, .bool false]) (by simp [results, Tryz.results4, go_sem]) rfl ⟨.inl ⟨_, rfl⟩, HB1.out⟩
end Go.Proofs.YtoiefehkfhkhbaaGreatDoor
