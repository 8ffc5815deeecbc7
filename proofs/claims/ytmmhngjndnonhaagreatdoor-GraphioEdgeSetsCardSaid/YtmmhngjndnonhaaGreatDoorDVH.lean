/-
  A key struck out of a map while a range goes over it; maps.DeleteFunc at the edges, drop, Apply of a removal of a vertex.
-/
import Derived.Test.YtmmhngjndnonhaaGreatDoorDVa
import Derived.Test.YtmmhngjndnonhaaGreatDoorDGrH
set_option linter.unusedSimpArgs false
set_option linter.unusedVariables false
namespace Go.Pal
open Go Go.RowKit Go.ChangeMaps
section
variable {α β : Type} {C : Cod α β} {P : Program} {k : TypeId}
theorem ranges_tight {w : World} {R : Value → Option (DataW Unit × List MemPlace)} {b r n : Nat} {D : DataW Unit} {left : Lit → Bool} {cnt : Nat} (h : w.ranges P k R b r n D left cnt) : w.ranges P k R b r (Maps.size D) D left cnt := by
  obtain ⟨es, clock, since, seen, c0, hb, F, hs, rfl, hr⟩ := h
  exact ⟨es, clock, since, seen, c0, hb, F, by simp [Maps.size, length_sorted], rfl, hr⟩
theorem left_congr {w w' : World} {b r : Nat} (hb : w'.heap[b]? = w.heap[b]?) (hr : w'.heap[r]? = w.heap[r]?) : w'.rangeLeft b r = w.rangeLeft b r := by
  unfold World.rangeLeft
  rw [hb, hr]
/-- The step of a range, and what is left grows less. -/
theorem Rng.next2 [DecidableEq α] {w : World} {b r : Nat} {l rest : List (α × β)} (h : Rng C P k w b r l rest) (G : C.Good P k) (ty : TypeId) :
    (rest = [] ∧ (Instr.next (.pointer (some ⟨r, 0, none⟩)) false ty).run P w = .ok (.tuple #[.bool false]) w) ∨
    ∃ x y r1 r2 w', rest = r1 ++ (x, y) :: r2 ∧ (Instr.next (.pointer (some ⟨r, 0, none⟩)) false ty).run P w = .ok (.tuple #[.bool true, C.key x, C.val y]) w' ∧ Rng C P k w' b r l (r1 ++ r2) ∧ w.grownBy w' (some r) ∧ w'.heap.size = w.heap.size ∧
      (Instr.entry (.pointer (some ⟨r, 0, none⟩))).run P w' = .ok (.tuple #[C.key x, C.val y]) w' ∧ w'.rangeLeft b r < w.rangeLeft b r := by
  rcases h.next G ty with hn | ⟨x, y, r1, r2, w', e1, hrun, h1, h2, h3, h4⟩
  · exact .inl hn
  · refine .inr ⟨x, y, r1, r2, w', e1, hrun, h1, h2, h3, h4, ?_⟩
    obtain ⟨D, left, cnt, hR, -⟩ := h
    rcases hR.next G.keyed ty with ⟨_, _, hrun2⟩ | ⟨key, v, kl, y', w2, cnt', _, _, _, _, hrun2, hr', hlt, _⟩
    · rw [hrun] at hrun2
      simp at hrun2
    · rw [hrun] at hrun2
      injection hrun2 with _ e2
      subst e2
      rw [hR.left_eq, hr'.left_eq]
      exact hlt
/-- A key that the range has passed is struck out. -/
theorem Rng.drop [DecidableEq α] {w : World} {b r : Nat} {l rest : List (α × β)} (h : Rng C P k w b r l rest) (G : C.Good P k) {t e : TypeId} (ht : P.underlying t = some (.map k e)) {x : α} (hx : C.ok x) (hxr : ∀ p ∈ rest, p.1 ≠ x) (ty : TypeId) :
    ∃ w', (Builtin.delete_ #[t, k] ty #[.map (some b), C.key x]).run P w = .ok (.tuple #[]) w' ∧ Rng C P k w' b r (Pal.del x l) rest ∧ w.grownBy w' (some b) ∧ w'.heap.size = w.heap.size ∧ w'.rangeLeft b r ≤ w.rangeLeft b r := by
  obtain ⟨D, left, cnt, h1, h2, h3, h4, h5⟩ := h
  obtain ⟨w', cnt', hrun, hr', hle, hg⟩ := h1.drop G.keyed ht (G.keyOf x hx) ty
  have hD' := MRd.del G h2 hx
  refine ⟨w', hrun, ⟨_, _, cnt', by rw [← hD'.size]; exact ranges_tight hr', hD', fun p hp => mem_del.2 ⟨h3 p hp, hxr p hp⟩, h4, fun kk => ?_⟩, hg.grown, ?_, ?_⟩
  · show (left kk && !kk.sameKey (C.kl x)) = _
    rw [h5, Bool.eq_iff_iff, Bool.and_eq_true]
    constructor
    · exact fun h => h.1
    · intro hk
      refine ⟨hk, ?_⟩
      obtain ⟨p, hp, hs⟩ := List.any_eq_true.1 hk
      have := WideAt.sameKey_eq hs
      rw [← this, Maps.sameKey_ne (kl_ne G (h2.ok p (h3 p hp)) hx (hxr p hp))]
      rfl
  · obtain ⟨es, clock, es', clock', -, rfl⟩ := hg
    simp [setBlock]
  · rw [h1.left_eq, hr'.left_eq]
    exact hle
theorem wpList_delRng [DecidableEq α] {ops : Array Oper} {rest : List Oper} {o : Oper} {a : Act} {Q : Exit → Act → World → Prop} {w : World} (hg : o.guard = none) (m x : Operand) (t : TypeId) (hop : o.op = Op.call { callee := Callee.builtin Builtin.delete, args := #[m, x], argTypes := #[t, k] })
    (G : C.Good P k) {e : TypeId} (ht : P.underlying t = some (.map k e)) (b r : Nat) (l lr : List (α × β)) (hm : a.eval m = .map (some b)) (h : Rng C P k w b r l lr) (x0 : α) (hx : a.eval x = C.key x0) (hok : C.ok x0) (hxr : ∀ p ∈ lr, p.1 ≠ x0)
    (hK : ∀ w', Rng C P k w' b r (Pal.del x0 l) lr → w.grownBy w' (some b) → w'.heap.size = w.heap.size → w'.rangeLeft b r ≤ w.rangeLeft b r → wpList P ops Q rest (a.put o.dst (.tuple #[])) w') : wpList P ops Q (o :: rest) a w := by
  refine wpList_plain hg fun K' hK' => ?_
  obtain ⟨w', hrun, r1, r2, r3, r4⟩ := h.drop G ht hok hxr o.type
  unfold Oper.wp
  simp [execOp, hop, resolve, invoke, builtin, hm, hx, hrun, Result.andThen]
  exact hK' _ _ (hK w' r1 r2 r3 r4)
end
/-- What is left of a sorted list when the rest is none. -/
theorem struck_end {L E : List ((Int × Int) × Th)} {pd : (Int × Int) × Th → Bool} (hE : Srt ltE E) (hs : L.Sublist E) (hm : ∀ p, p ∈ L ↔ p ∈ E ∧ pd p = false) : L = E.filter fun p => !pd p := by
  have h1 : Srt ltE L := hE.sublist hs
  have h2 : Srt ltE (E.filter fun p => !pd p) := hE.filter _
  refine srt_unique ordE h1 h2 ((List.perm_ext_iff_of_nodup ?_ ?_).2 fun p => ?_)
  · exact (h1.nd ordE).imp fun {a b} h e => h (by rw [e])
  · exact (h2.nd ordE).imp fun {a b} h e => h (by rw [e])
  · rw [hm, List.mem_filter]
    simp
theorem struck_skip {L E r1 r2 : List ((Int × Int) × Th)} {z : (Int × Int) × Th} {pd : (Int × Int) × Th → Bool} (hz : pd z = false) (hm : ∀ p, p ∈ L ↔ p ∈ E ∧ (p ∈ r1 ++ z :: r2 ∨ pd p = false)) : ∀ p, p ∈ L ↔ p ∈ E ∧ (p ∈ r1 ++ r2 ∨ pd p = false) := by
  intro p
  rw [hm]
  simp only [List.mem_append, List.mem_cons]
  constructor
  · rintro ⟨h1, (h2 | rfl | h2) | h2⟩
    · exact ⟨h1, .inl (.inl h2)⟩
    · exact ⟨h1, .inr hz⟩
    · exact ⟨h1, .inl (.inr h2)⟩
    · exact ⟨h1, .inr h2⟩
  · rintro ⟨h1, (h2 | h2) | h2⟩
    · exact ⟨h1, .inl (.inl h2)⟩
    · exact ⟨h1, .inl (.inr (.inr h2))⟩
    · exact ⟨h1, .inr h2⟩
theorem struck_del {L E r1 r2 : List ((Int × Int) × Th)} {z : (Int × Int) × Th} {pd : (Int × Int) × Th → Bool} (hE : NoDup E) (hr : NoDup (r1 ++ z :: r2)) (hzE : z ∈ E) (hz : pd z = true) (hm : ∀ p, p ∈ L ↔ p ∈ E ∧ (p ∈ r1 ++ z :: r2 ∨ pd p = false)) :
    (∀ p ∈ r1 ++ r2, p.1 ≠ z.1) ∧ ∀ p, p ∈ del z.1 L ↔ p ∈ E ∧ (p ∈ r1 ++ r2 ∨ pd p = false) := by
  have h0 : ∀ p ∈ r1 ++ r2, p.1 ≠ z.1 := by
    have h1 := hr.perm List.perm_middle
    unfold NoDup at h1
    rw [List.pairwise_cons] at h1
    exact fun p hp e => h1.1 p hp e.symm
  refine ⟨h0, fun p => ?_⟩
  rw [mem_del, hm]
  simp only [List.mem_append, List.mem_cons] at h0 ⊢
  constructor
  · rintro ⟨⟨h1, (h2 | rfl | h2) | h2⟩, hne⟩
    · exact ⟨h1, .inl (.inl h2)⟩
    · exact absurd rfl hne
    · exact ⟨h1, .inl (.inr h2)⟩
    · exact ⟨h1, .inr h2⟩
  · rintro ⟨h1, h2⟩
    have hne : p.1 ≠ z.1 := by
      rcases h2 with h2 | h2
      · exact h0 p h2
      · intro e
        rw [hE.one h1 hzE e, hz] at h2
        cases h2
    refine ⟨⟨h1, ?_⟩, hne⟩
    rcases h2 with (h2 | h2) | h2
    · exact .inl (.inl h2)
    · exact .inl (.inr (.inr h2))
    · exact .inr h2
end Go.Pal
namespace Go.Proofs.YtmmhngjndnonhaaGreatDoor
open Go Go.RowKit Go.Pal
attribute [local go_sem] Oper.semAt_some

@[go_sem ↓ high] theorem loadEN (a : Addr) : loadVar 117 a = loadLater 117 a := rfl
@[go_sem] theorem loadEN_run (w : World) (a : Addr) : (loadLater 117 a).run Tryz.prog w = rowLoad Tryz.prog 117 a w := rfl
@[go_sem] theorem loadEN_at (w : World) (g : Nat) : rowLoad Tryz.prog 117 ⟨g, 0, none⟩ w = match row? w g with
      | some c => if c.size = 2 then .ok (.agg c) w else laterLoad Tryz.prog 117 ⟨g, 0, none⟩ w
      | none => laterLoad Tryz.prog 117 ⟨g, 0, none⟩ w := load_row Tryz.isAgg117 Tryz.sizeOf117 w g
def onB (u : Int) (p : (Int × Int) × Th) : Bool := decide (p.1.1 = u) || decide (p.1.2 = u)
theorem gdrop1_any (x : Int × Int) (y : Th) (gb : Nat) (e : Ed) (w : World) (hr : row? w gb = some (edC e)) :
    Calls Tryz.prog 167 #[endsV x, thV y, .pointer (some ⟨gb, 0, none⟩)] w fun r w' => r = .returned (.bool (onB e.u (x, y))) ∧ Below w.heap.size w w' := by
  have hl := row?_lt hr
  unfold endsV thV
  obtain ⟨x1, x2⟩ := x
  have hO : Hid (onB e.u ((x1, x2), y) = (decide (x1 = e.u) || decide (x2 = e.u))) := Lib.hid rfl
  rw [hO.out]
  obtain ⟨U, hU⟩ : ∃ U, U = e.u := ⟨_, rfl⟩
  rw [← hU]
  have c1 : ∀ o1 o2, ((w.alloc o1).alloc o2).cell? ⟨gb, 1, none⟩ = some (.int .i64 U) := fun o1 o2 => by rw [hU]; exact (cell?_row (i := 1) ((row?_alloc_past _ _ _ (by simp; omega)).trans ((row?_alloc_past _ _ _ hl).trans hr))).trans rfl
  have hB : ∀ o1 o2, Below w.heap.size w ((w.alloc o1).alloc o2) := fun o1 o2 => ((Below.refl _ w).alloc (Nat.le_refl _) _).alloc (by simp) _
  have HB := Lib.hid hB
  clear hU hr hB
  go_enter Tryz.func167, Tryz.ntmps167
  by_cases h1 : x1 = U
  · subst h1
    go_wp2_with fail
    go_ret
    exact ⟨by simp, HB.out _ _⟩
  · have hd1 : decide (x1 = U) = false := by simpa using h1
    go_wp2_with fail
    go_ret
    exact ⟨by rw [show decide (x1 = U) = false by simpa using h1]; show Ending.returned (.bool (x1 == U || x2 == U)) = _; rw [show (x1 == U) = false by simpa using h1]; rfl, HB.out _ _⟩
set_option maxRecDepth 10000 in
set_option maxHeartbeats 4000000 in
theorem gdelE_any (e : Ed) (gb bE : Nat) (E : List ((Int × Int) × Th)) (hE : Srt ltE E) (w : World) (hr : row? w gb = some (edC e)) (hne : gb ≠ bE) (h : Pal.Own CE Tryz.prog 117 w bE E) :
    Calls Tryz.prog 166 #[.map (some bE), .func (.func 167) #[] #[.pointer (some ⟨gb, 0, none⟩)]] w fun r w' => r = .returned (.tuple #[]) ∧ Pal.Own CE Tryz.prog 117 w' bE (E.filter fun p => !onB e.u p) ∧ Same (fun k => k ≠ bE) w w' := by
  have HE := Lib.hid hE
  have HNE := Lib.hid hne
  have hgl := row?_lt hr
  have hbl := h.lt
  have hndE := hE.nd ordE
  have HND := Lib.hid hndE
  have hokE := h.okd
  have HOK := Lib.hid hokE
  obtain ⟨w1, hrg, hR, hb, hs1⟩ := h.range goodE Tryz.underlying112
  have HR := Lib.hid hR
  have HS : Hid (Same (fun k => k < w.heap.size ∧ k ≠ bE) w w1) := Lib.hid ((Same.of_below hb).mono fun k hk _ => hk)
  have HRow := Lib.hid hr
  clear h hR hb hE hne hr hndE hokE
  go_enter Tryz.func166, Tryz.ntmps166
  go_wp2_with fail
  go_loopw [8] (fun _ wr => ∃ L rest, L.Sublist E ∧ (∀ p, p ∈ L ↔ p ∈ E ∧ (p ∈ rest ∨ onB e.u p = false)) ∧ NoDup rest ∧ (∀ p ∈ rest, p ∈ E) ∧ Rng CE Tryz.prog 117 wr bE w.heap.size L rest ∧ Same (fun k => k < w.heap.size ∧ k ≠ bE) w wr) (fun _ wr => wr.rangeLeft bE w.heap.size)
  case atStart => exact ⟨E, E, List.Sublist.refl _, fun p => by simp; exact fun h => .inl h, HND.out, fun p hp => hp, HR.out, HS.out⟩
  case round =>
    obtain ⟨L, rest, hsub, hm, hnd, hin, hRr, hS⟩ := hrel
    have HSub := Lib.hid hsub
    have HS := Lib.hid hS
    have hsz := hS.size
    have hRlt := hRr.lt
    have hRne := hRr.ne
    have hrowr := (row?_congr (hS.block gb hgl ⟨hgl, HNE.out⟩)).trans HRow.out
    rcases hRr.next2 goodE 0 with ⟨rfl, hrun⟩ | ⟨x, y, r1, r2, w2, rfl, hrun, hR2, hgr, hsz2, hen, hlt⟩
    · have hO := hRr.own
      have hL : L = E.filter fun p => !onB e.u p := struck_end HE.out hsub fun p => by rw [hm]; simp
      rw [hL] at hO
      have HO := Lib.hid hO
      clear hsub hm hnd hin hRr hS hL hO hrowr
      go_wp2_with fail
      go_end0
      exact ⟨rfl, HO.out, HS.out.mono fun k hk h => ⟨hk, h⟩⟩
    · have hS2 := same_grown hgr
      have hzE : (x, y) ∈ E := hin _ (by simp)
      have hrow2 := (row?_congr (hS2.block gb (by omega) (by intro e; cases e; omega))).trans hrowr
      have hR2l := hR2.lt
      have HR2 := Lib.hid hR2
      have HS2 : Hid (Same (fun k => k < w.heap.size ∧ k ≠ bE) w w2) := Lib.hid (hS.trans (hS2.mono fun k hk h => fun e => by cases e; omega))
      have HRow2 := Lib.hid hrow2
      have HM := Lib.hid hm
      have HNd := Lib.hid hnd
      have HIn := Lib.hid hin
      have HZ := Lib.hid hzE
      have HLt := Lib.hid hlt
      have hrun1 : (Instr.next (.pointer (some ⟨w.heap.size, 0, none⟩)) false 0).run Tryz.prog wr = .ok (.tuple #[.bool true, .agg #[.int .i64 x.1, .int .i64 x.2], .agg #[.int .u8 (y.1 : Int), .int .i64 y.2]]) w2 := hrun
      have hen1 : (Instr.entry (.pointer (some ⟨w.heap.size, 0, none⟩))).run Tryz.prog w2 = .ok (.tuple #[.agg #[.int .i64 x.1, .int .i64 x.2], .agg #[.int .u8 (y.1 : Int), .int .i64 y.2]]) w2 := hen
      clear hsub hm hnd hin hRr hS hS2 hgr hR2 hrun hen hzE hrow2 hrowr hlt
      go_wp2_with fail
      generalize hW3 : World.alloc (World.alloc w2 _) _ = W3
      have hB3 : Below w2.heap.size w2 W3 := by rw [← hW3]; exact ((Below.refl _ w2).alloc (Nat.le_refl _) _).alloc (by simp) _
      have hr3 : row? W3 wr.heap.size = some #[.int .i64 x.1, .int .i64 x.2] := by
        rw [← hW3, row?_alloc_past _ _ _ (by simp [hsz2]), ← hsz2]
        exact row?_alloc_at _ _ _ _ rfl
      clear hW3
      have hl3 := row?_lt hr3
      have hd := gdrop1_any x y gb e W3 ((row?_below hB3 (by omega)).trans HRow2.out)
      obtain ⟨q, hq⟩ : ∃ q, q = onB e.u (x, y) := ⟨_, rfl⟩
      rw [← hq] at hd
      have HQ := Lib.hid hq
      refine hd.mono ?_
      clear hd hq
      rintro r w4 ⟨rfl, hb4⟩
      have hB4 : Below w2.heap.size w2 w4 := hB3.trans (hb4.mono hB3.size)
      have HR4 := Lib.hid (HR2.out.congr (hB4.block _ (by omega)) (hB4.block _ hR2l))
      have hleft : w4.rangeLeft bE w.heap.size = w2.rangeLeft bE w.heap.size := left_congr (hB4.block _ (by omega)) (hB4.block _ hR2l)
      have HLt4 : Hid (w4.rangeLeft bE w.heap.size < wr.rangeLeft bE w.heap.size) := Lib.hid (by rw [hleft]; exact HLt.out)
      have hr4 := (row?_below hb4 hl3).trans hr3
      have HS4 : Hid (Same (fun k => k < w.heap.size ∧ k ≠ bE) w w4) := Lib.hid (HS2.out.trans ((Same.of_below hB4).mono fun k hk h => hk))
      have HNd2 : Hid (NoDup (r1 ++ r2)) := Lib.hid (List.Pairwise.sublist (List.Sublist.append_left (List.sublist_cons_self _ _) _) HNd.out)
      have HIn2 : Hid (∀ p ∈ r1 ++ r2, p ∈ E) := Lib.hid fun p hp => HIn.out p (by
        rcases List.mem_append.1 hp with h | h
        · exact List.mem_append_left _ h
        · exact List.mem_append_right _ (List.mem_cons_of_mem _ h))
      have hxok := HOK.out _ HZ.out
      have HXok := Lib.hid hxok
      clear hb4 hB3 hB4 hr3 hl3 hleft HR2 HS2 HRow2 HLt HIn hxok
      cases q with
      | false =>
        clear hr4
        go_wp2_with fail
        go_roundw
        case rel => exact ⟨L, r1 ++ r2, HSub.out, struck_skip HQ.out.symm HM.out, HNd2.out, HIn2.out, HR4.out, HS4.out⟩
        case measure => exact HLt4.out
      | true =>
        obtain ⟨hxr, hmem⟩ := struck_del HND.out HNd.out HZ.out HQ.out.symm HM.out
        have HXr := Lib.hid hxr
        have HMem := Lib.hid hmem
        clear hxr hmem
        obtain ⟨w5, hrun, hR5, hg5, hs5, hl5⟩ := HR4.out.drop goodE Tryz.underlying112 HXok.out HXr.out 0
        have hrun1 : (Builtin.delete_ #[112, 117] 0 #[.map (some bE), .agg #[.int .i64 x.1, .int .i64 x.2]]).run Tryz.prog w4 = .ok (.tuple #[]) w5 := hrun
        clear hrun
        have HR5 := Lib.hid hR5
        have HL5 := Lib.hid (Nat.lt_of_le_of_lt hl5 HLt4.out)
        have HS5 : Hid (Same (fun k => k < w.heap.size ∧ k ≠ bE) w w5) := Lib.hid (HS4.out.trans ((same_grown hg5).mono fun k hk h => by simpa using h.2))
        clear hR5 hg5 hs5 hl5
        go_wp2_with fail
        go_roundw
        case rel => exact ⟨Pal.del x L, r1 ++ r2, List.filter_sublist.trans HSub.out, HMem.out, HNd2.out, HIn2.out, HR5.out, HS5.out⟩
        case measure => exact HL5.out
set_option maxHeartbeats 2000000 in
theorem gdrop_any (e : Ed) (he : e.Wf) (g bV bE : Nat) (G : Gr) (hG : G.Ok) (w : World) (h : GOk w g bV bE G) :
    Calls Tryz.prog 122 #[.pointer (some ⟨g, 0, none⟩), .agg (edC e)] w fun r w' => r = .returned (.tuple #[]) ∧ Did w w' g bV bE { V := Pal.del e.u G.V, E := G.E.filter fun p => !onB e.u p } := by
  have H0 := Lib.hid h
  have HG := Lib.hid hG
  have HE := Lib.hid he
  have hgl := h.lt
  have hgn := h.gne
  have hbn := h.ne
  have hed : edC e = #[.int .i64 e.op, .int .i64 e.u, .int .i64 e.v, .int .u8 (e.lab : Int), .int .i64 e.wt] := rfl
  rw [hed]
  clear h he hG hed
  go_enter Tryz.func122, Tryz.ntmps122
  go_wp2_with fail
  generalize hW0 : World.alloc w _ = W0
  obtain ⟨hre, hB0⟩ := alloc_row hW0
  have hs0 := row?_lt hre
  clear hW0
  have k0 := cell?_row (i := 0) (H0.out.below hB0).row
  have k1 := cell?_row (i := 1) hre
  simp at k0 k1
  have HB0 := Lib.hid hB0
  have HRE := Lib.hid hre
  clear hre hB0
  refine wp_region_free_tail (fun w' => w' = W0.drew) 6 (by kernel_rfl) (by kernel_rfl) rfl ?_
  simp only [List.take_succ_cons, List.take_zero, List.drop_succ_cons, List.drop_zero]
  repeat (apply wpFree_still; (intro w hw; subst hw; go_simp; (try go_ints); (first | with_reducible rfl | (go_simp; with_reducible rfl))); with_reducible rfl; (intro K hK; go_simp; (try go_ints); refine hK _ ?_; clear hK K))
  with_reducible refine wpFree_nil ?_
  rintro w' rfl
  refine wpList_delOwn rfl _ _ _ rfl goodV Tryz.underlying108 bV G.V rfl (H0.out.below HB0.out).V.drew e.u rfl HE.out.u ?_
  intro w1 hown hgr hsz
  have hS : Same (fun k => k ≠ bV) w w1 := ((Same.of_below HB0.out).mono fun k hk _ => hk).trans ((Same.drew _ _).trans ((same_grown hgr).mono fun k _ hk => by simpa using hk))
  have hS0 : Same (fun k => k ≠ bV) W0 w1 := (Same.drew _ _).trans ((same_grown hgr).mono fun k _ hk => by simpa using hk)
  have hre1 := (row?_congr (hS0.block _ hs0 (by omega))).trans HRE.out
  have hE1 := H0.out.E.congr (hS.block _ hgl.2.2 (fun h => hbn h.symm))
  have hg1 := (row?_congr (hS.block _ hgl.1 hgn.1)).trans H0.out.row
  have k3 := cell?_row (i := 1) hg1
  simp at k3
  have HDE := Lib.hid (gdelE_any e w.heap.size bE G.E HG.out.sE w1 hre1 (by omega) hE1)
  have HS := Lib.hid hS
  have HOwn := Lib.hid hown
  have HG1 := Lib.hid hg1
  clear hS hS0 hown hgr hre1 hE1 hg1 k0 k1
  go_wp2_with fail
  refine HDE.out.mono ?_
  rintro r w2 ⟨rfl, hE2, hS2⟩
  have hD : Did w w2 g bV bE { V := Pal.del e.u G.V, E := G.E.filter fun p => !onB e.u p } := by
    have hs1 := HS.out.size
    refine ⟨⟨(row?_congr (hS2.block _ (by omega) hgn.2)).trans HG1.out, HOwn.out.congr (hS2.block _ (by omega) hbn), hE2, hbn⟩, ?_⟩
    exact (HS.out.mono fun k _ h => h.1).trans (hS2.mono fun k _ h => h.2)
  have HD := Lib.hid hD
  clear hE2 hS2 hD k3
  go_wp2_with fail
  go_end0
  exact ⟨rfl, HD.out⟩
set_option maxRecDepth 10000 in
set_option maxHeartbeats 1000000 in
theorem gapply1_any (e : Ed) (he : e.Wf) (hop : e.op = 1) (g bV bE : Nat) (G : Gr) (hG : G.Ok) (w : World) (h : GOk w g bV bE G) :
    Calls Tryz.prog 12 #[.pointer (some ⟨g, 0, none⟩), .agg (edC e)] w fun r w' => r = .returned (.int .i64 (G.wrong e : Int)) ∧ Did w w' g bV bE (G.app e) := by
  have HOP := Lib.hid hop
  have H0 := Lib.hid h
  have HG := Lib.hid hG
  have HE := Lib.hid he
  have HWf := wrong_fits G e
  obtain ⟨n, hn⟩ : ∃ n, n = G.wrong e := ⟨_, rfl⟩
  have hed : edC e = #[.int .i64 e.op, .int .i64 e.u, .int .i64 e.v, .int .u8 (e.lab : Int), .int .i64 e.wt] := rfl
  have HN := Lib.hid hn
  rw [hed, ← hn]
  clear h he hG hed hn hop
  go_enter Tryz.func12, Tryz.ntmps12
  go_wp2_with fail
  generalize hW0 : World.alloc w _ = W0
  obtain ⟨hre, hB0⟩ := alloc_row hW0
  have hs0 := row?_lt hre
  clear hW0
  have HW := Lib.hid (gwrong_any e HE.out g bV bE G W0 (H0.out.below hB0))
  have HB0 := Lib.hid hB0
  have HRE := Lib.hid fun W (hb : Below W0.heap.size W0 W) => show W.cell? ⟨w.heap.size, 0, none⟩ = some (.int .i64 e.op) ∧ W.cell? ⟨w.heap.size, 1, none⟩ = some (.int .i64 e.u) ∧ W.cell? ⟨w.heap.size, 2, none⟩ = some (.int .i64 e.v) ∧ W.cell? ⟨w.heap.size, 3, none⟩ = some (.int .u8 (e.lab : Int)) ∧ W.cell? ⟨w.heap.size, 4, none⟩ = some (.int .i64 e.wt) from
    ⟨(cell?_row (i := 0) ((row?_below hb (by omega)).trans hre)).trans rfl, (cell?_row (i := 1) ((row?_below hb (by omega)).trans hre)).trans rfl, (cell?_row (i := 2) ((row?_below hb (by omega)).trans hre)).trans rfl, (cell?_row (i := 3) ((row?_below hb (by omega)).trans hre)).trans rfl, (cell?_row (i := 4) ((row?_below hb (by omega)).trans hre)).trans rfl⟩
  clear hre hB0
  rw [← HN.out] at HW
  refine HW.out.mono ?_
  rintro r W1 ⟨rfl, hb1⟩
  have hbw := HB0.out.trans (hb1.mono HB0.out.size)
  have HB1 := Lib.hid hb1
  have HBW := Lib.hid hbw
  clear HW hb1 hbw
  by_cases hn0 : n = 0
  · subst hn0
    obtain ⟨op, u, v, lab, wt⟩ := e
    have happ := HN.out
    have HD := Lib.hid fun W => gdeeds_any W
    have HDrop := Lib.hid fun W (hb : Below W1.heap.size W1 W) => gdrop_any ⟨op, u, v, lab, wt⟩ HE.out g bV bE G HG.out W (H0.out.below (HBW.out.trans (hb.mono HBW.out.size)))
    have HApp : Hid (G.app ⟨op, u, v, lab, wt⟩ = G.doit ⟨op, u, v, lab, wt⟩) := Lib.hid (by unfold Gr.app; rw [if_pos happ.symm])
    clear happ
    have hop := HOP.out
    simp only at hop
    clear HOP
    unfold edC at HDrop
    subst hop
    have hix := fun w => gindex_any #[.func (.func 121) #[] #[], .func (.func 122) #[] #[], .func (.func 123) #[] #[], .func (.func 124) #[] #[], .func (.func 125) #[] #[], .func (.func 126) #[] #[], .func (.func 127) #[] #[], .func (.func 128) #[] #[]] 1 _ w (by omega) rfl
    simp only [show ((1 : Nat) : Int) = 1 from rfl] at hix
    go_wp2_with fail
    refine wp_region_free_tail (fun W => Below W1.heap.size W1 W) 6 (by kernel_rfl) (by kernel_rfl) (Below.refl _ _).drew ?_
    simp only [List.take_succ_cons, List.take_zero, List.drop_succ_cons, List.drop_zero]
    apply wpFree_call
    · intro w hw; go_simp; first | with_reducible rfl | with_reducible exact ⟨rfl, rfl⟩
    · with_reducible rfl
    · intro w hw; exact (HD.out w).mono fun e w' ⟨h1, h2⟩ => ⟨h1, hw.trans (h2.mono hw.size)⟩
    intro K hK; go_simp; (try go_ints); refine hK _ ?_; clear hK K
    repeat (apply wpFree_still; (intro w hw; obtain ⟨k1, k2, k3, k4, k5⟩ := HRE.out w (HB1.out.trans (hw.mono HB1.out.size)); clear hw; go_simp; (try go_ints); (first | with_reducible rfl | (go_simp; with_reducible rfl))); with_reducible rfl; (intro K hK; go_simp; (try go_ints); refine hK _ ?_; clear hK K))
    with_reducible refine wpFree_nil ?_
    intro w' hb'
    have HB' := Lib.hid hb'
    clear hb'
    go_wp2_with fail
    refine (HDrop.out _ HB'.out).mono ?_
    rintro r w5 ⟨rfl, hd⟩
    have HDid := Lib.hid (hd.after (HBW.out.trans (HB'.out.mono HBW.out.size)))
    clear hd
    go_wp2_with fail
    go_ret
    refine ⟨rfl, ?_⟩
    rw [HApp.out]
    exact HDid.out
  · have h1 : ((n : Int) == 0) = false := by simpa using hn0
    have h2 : ((n : Int) != 0) = true := by simpa using hn0
    have h3 : (n != 0) = true := by simpa using hn0
    go_wp2_with fail
    go_ret
    refine ⟨rfl, ?_⟩
    unfold Gr.app
    rw [← HN.out, if_neg hn0]
    exact Did.of_below H0.out HBW.out
end Go.Proofs.YtmmhngjndnonhaaGreatDoor
