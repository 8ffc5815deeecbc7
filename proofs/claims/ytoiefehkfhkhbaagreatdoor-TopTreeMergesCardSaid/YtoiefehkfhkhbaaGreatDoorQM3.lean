/-
  Walks: slices.Sort and slices.Compact at []int on a row; a list appended to a row.
  Walks: present of a merge.
  Walks: Lists of a merge.
-/
import Derived.Test.YtoiefehkfhkhbaaGreatDoorQM2
namespace Go.Pal
open Go Go.RowKit Go.Sort Go.Lib
theorem putRow_block (enc : Int → Value) (w : World) (blk off : Nat) (d : Array Int) (k : Nat) (h : k ≠ blk) : (putRow enc w blk off d).heap[k]? = w.heap[k]? := by
  unfold putRow mapBlock
  simp only [Array.getElem?_modify]
  rw [if_neg fun e => h e.symm]
/-- A slice value whose row, not frozen, holds a list of integers; nil or not where the list is empty. -/
def HoldI (B : Nat) (w : World) (v : Value) (l : List Int) : Prop :=
  ∃ a c, v = .slice a l.length c ∧ (l = [] ∨ ∃ b off, a = some ⟨b, off, none⟩ ∧ B ≤ b ∧ b < w.heap.size ∧ l.length ≤ c ∧ Holds (Value.int .i64) w b off l.toArray)
theorem HoldI.rdl {B : Nat} {w : World} {v : Value} {l : List Int} (h : HoldI B w v l) : RdL w v l := by
  obtain ⟨a, c, hv, h⟩ := h
  refine ⟨a, c, hv, ?_⟩
  rcases h with h | ⟨b, off, ha, hB, hb, -, hH⟩
  · exact .inl h
  · refine .inr ⟨b, off, ha, hb, fun i z hz => ?_⟩
    have hi := (List.getElem?_eq_some_iff.1 hz).1
    rw [(hH i (by simpa using hi)).1]
    have : l.toArray[i]! = z := by simp [hi, (List.getElem?_eq_some_iff.1 hz).2]
    rw [this]
theorem below_sorted (B : Nat) (enc : Int → Value) (w : World) (n b off : Nat) (d : Array Int) (os : Array Obj) (hB : B ≤ b) (hb : B ≤ w.heap.size) : Below B w (grow (putRow enc (Sort.ahead w n) b off d) os) := by
  refine ⟨rfl, rfl, rfl, ?_, fun k hk => ?_⟩
  · simp [Sort.ahead]
  · rw [heap_grow_old _ _ (by rw [size_putRow]; show k < w.heap.size; omega), putRow_block _ _ _ _ _ _ (by omega)]
    rfl
end Go.Pal
namespace Go.Proofs.YtoiefehkfhkhbaaGreatDoor
open Go Go.RowKit Go.Pal Go.Shelf Go.Sort Go.Lib

theorem OwnI.holdI {B : Nat} {w : World} {v : Value} {l : List Int} (h : OwnI B w v l) : HoldI B w v l := by
  obtain ⟨a, c, rfl⟩ := h.sl
  have hcell := fun j z (hz : l[j]? = some z) => h.cell hz
  rcases h.2 with ⟨h1, h2⟩ | ⟨g, cap, cur, h1, hB, hg, hle, _⟩
  · have := List.length_eq_zero_iff.1 h2
    exact ⟨a, c, rfl, .inl this⟩
  · simp only [Value.slice.injEq] at h1
    obtain ⟨rfl, -, rfl⟩ := h1
    refine ⟨_, _, rfl, .inr ⟨g, 0, rfl, hB, (Array.getElem?_eq_some_iff.1 hg).1, hle, fun j hj => ?_⟩⟩
    have hj' : j < l.length := by simpa using hj
    have hz : l[j]? = some l[j] := List.getElem?_eq_getElem hj'
    obtain ⟨g', hg', -, -, hc⟩ := hcell j _ hz
    simp only [Option.some.injEq, Addr.mk.injEq] at hg'
    obtain ⟨rfl, -, -⟩ := hg'
    refine ⟨?_, frozen_of_row w g (0 + j) cur _ hg⟩
    rw [Nat.zero_add, hc]
    simp [hj']

theorem sort_any (l : List Int) (v : Value) (B : Nat) (w : World) (hv : HoldI B w v l) (hlen : l.length ≤ 1000000) (hB : B ≤ w.heap.size) :
    Calls Tryz.prog 67 #[v] w fun e w' => e = .returned (.tuple #[]) ∧ HoldI B w' v (l.mergeSort fun x y => decide (x ≤ y)) ∧ Below B w w' := by
  obtain ⟨a, c, rfl, h⟩ := hv
  rcases h with rfl | ⟨b, off, rfl, hBb, hb, hc, hH⟩
  · refine (AnyM.slices_Sort_int_none Tryz.laysSortI a c w).mono ?_
    rintro e w' ⟨rfl, rfl⟩
    exact ⟨rfl, ⟨a, c, by simp, .inl (by simp)⟩, Below.refl _ _⟩
  · refine (calls_of_every_depth fun D => AnySM.slices_Sort_int_in Tryz.laysSortI D b off c l w hH hb (by omega)).mono ?_
    rintro e w' ⟨rfl, n, os, rfl⟩
    refine ⟨rfl, ⟨_, c, by rw [List.length_mergeSort], .inr ⟨b, off, rfl, hBb, ?_, by rw [List.length_mergeSort]; exact hc, ?_⟩⟩, below_sorted _ _ _ _ _ _ _ _ hBb hB⟩
    · rw [size_grow, size_putRow]
      show b < w.heap.size + _
      omega
    · refine holds_grow _ _ _ _ _ _ (by rw [size_putRow]; exact hb) ?_
      exact holds_putRow _ (Sort.ahead w n) b off l.toArray _ (fun j hj => hH j hj) (by simp)

theorem compact_any (l : List Int) (v : Value) (B : Nat) (w : World) (hv : HoldI B w v l) (hlen : l.length ≤ 1000000) (hB : B ≤ w.heap.size) :
    Calls Tryz.prog 68 #[v] w fun e w' => ∃ v', e = .returned v' ∧ RdL w' v' (compactUpTo l.toArray l.length) ∧ Below B w w' := by
  obtain ⟨a, c, rfl, h⟩ := hv
  rcases h with rfl | ⟨b, off, rfl, hBb, hb, hc, hH⟩
  · go_enter Tryz.func68, Tryz.ntmps68
    go_wp2_with fail
    go_ret
    exact ⟨_, rfl, ⟨a, c, rfl, .inl rfl⟩, Below.refl _ _⟩
  · have hsz : l.toArray.size = l.length := by simp
    have key := AnyE.slices_Compact Tryz.laysCompact (Value.int .i64) (fun _ => rfl) (EqlAt.intD _ _ _) (NeqAt.intD _ _ _) 0 Tryz.zeroValue3 b off c l.toArray w hH (by omega) (by omega)
    rw [hsz] at key
    refine key.mono ?_
    rintro e w' ⟨rfl, q, rfl⟩
    have hle : (compactUpTo l.toArray l.length).length ≤ l.length := by
      unfold compactUpTo
      rw [List.length_map]
      exact Nat.le_trans (List.length_filter_le _ _) (by simp)
    refine ⟨_, rfl, ⟨_, c, rfl, .inr ⟨b, off, rfl, by rw [size_putRow]; exact hb, fun i z hz => ?_⟩⟩, ?_⟩
    · have hi := (List.getElem?_eq_some_iff.1 hz).1
      have hH2 := holds_putRow (Value.int .i64) (Sort.ahead w q) b off l.toArray (compactUpTo l.toArray l.length ++ List.replicate (l.length - (compactUpTo l.toArray l.length).length) 0).toArray (fun j hj => hH j hj) (by simp; omega)
      rw [(hH2 i (by simp; omega)).1]
      have : (compactUpTo l.toArray l.length ++ List.replicate (l.length - (compactUpTo l.toArray l.length).length) 0).toArray[i]! = z := by
        have h2 : (compactUpTo l.toArray l.length ++ List.replicate (l.length - (compactUpTo l.toArray l.length).length) 0)[i]? = some z := by rw [List.getElem?_append_left hi]; exact hz
        have h3 := (List.getElem?_eq_some_iff.1 h2)
        rw [getElem!_pos _ i (by simpa using h3.1)]
        simpa using h3.2
      rw [this]
    · have := below_sorted B (Value.int .i64) w q b off (compactUpTo l.toArray l.length ++ List.replicate (l.length - (compactUpTo l.toArray l.length).length) 0).toArray #[] hBb hB
      rwa [grow_empty] at this

/-- A list appended to a row of the call's own. -/
theorem wpList_appV {ops : Array Oper} {rest : List Oper} {o : Oper} {a : Act} {Q : Exit → Act → World → Prop} {w : World} (hgd : o.guard = none) (s x : Operand)
    (ho : o.op = .call { callee := .builtin .append, args := #[s, x], argTypes := #[34, 34] }) (B : Nat) (v u : Value) (ns ms : List Int) (hs : a.eval s = v) (hown : OwnI B w v ns) (hx : a.eval x = u) (hu : RdL w u ms) (hul : u = .slice none 0 0 ∨ ∃ b off n c, u = .slice (some ⟨b, off, none⟩) n c)
    (hlen : ns.length + ms.length < 1000000) (hB : B ≤ w.heap.size)
    (h : ∀ v' w', OwnI B w' v' (ns ++ ms) → Below B w w' → wpList Tryz.prog ops Q rest (a.put o.dst v') w') : wpList Tryz.prog ops Q (o :: rest) a w := by
  obtain ⟨i0, hi, hz0, hz1, hz2⟩ := info_parts infoInt
  refine wpList_plain hgd fun K hK => ?_
  rcases hul with rfl | ⟨b, off, n, c, rfl⟩
  · have hms : ms = [] := by
      obtain ⟨a', c', h1, h2⟩ := hu
      simp only [Value.slice.injEq] at h1
      exact List.length_eq_zero_iff.1 h1.2.1.symm
    subst hms
    have hr := run_append_owned_none (P := Tryz.prog) (w := w) B 34 o.type 3 i0 1 Tryz.underlying34 hi v ns.length _ hown
    unfold Oper.wp execOp
    simp only [ho, resolve, invoke, builtin, Sem.run_bind, Sem.run_pure, Result.andThen_ok, List.map_toArray, List.map_cons, List.map_nil, hs, hx, hr]
    exact hK _ _ (h v w (by rw [List.append_nil]; exact hown) (Below.refl _ _))
  · obtain ⟨a', c', h1, h2⟩ := hu
    simp only [Value.slice.injEq] at h1
    obtain ⟨rfl, rfl, rfl⟩ := h1
    obtain ⟨v', w', hr, h3, h4, -⟩ := run_append_own (P := Tryz.prog) w B 34 o.type 3 i0 (.int .i64 0) 1 8 Tryz.underlying34 hi hz0 hz1 hz2 rfl (by decide) v ns.length (ns.map (Value.int .i64)) hown ⟨b, off, none⟩ ms.length c (ms.map (Value.int .i64)) (by simp)
      (fun j u hj => by
        rw [List.getElem?_map] at hj
        obtain ⟨z, hz, rfl⟩ := Option.map_eq_some_iff.1 hj
        rcases h2 with h2 | ⟨b', off', h5, -, h6⟩
        · rw [h2] at hz; simp at hz
        · simp only [Option.some.injEq, Addr.mk.injEq] at h5
          obtain ⟨rfl, rfl, -⟩ := h5
          have e : (⟨b, off, none⟩ : Addr).add j = ⟨b, off + j, none⟩ := by unfold Addr.add; split <;> simp_all
          rw [e]
          exact h6 j z hz) (fun u hu => by obtain ⟨z, -, rfl⟩ := List.mem_map.1 hu; rfl) (by unfold maxLen; omega) (by omega) hB
    unfold Oper.wp execOp
    simp only [ho, resolve, invoke, builtin, Sem.run_bind, Sem.run_pure, Result.andThen_ok, List.map_toArray, List.map_cons, List.map_nil, hs, hx, hr]
    refine hK _ _ (h v' w' ?_ ((Below.refl B w).grown h4 hB hown.block))
    unfold OwnI
    simpa using h3
end Go.Proofs.YtoiefehkfhkhbaaGreatDoor
namespace Go.Proofs.YtoiefehkfhkhbaaGreatDoor
open Go Go.RowKit Go.Pal Go.Shelf Go.Sort Go.Lib

/-- What the operations of a region yield: one fixed value, or a row of the call's own. -/
def PΦ (B : Nat) (fix : Nat → Option Value) (own : Nat → Option (List Int)) (k : Nat) (v : Value) (W : World) : Prop := (∀ u, fix k = some u → v = u) ∧ ∀ l, own k = some l → OwnI B W v l
theorem pΦ_on (B : Nat) (fix : Nat → Option Value) (own : Nat → Option (List Int)) (k : Nat) (v : Value) (w w' : World) (h : PΦ B fix own k v w) (hb : Below w.heap.size w w') : PΦ B fix own k v w' := ⟨h.1, fun l hl => (h.2 l hl).below hb (Nat.le_refl _)⟩
theorem OwnI.shape {B : Nat} {w : World} {v : Value} {l : List Int} (h : OwnI B w v l) : v = .slice none 0 0 ∨ ∃ b off n c, v = .slice (some ⟨b, off, none⟩) n c := by
  rcases h.2 with ⟨h1, _⟩ | ⟨g, cap, cur, h1, _⟩
  · exact .inl h1
  · exact .inr ⟨_, _, _, _, h1⟩

set_option maxRecDepth 10000 in
set_option maxHeartbeats 2000000 in
theorem present_any (LL LR LF LS : List Int) (vl vr vf vs : Value) (m1 m2 n : Nat) (w : World) (hl : RdL w vl LL) (hr : RdL w vr LR) (hf : RdL w vf LF) (hs : RdL w vs LS) (hm1 : m1 < 65536) (hm2 : m2 < 65536) (hll : LL.length ≤ 1024) (hlr : LR.length ≤ 1024)
    (hL : ∀ x ∈ LL, 0 ≤ x ∧ x < (n : Int)) (hR : ∀ x ∈ LR, 0 ≤ x ∧ x < (n : Int)) :
    Calls Tryz.prog 33 #[.agg #[vl, vr, vf, vs], .int .u16 (m1 : Int), .int .u16 (m2 : Int)] w fun e w' => ∃ v', e = .returned v' ∧ RdL w' v' (bothTo (maskTo m1 LL LL.length) (maskTo m2 LR LR.length) n) ∧ Below w.heap.size w w' := by
  have HVLw := Lib.hid hl
  have HVRw := Lib.hid hr
  obtain ⟨al, cl, rfl⟩ := hl.sl
  obtain ⟨ar, cr, rfl⟩ := hr.sl
  obtain ⟨af, cf, rfl⟩ := hf.sl
  obtain ⟨ax, cs, rfl⟩ := hs.sl
  have HL := Lib.hid hL
  have HR := Lib.hid hR
  clear hl hr hf hs hL hR
  go_enter Tryz.func33, Tryz.ntmps33
  go_wp2_with fail
  obtain ⟨W0, hW0⟩ : ∃ W0, W0 = w.alloc (Obj.cells #[.slice al LL.length cl, .slice ar LR.length cr, .slice af LF.length cf, .slice ax LS.length cs] 36) := ⟨_, rfl⟩
  rw [← hW0]
  have hB0 : Below w.heap.size w W0 := by rw [hW0]; exact (Below.refl _ w).alloc (Nat.le_refl _) _
  have hs0 : W0.heap.size = w.heap.size + 1 := by rw [hW0]; simp
  have hr0 : row? W0 w.heap.size = some #[.slice al LL.length cl, .slice ar LR.length cr, .slice af LF.length cf, .slice ax LS.length cs] := by rw [hW0]; exact row?_alloc_at _ _ _ _ rfl
  have HK0 := Lib.hid fun W (h : Below W0.heap.size W0 W) => (cell?_row (i := 0) ((row?_below h (by omega)).trans hr0)).trans (show _ = some (Value.slice al LL.length cl) from rfl)
  have HK1 := Lib.hid fun W (h : Below W0.heap.size W0 W) => (cell?_row (i := 1) ((row?_below h (by omega)).trans hr0)).trans (show _ = some (Value.slice ar LR.length cr) from rfl)
  have HVL := Lib.hid (HVLw.out.below hB0)
  have HVR := Lib.hid (HVRw.out.below hB0)
  have HB0 := Lib.hid hB0
  have hs0a : w.heap.size + 1 ≤ W0.heap.size := by omega
  clear hW0 hB0 hr0 hs0
  refine wp_region_res 16 (fun W => Below W0.heap.size W0 W) (PΦ W0.heap.size (fun k => [some (.int .u16 (m1 : Int)), some (.pointer (some ⟨w.heap.size, 0, none⟩)), some (.slice al LL.length cl), some (.int .i64 (LL.length : Int)), none, some (.pointer (some ⟨w.heap.size, 0, none⟩)), some (.slice al LL.length cl), none,
      some (.int .u16 (m2 : Int)), some (.pointer (some ⟨w.heap.size, 1, none⟩)), some (.slice ar LR.length cr), some (.int .i64 (LR.length : Int)), none, some (.pointer (some ⟨w.heap.size, 1, none⟩)), some (.slice ar LR.length cr), none].getD k none)
      (fun k => if k = 4 then some (portsTo m1 (min LL.length 16)) else if k = 7 then some (maskTo m1 LL LL.length) else if k = 12 then some (portsTo m2 (min LR.length 16)) else if k = 15 then some (maskTo m2 LR LR.length) else none)) (by kernel_rfl) (by kernel_rfl) (by kernel_rfl) (by kernel_rfl) (by kernel_rfl) (by kernel_rfl) (pΦ_on _ _ _) (Below.refl _ _).drew ?_ ?_
  · intro k hk
    rcases k with _ | _ | _ | _ | _ | _ | _ | _ | _ | _ | _ | _ | _ | _ | _ | _ | k
    · refine resStep_of rfl fun a' W hS hold hdep K hK => ?_
      have h1 := hold 1 _ (by kernel_rfl) rfl
      unfold Oper.wp
      go_simp
      (try go_ints)
      exact hK _ W ⟨fun u hu => Option.some.inj hu, fun l hl => nomatch hl⟩ hS (Below.refl _ _)
    · refine resStep_of rfl fun a' W hS hold hdep K hK => ?_
      have h1 := hold 3 _ (by kernel_rfl) rfl
      unfold Oper.wp
      go_simp
      (try go_ints)
      exact hK _ W ⟨fun u hu => Option.some.inj hu, fun l hl => nomatch hl⟩ hS (Below.refl _ _)
    · refine resStep_of rfl fun a' W hS hold hdep K hK => ?_
      obtain ⟨vd, h1, hfd, -⟩ := hdep 1 9 (by kernel_rfl) (by rfl)
      cases hfd _ rfl
      have k1 := (HK0.out W hS)
      unfold Oper.wp
      go_simp
      (try go_ints)
      exact hK _ W ⟨fun u hu => Option.some.inj hu, fun l hl => nomatch hl⟩ hS (Below.refl _ _)
    · refine resStep_of rfl fun a' W hS hold hdep K hK => ?_
      obtain ⟨vd, h1, hfd, -⟩ := hdep 2 10 (by kernel_rfl) (by rfl)
      cases hfd _ rfl
      unfold Oper.wp
      go_simp
      (try go_ints)
      exact hK _ W ⟨fun u hu => Option.some.inj hu, fun l hl => nomatch hl⟩ hS (Below.refl _ _)
    · refine resStep_of rfl fun a' W hS hold hdep K hK => ?_
      obtain ⟨vd, h1, hfd, -⟩ := hdep 0 8 (by kernel_rfl) (by rfl)
      cases hfd _ rfl
      obtain ⟨vd, h2, hfd, -⟩ := hdep 3 11 (by kernel_rfl) (by rfl)
      cases hfd _ rfl
      unfold Oper.wp
      go_simp
      refine (ports_any m1 LL.length W (by omega) (by omega)).mono ?_
      rintro e w' ⟨v', rfl, hO, hb⟩
      exact hK _ _ ⟨fun u hu => (nomatch hu), fun l hl => by cases (Option.some.inj hl : portsTo m1 (min LL.length 16) = l); exact hO.lower hS.size⟩ (hS.trans (hb.mono hS.size)) hb
    · refine resStep_of rfl fun a' W hS hold hdep K hK => ?_
      have h1 := hold 3 _ (by kernel_rfl) rfl
      unfold Oper.wp
      go_simp
      (try go_ints)
      exact hK _ W ⟨fun u hu => Option.some.inj hu, fun l hl => nomatch hl⟩ hS (Below.refl _ _)
    · refine resStep_of rfl fun a' W hS hold hdep K hK => ?_
      obtain ⟨vd, h1, hfd, -⟩ := hdep 5 13 (by kernel_rfl) (by rfl)
      cases hfd _ rfl
      have k1 := (HK0.out W hS)
      unfold Oper.wp
      go_simp
      (try go_ints)
      exact hK _ W ⟨fun u hu => Option.some.inj hu, fun l hl => nomatch hl⟩ hS (Below.refl _ _)
    · refine resStep_of rfl fun a' W hS hold hdep K hK => ?_
      obtain ⟨vp, h1, -, hop⟩ := hdep 4 12 (by kernel_rfl) (by rfl)
      have hop := hop _ rfl
      obtain ⟨vd, h2, hfd, -⟩ := hdep 6 14 (by kernel_rfl) (by rfl)
      cases hfd _ rfl
      have HM := Lib.hid (mapped_any _ _ vp (.slice al LL.length cl) W hop.rdl (HVL.out.below hS) (by have := portsTo_length m1 (min LL.length 16); omega) (fun z hz => by obtain ⟨i, rfl, hi⟩ := portsTo_lt hz; omega))
      clear hop
      unfold Oper.wp
      go_simp
      refine HM.out.mono ?_
      rintro e w' ⟨v', rfl, hO, hb⟩
      rw [mapped_ports (by omega) rfl] at hO
      exact hK _ _ ⟨fun u hu => (nomatch hu), fun l hl => by cases (Option.some.inj hl : maskTo m1 LL LL.length = l); exact hO.lower hS.size⟩ (hS.trans (hb.mono hS.size)) hb
    · refine resStep_of rfl fun a' W hS hold hdep K hK => ?_
      have h1 := hold 2 _ (by kernel_rfl) rfl
      unfold Oper.wp
      go_simp
      (try go_ints)
      exact hK _ W ⟨fun u hu => Option.some.inj hu, fun l hl => nomatch hl⟩ hS (Below.refl _ _)
    · refine resStep_of rfl fun a' W hS hold hdep K hK => ?_
      have h1 := hold 3 _ (by kernel_rfl) rfl
      unfold Oper.wp
      go_simp
      (try go_ints)
      exact hK _ W ⟨fun u hu => Option.some.inj hu, fun l hl => nomatch hl⟩ hS (Below.refl _ _)
    · refine resStep_of rfl fun a' W hS hold hdep K hK => ?_
      obtain ⟨vd, h1, hfd, -⟩ := hdep 9 17 (by kernel_rfl) (by rfl)
      cases hfd _ rfl
      have k1 := (HK1.out W hS)
      unfold Oper.wp
      go_simp
      (try go_ints)
      exact hK _ W ⟨fun u hu => Option.some.inj hu, fun l hl => nomatch hl⟩ hS (Below.refl _ _)
    · refine resStep_of rfl fun a' W hS hold hdep K hK => ?_
      obtain ⟨vd, h1, hfd, -⟩ := hdep 10 18 (by kernel_rfl) (by rfl)
      cases hfd _ rfl
      unfold Oper.wp
      go_simp
      (try go_ints)
      exact hK _ W ⟨fun u hu => Option.some.inj hu, fun l hl => nomatch hl⟩ hS (Below.refl _ _)
    · refine resStep_of rfl fun a' W hS hold hdep K hK => ?_
      obtain ⟨vd, h1, hfd, -⟩ := hdep 8 16 (by kernel_rfl) (by rfl)
      cases hfd _ rfl
      obtain ⟨vd, h2, hfd, -⟩ := hdep 11 19 (by kernel_rfl) (by rfl)
      cases hfd _ rfl
      unfold Oper.wp
      go_simp
      refine (ports_any m2 LR.length W (by omega) (by omega)).mono ?_
      rintro e w' ⟨v', rfl, hO, hb⟩
      exact hK _ _ ⟨fun u hu => (nomatch hu), fun l hl => by cases (Option.some.inj hl : portsTo m2 (min LR.length 16) = l); exact hO.lower hS.size⟩ (hS.trans (hb.mono hS.size)) hb
    · refine resStep_of rfl fun a' W hS hold hdep K hK => ?_
      have h1 := hold 3 _ (by kernel_rfl) rfl
      unfold Oper.wp
      go_simp
      (try go_ints)
      exact hK _ W ⟨fun u hu => Option.some.inj hu, fun l hl => nomatch hl⟩ hS (Below.refl _ _)
    · refine resStep_of rfl fun a' W hS hold hdep K hK => ?_
      obtain ⟨vd, h1, hfd, -⟩ := hdep 13 21 (by kernel_rfl) (by rfl)
      cases hfd _ rfl
      have k1 := (HK1.out W hS)
      unfold Oper.wp
      go_simp
      (try go_ints)
      exact hK _ W ⟨fun u hu => Option.some.inj hu, fun l hl => nomatch hl⟩ hS (Below.refl _ _)
    · refine resStep_of rfl fun a' W hS hold hdep K hK => ?_
      obtain ⟨vp, h1, -, hop⟩ := hdep 12 20 (by kernel_rfl) (by rfl)
      have hop := hop _ rfl
      obtain ⟨vd, h2, hfd, -⟩ := hdep 14 22 (by kernel_rfl) (by rfl)
      cases hfd _ rfl
      have HM := Lib.hid (mapped_any _ _ vp (.slice ar LR.length cr) W hop.rdl (HVR.out.below hS) (by have := portsTo_length m2 (min LR.length 16); omega) (fun z hz => by obtain ⟨i, rfl, hi⟩ := portsTo_lt hz; omega))
      clear hop
      unfold Oper.wp
      go_simp
      refine HM.out.mono ?_
      rintro e w' ⟨v', rfl, hO, hb⟩
      rw [mapped_ports (by omega) rfl] at hO
      exact hK _ _ ⟨fun u hu => (nomatch hu), fun l hl => by cases (Option.some.inj hl : maskTo m2 LR LR.length = l); exact hO.lower hS.size⟩ (hS.trans (hb.mono hS.size)) hb
    · omega
  intro vals W3 hB3 hvals
  obtain ⟨-, h1⟩ := hvals 7 (by omega)
  obtain ⟨-, h4⟩ := hvals 15 (by omega)
  have hva := h1 _ rfl
  have hvb := h4 _ rfl
  simp only [putAll, List.drop_succ_cons, List.drop_zero, List.getElem?_toArray, List.getElem?_cons_zero, List.getElem?_cons_succ, Option.bind_some, Act.put]
  obtain ⟨va, hva0⟩ : ∃ va, va = vals 7 := ⟨_, rfl⟩
  obtain ⟨vb, hvb0⟩ : ∃ vb, vb = vals 15 := ⟨_, rfl⟩
  rw [← hva0] at hva ⊢
  rw [← hvb0] at hvb ⊢
  have hs3 := hB3.size
  have HB3 := Lib.hid hB3
  have HVA := Lib.hid hva
  have HVB := Lib.hid hvb
  have hma := maskTo_length m1 LL LL.length
  have hmb := maskTo_length m2 LR LR.length
  have HMA := Lib.hid fun x hx => HL.out x (mem_maskTo (m := m1) hx (Nat.le_refl _))
  have HMB := Lib.hid fun x hx => HR.out x (mem_maskTo (m := m2) hx (Nat.le_refl _))
  obtain ⟨A, hA⟩ : ∃ A, A = maskTo m1 LL LL.length := ⟨_, rfl⟩
  obtain ⟨B, hB⟩ : ∃ B, B = maskTo m2 LR LR.length := ⟨_, rfl⟩
  rw [← hA] at HVA HMA hma
  rw [← hB] at HVB HMB hmb
  have HAB := Lib.hid (And.intro hA hB)
  clear hB3 hva hvb h1 h4 hva0 hvb0 hvals HK0 HK1 HVL HVR HVLw HVRw hA hB
  go_simp
  go_wp2_with (at_builtin; refine wpList_appV rfl _ _ rfl W0.heap.size va vb A B rfl HVA.out rfl HVB.out.rdl HVB.out.shape (by omega) (by omega) ?_)
  intro v5 w5 hO5 hb5
  have hl5 : (A ++ B).length ≤ 1000000 := by rw [List.length_append]; omega
  obtain ⟨L5, hL5⟩ : ∃ L5, L5 = A ++ B := ⟨_, rfl⟩
  rw [← hL5] at hO5 hl5
  have HL5 := Lib.hid hL5
  clear hL5
  have hs5 := hb5.size
  have HB5 := Lib.hid (HB3.out.trans hb5)
  have HH5 := Lib.hid hO5.holdI
  have hs5' := HB5.out.size
  have HSort := Lib.hid (sort_any L5 v5 W0.heap.size w5 HH5.out hl5 hs5')
  obtain ⟨q5, c5, rfl⟩ := hO5.sl
  clear hO5 hb5
  go_wp2_with fail
  refine HSort.out.mono ?_
  rintro e w6 ⟨rfl, hH6, hb6⟩
  have HB6 := Lib.hid (HB5.out.trans hb6)
  have HH6 := Lib.hid hH6
  have hs6 := HB6.out.size
  have HComp := Lib.hid (compact_any _ _ W0.heap.size w6 hH6 (by rw [List.length_mergeSort]; exact hl5) hs6)
  clear hH6 hb6 HSort
  go_wp2_with fail
  refine HComp.out.mono ?_
  rintro e w7 ⟨v7, rfl, hv7, hb7⟩
  have HV7 := Lib.hid hv7
  have HB7 := Lib.hid (HB6.out.trans hb7)
  clear hv7 hb7
  go_wp2_with fail
  go_ret
  refine ⟨_, rfl, ?_, HB0.out.trans (HB7.out.mono (by omega))⟩
  have := HV7.out
  rw [compact_both (n := n) HMA.out HMB.out (fun x => by rw [List.mem_mergeSort, HL5.out]) (by
    have := List.pairwise_mergeSort (le := fun x y : Int => decide (x ≤ y)) (by simp; omega) (by simp; omega) L5
    exact this.imp fun h => by simpa using h), HAB.out.1, HAB.out.2] at this
  exact this
end Go.Proofs.YtoiefehkfhkhbaaGreatDoor
namespace Go.Proofs.YtoiefehkfhkhbaaGreatDoor
open Go Go.RowKit Go.Pal Go.Shelf

set_option maxRecDepth 10000 in
set_option maxHeartbeats 2000000 in
theorem lists_any (LL LR LS : List Int) (vl vr vf vs : Value) (m1 m2 : Nat) (w : World) (hl : RdL w vl LL) (hr : RdL w vr LR) (hf : RdL w vf (negsTo LS LS.length)) (hs : RdL w vs LS) (hm1 : m1 < 65536) (hm2 : m2 < 65536) (hll : LL.length ≤ 1024) (hlr : LR.length ≤ 1024) (hls : LS.length ≤ 2048)
    (hL : ∀ x ∈ LL, 0 ≤ x ∧ x < (LS.length : Int)) (hR : ∀ x ∈ LR, 0 ≤ x ∧ x < (LS.length : Int)) :
    Calls Tryz.prog 10 #[.agg #[vl, vr, vf, vs], .int .u16 (m1 : Int), .int .u16 (m2 : Int)] w fun e w' => ∃ p q r v, e = .returned (.tuple #[p, q, r, v]) ∧ RdL w' p (maskTo m1 LL LL.length) ∧ RdL w' q (maskTo m2 LR LR.length) ∧
      RdL w' r (goneTo (maskTo m1 LL LL.length) (maskTo m2 LR LR.length) LS LS.length) ∧ RdL w' v (keptTo (maskTo m1 LL LL.length) (maskTo m2 LR LR.length) LS LS.length) ∧ Below w.heap.size w w' := by
  have HVLw := Lib.hid hl
  have HVRw := Lib.hid hr
  have HVFw := Lib.hid hf
  have HVSw := Lib.hid hs
  have hlf := negsTo_length LS LS.length
  obtain ⟨LF, hLF⟩ : ∃ LF, LF = negsTo LS LS.length := ⟨_, rfl⟩
  rw [← hLF] at HVFw hf hlf
  obtain ⟨al, cl, rfl⟩ := hl.sl
  obtain ⟨ar, cr, rfl⟩ := hr.sl
  obtain ⟨af, cf, rfl⟩ := hf.sl
  obtain ⟨ax, cs, rfl⟩ := hs.sl
  have HLF := Lib.hid hLF
  have HPres := Lib.hid fun W (h : Below w.heap.size w W) => present_any LL LR LF LS _ _ _ _ m1 m2 LS.length W (HVLw.out.below h) (HVRw.out.below h) (HVFw.out.below h) (HVSw.out.below h) hm1 hm2 hll hlr hL hR
  have hab := bothTo_length (maskTo m1 LL LL.length) (maskTo m2 LR LR.length) LS.length
  obtain ⟨A, hA⟩ : ∃ A, A = maskTo m1 LL LL.length := ⟨_, rfl⟩
  obtain ⟨B, hB⟩ : ∃ B, B = maskTo m2 LR LR.length := ⟨_, rfl⟩
  rw [← hA, ← hB] at HPres hab
  obtain ⟨P, hP⟩ : ∃ P, P = bothTo A B LS.length := ⟨_, rfl⟩
  rw [← hP] at HPres hab
  have HAB := Lib.hid (And.intro hA hB)
  have HP := Lib.hid hP
  clear hl hr hf hs hL hR hLF hA hB hP
  go_enter Tryz.func10, Tryz.ntmps10
  go_wp2_with fail
  obtain ⟨W0, hW0⟩ : ∃ W0, W0 = w.alloc (Obj.cells #[.slice al LL.length cl, .slice ar LR.length cr, .slice af LF.length cf, .slice ax LS.length cs] 36) := ⟨_, rfl⟩
  rw [← hW0]
  have hB0 : Below w.heap.size w W0 := by rw [hW0]; exact (Below.refl _ w).alloc (Nat.le_refl _) _
  have hs0 : w.heap.size + 1 ≤ W0.heap.size := by rw [hW0]; simp
  have hr0 : row? W0 w.heap.size = some #[.slice al LL.length cl, .slice ar LR.length cr, .slice af LF.length cf, .slice ax LS.length cs] := by rw [hW0]; exact row?_alloc_at _ _ _ _ rfl
  have HB0 := Lib.hid hB0
  have HR0 := Lib.hid hr0
  clear hW0 hB0 hr0
  refine (HPres.out W0 HB0.out).mono ?_
  rintro e w1 ⟨v1, rfl, hv1, hb1⟩
  have hs1 := hb1.size
  have HB1 := Lib.hid (HB0.out.trans (hb1.mono (by omega)))
  have HP1 := Lib.hid hv1
  have HR1 := Lib.hid ((row?_below hb1 (by omega)).trans HR0.out)
  obtain ⟨a1, c1, rfl⟩ := hv1.sl
  clear hv1 hb1 HPres HR0 HB0
  go_wp2_with fail
  go_loopw [10, 11, 19] (fun f l s wr => ∃ k : Nat, k ≤ P.length ∧ s = .int .i64 (k : Int) ∧ OwnI w1.heap.size wr f ((P.take k).filter fun z => decide (z ∈ LF)) ∧ OwnI w1.heap.size wr l (((P.take k).filter fun z => !decide (z ∈ LF)).map fun z => LS.getD z.toNat 0) ∧ (∀ g, f.ownBlock = some g → l.ownBlock ≠ some g) ∧ Below w1.heap.size w1 wr) (fun _ _ s _ => P.length - (intOf s).toNat)
  case atStart => exact ⟨0, by omega, rfl, OwnI.nil _ _, OwnI.nil _ _, (fun g h => by cases h), Below.refl _ _⟩
  case round =>
    obtain ⟨k, hk, rfl, hF, hO, hsep, hb⟩ := hrel
    have hsz := hb.size
    have hlF : ((P.take k).filter fun z => decide (z ∈ LF)).length ≤ 4096 := Nat.le_trans (List.length_filter_le _ _) (by simp; omega)
    have hlO : (((P.take k).filter fun z => !decide (z ∈ LF)).map fun z => LS.getD z.toNat 0).length ≤ 4096 := by rw [List.length_map]; exact Nat.le_trans (List.length_filter_le _ _) (by simp; omega)
    obtain ⟨F, hFd⟩ : ∃ F, F = (P.take k).filter fun z => decide (z ∈ LF) := ⟨_, rfl⟩
    obtain ⟨O, hOd⟩ : ∃ O, O = ((P.take k).filter fun z => !decide (z ∈ LF)).map fun z => LS.getD z.toNat 0 := ⟨_, rfl⟩
    rw [← hFd] at hF hlF
    rw [← hOd] at hO hlO
    have HF := Lib.hid hF
    have HO := Lib.hid hO
    have HSep := Lib.hid hsep
    have HB := Lib.hid hb
    have HFD := Lib.hid hFd
    have HOD := Lib.hid hOd
    have hltF := hF.lt
    have hltO := hO.lt
    obtain ⟨qf, cqf, rfl⟩ := hF.sl
    obtain ⟨qo, cqo, rfl⟩ := hO.sl
    have hBw : Below w.heap.size w wr := HB1.out.trans (hb.mono (by omega))
    have HBw := Lib.hid hBw
    have hr3 : row? wr w.heap.size = _ := (row?_below hb (by omega)).trans HR1.out
    have HR3 := Lib.hid hr3
    clear hF hO hsep hFd hOd hb
    by_cases hlt : k < P.length
    · obtain ⟨bl, offl, cl', e, h1, hz, hcc⟩ := HP1.out.at hlt
      simp only [Value.slice.injEq] at h1
      obtain ⟨rfl, -, rfl⟩ := h1
      have hce := hcc wr HB.out
      have hmem := List.mem_of_getElem? hz
      rw [HP.out] at hmem
      obtain ⟨j, hj, rfl⟩ : ∃ j, j < LS.length ∧ e = (j : Int) := by
        unfold bothTo at hmem
        obtain ⟨j, hj, rfl⟩ := List.mem_map.1 hmem
        exact ⟨j, List.mem_range.1 (List.mem_filter.1 hj).1, rfl⟩
      have k2 := (cell?_row (i := 2) hr3)
      have k3 := (cell?_row (i := 3) hr3)
      simp at k2 k3
      have hCt := contains_any LF (.slice af LF.length cf) (j : Int) wr (HVFw.out.below hBw) (by omega)
      have htk : P.take (k + 1) = P.take k ++ [(j : Int)] := by rw [List.take_add_one, hz]; rfl
      have HTK := Lib.hid htk
      by_cases hin : (j : Int) ∈ LF
      · rw [decide_eq_true hin] at hCt
        have HCt := Lib.hid hCt
        have HIN := Lib.hid hin
        clear hCt hin hz hcc hmem htk hr3
        go_wp2_with fail
        refine HCt.out.mono ?_
        rintro e w2 ⟨rfl, rfl⟩
        clear HCt
        go_wp2_with (at_builtin; refine wpList_appT2 rfl 34 undI _ _ rfl w1.heap.size _ F rfl (HF.out.alloc _) _ (j : Int) _ rfl (by simp [go_sem]) (by omega) (by simp; omega) ?_)
        intro v5 w5 hO5 hb5 hg5 hl5
        have hs5 : w2.heap.size ≤ w5.heap.size := by have := hb5.size; simp at this; omega
        have hO5' : OwnI w1.heap.size w5 (.slice qo O.length cqo) O := HO.out.same fun g hg' => (hg5.block g (by simp; have := hltO g hg'; omega) (fun e => HSep.out g e.symm hg')).trans (Below.heap_alloc _ _ _ (hltO g hg'))
        have hsep5 : ∀ g, v5.ownBlock = some g → (Value.slice qo O.length cqo).ownBlock ≠ some g := fun g hg' h2 => by
          rcases hl5 with e | e
          · exact HSep.out g (e ▸ hg') h2
          · rw [e] at hg'
            have := hltO g h2
            simp at hg'
            omega
        obtain ⟨q5, c5, rfl⟩ := hO5.sl
        have HF5 := Lib.hid hO5
        have HO5 := Lib.hid hO5'
        have HSep5 := Lib.hid hsep5
        have HB5 := Lib.hid ((HB.out.alloc hsz _).trans hb5)
        clear hO5 hb5 hg5 hl5 hO5' hsep5 hltF hltO
        rw [List.length_append] at HF5 HSep5 ⊢
        go_wp2_with fail
        go_roundw
        case rel =>
          refine ⟨k + 1, by omega, by go_num, ?_, ?_, HSep5.out, HB5.out⟩
          · rw [HTK.out, List.filter_append, ← HFD.out, List.filter_cons, if_pos (decide_eq_true HIN.out), List.filter_nil]
            exact HF5.out
          · rw [HTK.out, List.filter_append, List.filter_cons, if_neg (by rw [decide_eq_true HIN.out]; simp), List.filter_nil, List.append_nil, ← HOD.out]
            exact HO5.out
        case measure => simp [intOf]; omega
      · rw [decide_eq_false hin] at hCt
        obtain ⟨bs, offs, cs', y, h1, hy, hcy⟩ := HVSw.out.at hj
        simp only [Value.slice.injEq] at h1
        obtain ⟨rfl, -, rfl⟩ := h1
        have hcs := hcy wr hBw
        have hgd : LS.getD (j : Int).toNat 0 = y := by rw [List.getD_eq_getElem?_getD]; simp [hy]
        have HGD := Lib.hid hgd
        have HCt := Lib.hid hCt
        have HIN := Lib.hid hin
        clear hCt hin hz hcc hmem htk hr3 hy hcy hgd
        go_wp2_with fail
        refine HCt.out.mono ?_
        rintro e w2 ⟨rfl, rfl⟩
        clear HCt
        go_wp2_with (at_builtin; refine wpList_appT2 rfl 34 undI _ _ rfl w1.heap.size _ O rfl (HO.out.alloc _) _ y _ rfl (by simp [go_sem]) (by omega) (by simp; omega) ?_)
        intro v5 w5 hO5 hb5 hg5 hl5
        have hs5 : w2.heap.size ≤ w5.heap.size := by have := hb5.size; simp at this; omega
        have hO5' : OwnI w1.heap.size w5 (.slice qf F.length cqf) F := HF.out.same fun g hg' => (hg5.block g (by simp; have := hltF g hg'; omega) (fun e => HSep.out g hg' e.symm)).trans (Below.heap_alloc _ _ _ (hltF g hg'))
        have hsep5 : ∀ g, (Value.slice qf F.length cqf).ownBlock = some g → v5.ownBlock ≠ some g := fun g hg' h2 => by
          rcases hl5 with e | e
          · exact HSep.out g hg' (e ▸ h2)
          · rw [e] at h2
            have := hltF g hg'
            simp at h2
            omega
        obtain ⟨q5, c5, rfl⟩ := hO5.sl
        have HO5 := Lib.hid hO5
        have HF5 := Lib.hid hO5'
        have HSep5 := Lib.hid hsep5
        have HB5 := Lib.hid ((HB.out.alloc hsz _).trans hb5)
        clear hO5 hb5 hg5 hl5 hO5' hsep5 hltF hltO
        rw [List.length_append] at HO5 HSep5 ⊢
        go_wp2_with fail
        go_roundw
        case rel =>
          refine ⟨k + 1, by omega, by go_num, ?_, ?_, HSep5.out, HB5.out⟩
          · rw [HTK.out, List.filter_append, ← HFD.out, List.filter_cons, if_neg (by rw [decide_eq_false HIN.out]; simp), List.filter_nil, List.append_nil]
            exact HF5.out
          · rw [HTK.out, List.filter_append, List.filter_cons, if_pos (by rw [decide_eq_false HIN.out]; rfl), List.filter_nil, List.map_append, ← HOD.out, List.map_cons, List.map_nil, HGD.out]
            exact HO5.out
        case measure => simp [intOf]; omega
    · have HKE := Lib.hid (show k = P.length by omega)
      clear hltF hltO
      obtain ⟨W0, rfl⟩ : ∃ W0, W0 = wr := ⟨wr, rfl⟩
      have HK0 := Lib.hid fun W (h : Below W0.heap.size W0 W) => (cell?_row (i := 0) ((row?_below h (by omega)).trans hr3)).trans (show _ = some (Value.slice al LL.length cl) from rfl)
      have HK1 := Lib.hid fun W (h : Below W0.heap.size W0 W) => (cell?_row (i := 1) ((row?_below h (by omega)).trans hr3)).trans (show _ = some (Value.slice ar LR.length cr) from rfl)
      have HVL := Lib.hid (HVLw.out.below hBw)
      have HVR := Lib.hid (HVRw.out.below hBw)
      have hs0a : w.heap.size + 1 ≤ W0.heap.size := by omega
      obtain ⟨vF, hvF⟩ : ∃ vF, vF = Value.slice qf F.length cqf := ⟨_, rfl⟩
      obtain ⟨vO, hvO⟩ : ∃ vO, vO = Value.slice qo O.length cqo := ⟨_, rfl⟩
      rw [← hvF] at HF ⊢
      rw [← hvO] at HO ⊢
      clear hr3 hvF hvO HSep HVLw HVRw HVFw HVSw
      go_wp2_with fail
      refine wp_region_res 21 (fun W => Below W0.heap.size W0 W) (PΦ W0.heap.size (fun k => [some (.int .u16 (m1 : Int)), some (.pointer (some ⟨w.heap.size, 0, none⟩)), some (.slice al LL.length cl), some (.int .i64 (LL.length : Int)), none, some (.pointer (some ⟨w.heap.size, 0, none⟩)), some (.slice al LL.length cl), none,
          some (.int .u16 (m2 : Int)), some (.pointer (some ⟨w.heap.size, 1, none⟩)), some (.slice ar LR.length cr), some (.int .i64 (LR.length : Int)), none, some (.pointer (some ⟨w.heap.size, 1, none⟩)), some (.slice ar LR.length cr), none, some vF, some vO, none, none, some vF].getD k none)
          (fun k => if k = 4 then some (portsTo m1 (min LL.length 16)) else if k = 7 then some (maskTo m1 LL LL.length) else if k = 12 then some (portsTo m2 (min LR.length 16)) else if k = 15 then some (maskTo m2 LR LR.length) else if k = 18 then some (maskTo m1 LL LL.length) else if k = 19 then some (maskTo m2 LR LR.length) else none)) (by kernel_rfl) (by kernel_rfl) (by kernel_rfl) (by kernel_rfl) (by kernel_rfl) (by kernel_rfl) (pΦ_on _ _ _) (Below.refl _ _).drew ?_ ?_
      · intro k hk
        rcases k with _ | _ | _ | _ | _ | _ | _ | _ | _ | _ | _ | _ | _ | _ | _ | _ | _ | _ | _ | _ | _ | k
        · refine resStep_of rfl fun a' W hS hold hdep K hK => ?_
          have h1 := hold 1 _ (by kernel_rfl) rfl
          unfold Oper.wp
          go_simp
          (try go_ints)
          exact hK _ W ⟨fun u hu => Option.some.inj hu, fun l hl => nomatch hl⟩ hS (Below.refl _ _)
        · refine resStep_of rfl fun a' W hS hold hdep K hK => ?_
          have h1 := hold 3 _ (by kernel_rfl) rfl
          unfold Oper.wp
          go_simp
          (try go_ints)
          exact hK _ W ⟨fun u hu => Option.some.inj hu, fun l hl => nomatch hl⟩ hS (Below.refl _ _)
        · refine resStep_of rfl fun a' W hS hold hdep K hK => ?_
          obtain ⟨vd, h1, hfd, -⟩ := hdep 1 46 (by kernel_rfl) (by rfl)
          cases hfd _ rfl
          have k1 := (HK0.out W hS)
          unfold Oper.wp
          go_simp
          (try go_ints)
          exact hK _ W ⟨fun u hu => Option.some.inj hu, fun l hl => nomatch hl⟩ hS (Below.refl _ _)
        · refine resStep_of rfl fun a' W hS hold hdep K hK => ?_
          obtain ⟨vd, h1, hfd, -⟩ := hdep 2 47 (by kernel_rfl) (by rfl)
          cases hfd _ rfl
          unfold Oper.wp
          go_simp
          (try go_ints)
          exact hK _ W ⟨fun u hu => Option.some.inj hu, fun l hl => nomatch hl⟩ hS (Below.refl _ _)
        · refine resStep_of rfl fun a' W hS hold hdep K hK => ?_
          obtain ⟨vd, h1, hfd, -⟩ := hdep 0 45 (by kernel_rfl) (by rfl)
          cases hfd _ rfl
          obtain ⟨vd, h2, hfd, -⟩ := hdep 3 48 (by kernel_rfl) (by rfl)
          cases hfd _ rfl
          unfold Oper.wp
          go_simp
          refine (ports_any m1 LL.length W (by omega) (by omega)).mono ?_
          rintro e w' ⟨v', rfl, hO, hb⟩
          exact hK _ _ ⟨fun u hu => (nomatch hu), fun l hl => by cases (Option.some.inj hl : portsTo m1 (min LL.length 16) = l); exact hO.lower hS.size⟩ (hS.trans (hb.mono hS.size)) hb
        · refine resStep_of rfl fun a' W hS hold hdep K hK => ?_
          have h1 := hold 3 _ (by kernel_rfl) rfl
          unfold Oper.wp
          go_simp
          (try go_ints)
          exact hK _ W ⟨fun u hu => Option.some.inj hu, fun l hl => nomatch hl⟩ hS (Below.refl _ _)
        · refine resStep_of rfl fun a' W hS hold hdep K hK => ?_
          obtain ⟨vd, h1, hfd, -⟩ := hdep 5 50 (by kernel_rfl) (by rfl)
          cases hfd _ rfl
          have k1 := (HK0.out W hS)
          unfold Oper.wp
          go_simp
          (try go_ints)
          exact hK _ W ⟨fun u hu => Option.some.inj hu, fun l hl => nomatch hl⟩ hS (Below.refl _ _)
        · refine resStep_of rfl fun a' W hS hold hdep K hK => ?_
          obtain ⟨vp, h1, -, hop⟩ := hdep 4 49 (by kernel_rfl) (by rfl)
          have hop := hop _ rfl
          obtain ⟨vd, h2, hfd, -⟩ := hdep 6 51 (by kernel_rfl) (by rfl)
          cases hfd _ rfl
          have HM := Lib.hid (mapped_any _ _ vp (.slice al LL.length cl) W hop.rdl (HVL.out.below hS) (by have := portsTo_length m1 (min LL.length 16); omega) (fun z hz => by obtain ⟨i, rfl, hi⟩ := portsTo_lt hz; omega))
          clear hop
          unfold Oper.wp
          go_simp
          refine HM.out.mono ?_
          rintro e w' ⟨v', rfl, hO, hb⟩
          rw [mapped_ports (by omega) rfl] at hO
          exact hK _ _ ⟨fun u hu => (nomatch hu), fun l hl => by cases (Option.some.inj hl : maskTo m1 LL LL.length = l); exact hO.lower hS.size⟩ (hS.trans (hb.mono hS.size)) hb
        · refine resStep_of rfl fun a' W hS hold hdep K hK => ?_
          have h1 := hold 2 _ (by kernel_rfl) rfl
          unfold Oper.wp
          go_simp
          (try go_ints)
          exact hK _ W ⟨fun u hu => Option.some.inj hu, fun l hl => nomatch hl⟩ hS (Below.refl _ _)
        · refine resStep_of rfl fun a' W hS hold hdep K hK => ?_
          have h1 := hold 3 _ (by kernel_rfl) rfl
          unfold Oper.wp
          go_simp
          (try go_ints)
          exact hK _ W ⟨fun u hu => Option.some.inj hu, fun l hl => nomatch hl⟩ hS (Below.refl _ _)
        · refine resStep_of rfl fun a' W hS hold hdep K hK => ?_
          obtain ⟨vd, h1, hfd, -⟩ := hdep 9 54 (by kernel_rfl) (by rfl)
          cases hfd _ rfl
          have k1 := (HK1.out W hS)
          unfold Oper.wp
          go_simp
          (try go_ints)
          exact hK _ W ⟨fun u hu => Option.some.inj hu, fun l hl => nomatch hl⟩ hS (Below.refl _ _)
        · refine resStep_of rfl fun a' W hS hold hdep K hK => ?_
          obtain ⟨vd, h1, hfd, -⟩ := hdep 10 55 (by kernel_rfl) (by rfl)
          cases hfd _ rfl
          unfold Oper.wp
          go_simp
          (try go_ints)
          exact hK _ W ⟨fun u hu => Option.some.inj hu, fun l hl => nomatch hl⟩ hS (Below.refl _ _)
        · refine resStep_of rfl fun a' W hS hold hdep K hK => ?_
          obtain ⟨vd, h1, hfd, -⟩ := hdep 8 53 (by kernel_rfl) (by rfl)
          cases hfd _ rfl
          obtain ⟨vd, h2, hfd, -⟩ := hdep 11 56 (by kernel_rfl) (by rfl)
          cases hfd _ rfl
          unfold Oper.wp
          go_simp
          refine (ports_any m2 LR.length W (by omega) (by omega)).mono ?_
          rintro e w' ⟨v', rfl, hO, hb⟩
          exact hK _ _ ⟨fun u hu => (nomatch hu), fun l hl => by cases (Option.some.inj hl : portsTo m2 (min LR.length 16) = l); exact hO.lower hS.size⟩ (hS.trans (hb.mono hS.size)) hb
        · refine resStep_of rfl fun a' W hS hold hdep K hK => ?_
          have h1 := hold 3 _ (by kernel_rfl) rfl
          unfold Oper.wp
          go_simp
          (try go_ints)
          exact hK _ W ⟨fun u hu => Option.some.inj hu, fun l hl => nomatch hl⟩ hS (Below.refl _ _)
        · refine resStep_of rfl fun a' W hS hold hdep K hK => ?_
          obtain ⟨vd, h1, hfd, -⟩ := hdep 13 58 (by kernel_rfl) (by rfl)
          cases hfd _ rfl
          have k1 := (HK1.out W hS)
          unfold Oper.wp
          go_simp
          (try go_ints)
          exact hK _ W ⟨fun u hu => Option.some.inj hu, fun l hl => nomatch hl⟩ hS (Below.refl _ _)
        · refine resStep_of rfl fun a' W hS hold hdep K hK => ?_
          obtain ⟨vp, h1, -, hop⟩ := hdep 12 57 (by kernel_rfl) (by rfl)
          have hop := hop _ rfl
          obtain ⟨vd, h2, hfd, -⟩ := hdep 14 59 (by kernel_rfl) (by rfl)
          cases hfd _ rfl
          have HM := Lib.hid (mapped_any _ _ vp (.slice ar LR.length cr) W hop.rdl (HVR.out.below hS) (by have := portsTo_length m2 (min LR.length 16); omega) (fun z hz => by obtain ⟨i, rfl, hi⟩ := portsTo_lt hz; omega))
          clear hop
          unfold Oper.wp
          go_simp
          refine HM.out.mono ?_
          rintro e w' ⟨v', rfl, hO, hb⟩
          rw [mapped_ports (by omega) rfl] at hO
          exact hK _ _ ⟨fun u hu => (nomatch hu), fun l hl => by cases (Option.some.inj hl : maskTo m2 LR LR.length = l); exact hO.lower hS.size⟩ (hS.trans (hb.mono hS.size)) hb
        · refine resStep_of rfl fun a' W hS hold hdep K hK => ?_
          have h1 := hold 10 _ (by kernel_rfl) rfl
          unfold Oper.wp
          go_simp
          (try go_ints)
          exact hK _ W ⟨fun u hu => Option.some.inj hu, fun l hl => nomatch hl⟩ hS (Below.refl _ _)
        · refine resStep_of rfl fun a' W hS hold hdep K hK => ?_
          have h1 := hold 11 _ (by kernel_rfl) rfl
          unfold Oper.wp
          go_simp
          (try go_ints)
          exact hK _ W ⟨fun u hu => Option.some.inj hu, fun l hl => nomatch hl⟩ hS (Below.refl _ _)
        · refine resStep_of rfl fun a' W hS hold hdep K hK => ?_
          obtain ⟨vp, h1, -, hop⟩ := hdep 7 52 (by kernel_rfl) (by rfl)
          have hop := hop _ rfl
          unfold Oper.wp
          go_simp
          exact hK _ W ⟨fun u hu => (nomatch hu), fun l hl => by cases (Option.some.inj hl : maskTo m1 LL LL.length = l); exact hop⟩ hS (Below.refl _ _)
        · refine resStep_of rfl fun a' W hS hold hdep K hK => ?_
          obtain ⟨vp, h1, -, hop⟩ := hdep 15 60 (by kernel_rfl) (by rfl)
          have hop := hop _ rfl
          unfold Oper.wp
          go_simp
          exact hK _ W ⟨fun u hu => (nomatch hu), fun l hl => by cases (Option.some.inj hl : maskTo m2 LR LR.length = l); exact hop⟩ hS (Below.refl _ _)
        · refine resStep_of rfl fun a' W hS hold hdep K hK => ?_
          obtain ⟨vd, h1, hfd, -⟩ := hdep 16 61 (by kernel_rfl) (by rfl)
          cases hfd _ rfl
          unfold Oper.wp
          go_simp
          (try go_ints)
          exact hK _ W ⟨fun u hu => Option.some.inj hu, fun l hl => nomatch hl⟩ hS (Below.refl _ _)
        · omega
      intro vals W3 hB3 hvals
      obtain ⟨-, h1⟩ := hvals 18 (by omega)
      obtain ⟨-, h4⟩ := hvals 19 (by omega)
      obtain ⟨h16, -⟩ := hvals 20 (by omega)
      obtain ⟨h17, -⟩ := hvals 17 (by omega)
      have hva := h1 _ rfl
      have hvb := h4 _ rfl
      have hv16 := h16 _ rfl
      have hv17 := h17 _ rfl
      simp only [putAll, List.drop_succ_cons, List.drop_zero, List.getElem?_toArray, List.getElem?_cons_zero, List.getElem?_cons_succ, Option.bind_some, Act.put]
      rw [hv16, hv17]
      obtain ⟨va, hva0⟩ : ∃ va, va = vals 18 := ⟨_, rfl⟩
      obtain ⟨vb, hvb0⟩ : ∃ vb, vb = vals 19 := ⟨_, rfl⟩
      rw [← hva0] at hva ⊢
      rw [← hvb0] at hvb ⊢
      have hs3 := hB3.size
      have HVA := Lib.hid hva
      have HVB := Lib.hid hvb
      have HF3 := Lib.hid (HF.out.below hB3 (Nat.le_refl _))
      have HO3 := Lib.hid (HO.out.below hB3 (Nat.le_refl _))
      have HB3 := Lib.hid ((HB1.out.trans (HB.out.mono (by omega))).trans (hB3.mono (by omega)))
      clear hB3 hva hvb h1 h4 hva0 hvb0 hvals HK0 HK1 HVL HVR h16 h17 hv16 hv17 HF HO
      go_simp
      go_wp2_with fail
      refine bodyPost_ret (v := .tuple #[va, vb, vF, vO]) (by simp [results, Tryz.results10, go_sem]) rfl ?_
      refine ⟨_, _, _, _, rfl, HVA.out.rdl, HVB.out.rdl, ?_, ?_, HB3.out⟩
      · have h3 := HF3.out.rdl
        have hkt : P.take k = P := by rw [HKE.out, List.take_length]
        rw [HFD.out, hkt, HP.out, HLF.out, bothTo_gone, HAB.out.1, HAB.out.2] at h3
        exact h3
      · have h3 := HO3.out.rdl
        have hkt : P.take k = P := by rw [HKE.out, List.take_length]
        rw [HOD.out, hkt, HP.out, HLF.out, bothTo_kept, HAB.out.1, HAB.out.2] at h3
        exact h3
end Go.Proofs.YtoiefehkfhkhbaaGreatDoor
