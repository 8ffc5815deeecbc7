/-
  Rows of cells, read and written whole or in part, as equations that a walk can rewrite by. No program.
-/
import Derived.Test.YtoboncfgogjllaaGreatDoorQRule
import Derived.Laws.CopyRow
import Derived.Laws.CopyOwn
import Derived.Deep.WholeRow
import Derived.Handy
import Derived.Deep.OwnRows
import Derived.Deep.Quiet
namespace Go.Pal
open Go Go.RowKit

/-- The cells of block g, if it is a row that may be written. -/
def row? (w : World) (g : Nat) : Option (Array Value) := match w.heap[g]? with
  | some (.cells c _ (0, 0)) => some c
  | _ => none

theorem row?_some {w : World} {g : Nat} {c : Array Value} (h : row? w g = some c) : ∃ t, w.heap[g]? = some (.cells c t (0, 0)) := by
  unfold row? at h
  split at h
  · rename_i c' t hg
    simp only [Option.some.injEq] at h
    subst h
    exact ⟨t, hg⟩
  · cases h
theorem row?_of {w : World} {g : Nat} {c : Array Value} {t : TypeId} (h : w.heap[g]? = some (.cells c t (0, 0))) : row? w g = some c := by simp [row?, h]
theorem row?_congr {w w' : World} {g : Nat} (h : w'.heap[g]? = w.heap[g]?) : row? w' g = row? w g := by simp [row?, h]
theorem row?_lt {w : World} {g : Nat} {c : Array Value} (h : row? w g = some c) : g < w.heap.size := by
  obtain ⟨t, hg⟩ := row?_some h
  exact (Array.getElem?_eq_some_iff.1 hg).1

@[go_sem] theorem row?_alloc_at (w : World) (c : Array Value) (t : TypeId) (n : Nat) (h : n = w.heap.size) : row? (w.alloc (.cells c t)) n = some c := by
  subst h
  exact row?_of (heap_alloc_new w _)
@[go_sem] theorem row?_alloc_past (w : World) (o : Obj) (n : Nat) (h : n < w.heap.size) : row? (w.alloc o) n = row? w n := row?_congr (Below.heap_alloc w o n h)
@[go_sem] theorem row?_drew (w : World) (n : Nat) : row? w.drew n = row? w n := rfl
@[go_sem] theorem row?_drewN (w : World) (k n : Nat) : row? (w.drewN k) n = row? w n := row?_congr rfl
@[go_sem] theorem row?_setRow_same (w : World) (g : Nat) (c : Array Value) (h : (row? w g).isSome = true) : row? (w.setRow g c) g = some c := by
  obtain ⟨c', hc⟩ := Option.isSome_iff_exists.1 h
  obtain ⟨t, hg⟩ := row?_some hc
  exact row?_of (setRow_heap w g c' c t (0, 0) hg)
@[go_sem] theorem row?_setRow_other (w : World) (g n : Nat) (c : Array Value) (h : ¬ n = g) : row? (w.setRow g c) n = row? w n := row?_congr (setRow_other w g n c h)
@[go_sem] theorem row?_setCell_same (w : World) (g i : Nat) (v : Value) : row? (w.setCell ⟨g, i, none⟩ v) g = (row? w g).map (·.setIfInBounds i v) := by
  unfold row?
  simp only [World.setCell, Array.getElem?_modify, if_true]
  cases h : w.heap[g]? with
  | none => rfl
  | some o =>
    cases o <;> simp
    rename_i c t fr
    obtain ⟨f1, f2⟩ := fr
    cases f1 <;> cases f2 <;> rfl
@[go_sem] theorem row?_setCell_other (w : World) (g i n : Nat) (v : Value) (h : ¬ n = g) : row? (w.setCell ⟨g, i, none⟩ v) n = row? w n := row?_congr (heap_setCell_other w _ n v h)
@[go_sem] theorem setRow_alloc_at (w : World) (c c' : Array Value) (t : TypeId) (n : Nat) (h : n = w.heap.size) : (w.alloc (.cells c t)).setRow n c' = w.alloc (.cells c' t) := by
  subst h
  exact World.setRow_alloc_new w c c' t
@[go_sem] theorem setRow_alloc_past (w : World) (o : Obj) (c : Array Value) (n : Nat) (h : n < w.heap.size) : (w.alloc o).setRow n c = (w.setRow n c).alloc o := by
  unfold World.setRow World.alloc
  congr 1
  apply Array.ext_getElem?
  intro i
  simp only [Array.getElem?_modify, Array.getElem?_push, Array.size_modify]
  by_cases hi : i = w.heap.size
  · subst hi
    have : ¬ n = w.heap.size := by omega
    simp [this]
  · simp [hi]
@[go_sem] theorem setRow_drew (w : World) (c : Array Value) (n : Nat) : w.drew.setRow n c = (w.setRow n c).drew := rfl

theorem row?_below {B : Nat} {w w' : World} (h : Below B w w') {g : Nat} (hg : g < B) : row? w' g = row? w g := row?_congr (h.block g hg)
theorem cell?_row {w : World} {g i : Nat} {c : Array Value} (h : row? w g = some c) : w.cell? ⟨g, i, none⟩ = c[i]? := by
  obtain ⟨t, hg⟩ := row?_some h
  exact cell_of_row w g i c t (0, 0) hg
theorem frozen?_row {w : World} {g i : Nat} {c : Array Value} (h : row? w g = some c) : w.frozen? ⟨g, i, none⟩ = false := by
  obtain ⟨t, hg⟩ := row?_some h
  exact frozen_of_row w g i c t hg

/-- A step that the walk does not take: what stands where a row does not lie as it should. -/
def laterLoad (P : Program) (ty : TypeId) (a : Addr) (w : World) : Result Value := (loadVar ty a).run P w
def laterStore (P : Program) (ty : TypeId) (a : Addr) (v : Value) (w : World) : Result Unit := (storeVar ty a v).run P w

/-- A slice value v reads as the list xs, an element's k cells by enc; what is read lies below block B. -/
def Rd {α : Type} (enc : α → Array Value) (k B : Nat) (w : World) (v : Value) (xs : List α) : Prop :=
  ∃ a c, v = .slice a xs.length c ∧ (xs = [] ∨ ∃ b off, a = some ⟨b, off, none⟩ ∧ b < B ∧ ∀ i x, xs[i]? = some x → ∀ j u, (enc x)[j]? = some u → w.cell? ⟨b, off + i * k + j, none⟩ = some u)
theorem Rd.below {α : Type} {enc : α → Array Value} {k B C : Nat} {w w' : World} {v : Value} {xs : List α} (h : Rd enc k B w v xs) (hb : Below C w w') (hC : B ≤ C) : Rd enc k B w' v xs := by
  obtain ⟨a, c, hv, h⟩ := h
  refine ⟨a, c, hv, h.imp id ?_⟩
  rintro ⟨b, off, ha, hbB, hc⟩
  exact ⟨b, off, ha, hbB, fun i x hi j u hu => (hb.cell (p := ⟨b, off + i * k + j, none⟩) (by show b < C; omega)).trans (hc i x hi j u hu)⟩
theorem Rd.mono {α : Type} {enc : α → Array Value} {k B B' : Nat} {w : World} {v : Value} {xs : List α} (h : Rd enc k B w v xs) (hB : B ≤ B') : Rd enc k B' w v xs := by
  obtain ⟨a, c, hv, h⟩ := h
  exact ⟨a, c, hv, h.imp id fun ⟨b, off, ha, hbB, hc⟩ => ⟨b, off, ha, by omega, hc⟩⟩

section
variable {P : Program}

theorem run_loadVar_part (w : World) (g o n : Nat) (ty : TypeId) (cs : Array Value) (hg : row? w g = some cs) (hagg : ∀ w, (isAgg ty).run P w = .ok true w) (hn : ∀ w, (sizeOf ty).run P w = .ok n w)
    (hfit : o + n ≤ cs.size) : (loadVar ty ⟨g, o, none⟩).run P w = .ok (.agg (cs.extract o (o + n))) w := by
  have hl : (loadCells ⟨g, o, none⟩ (cs.toList.drop o |>.take n).length).run P w = .ok (cs.toList.drop o |>.take n).toArray w :=
    run_loadCells_list (P := P) w ⟨g, o, none⟩ _ (fun j v hv => by
      have hadd : (⟨g, o, none⟩ : Addr).add j = ⟨g, o + j, none⟩ := by unfold Addr.add; split <;> simp_all
      rw [hadd, Go.Pal.cell?_row hg]
      rw [List.getElem?_take] at hv
      split at hv
      · rw [List.getElem?_drop] at hv; simpa using hv
      · cases hv)
  have hlen : (cs.toList.drop o |>.take n).length = n := by simp; omega
  rw [hlen] at hl
  have hx : (cs.toList.drop o |>.take n).toArray = cs.extract o (o + n) := by
    apply Array.ext'
    simp only [Array.toList_extract, List.extract_eq_drop_take']
    rw [List.drop_take, show o + n - o = n by omega]
  rw [hx] at hl
  simp [loadVar, Sem.run_bind, hagg, hn, hl]

/-- Names behind which a load or a store of a composite variable waits until its address is known. -/
def loadLater (ty : TypeId) (a : Addr) : Sem Value := loadVar ty a
def storeLater (ty : TypeId) (a : Addr) (v : Value) : Sem Unit := storeVar ty a v
def rowLoad (P : Program) (ty : TypeId) (a : Addr) (w : World) : Result Value := (loadVar ty a).run P w
def rowStore (P : Program) (ty : TypeId) (a : Addr) (v : Value) (w : World) : Result Unit := (storeVar ty a v).run P w

/-- A composite variable at the head of a block, loaded whole. -/
theorem load_row {ty n : Nat} (hagg : ∀ w, (isAgg ty).run P w = .ok true w) (hn : ∀ w, (sizeOf ty).run P w = .ok n w) (w : World) (g : Nat) :
    rowLoad P ty ⟨g, 0, none⟩ w = match row? w g with
      | some c => if c.size = n then .ok (.agg c) w else laterLoad P ty ⟨g, 0, none⟩ w
      | none => laterLoad P ty ⟨g, 0, none⟩ w := by
  unfold rowLoad
  cases h : row? w g with
  | none => rfl
  | some c =>
    simp only []
    by_cases hc : c.size = n
    · rw [if_pos hc, run_loadVar_part w g 0 n ty c h hagg hn (by omega)]
      simp [← hc]
    · rw [if_neg hc]; rfl

/-- A composite variable within a row. -/
theorem load_part {ty n : Nat} (hagg : ∀ w, (isAgg ty).run P w = .ok true w) (hn : ∀ w, (sizeOf ty).run P w = .ok n w) (w : World) (g o : Nat) (h : (row? w g).isSome = true) :
    rowLoad P ty ⟨g, o, none⟩ w = match row? w g with
      | some c => if o + n ≤ c.size then .ok (.agg (c.extract o (o + n))) w else laterLoad P ty ⟨g, o, none⟩ w
      | none => laterLoad P ty ⟨g, o, none⟩ w := by
  unfold rowLoad
  obtain ⟨c, hc⟩ := Option.isSome_iff_exists.1 h
  rw [hc]
  simp only []
  by_cases hs : o + n ≤ c.size
  · rw [if_pos hs, run_loadVar_part w g o n ty c hc hagg hn hs]
  · rw [if_neg hs]; rfl

/-- A composite variable whose cells are known. -/
theorem load_cells {ty n : Nat} (hagg : ∀ w, (isAgg ty).run P w = .ok true w) (hn : ∀ w, (sizeOf ty).run P w = .ok n w) (w : World) (g o : Nat) (cs : Array Value) (hs : cs.size = n)
    (hc : ∀ j u, cs[j]? = some u → w.cell? ⟨g, o + j, none⟩ = some u) : rowLoad P ty ⟨g, o, none⟩ w = .ok (.agg cs) w := by
  have hl : (loadCells ⟨g, o, none⟩ cs.toList.length).run P w = .ok cs.toList.toArray w :=
    run_loadCells_list (P := P) w ⟨g, o, none⟩ cs.toList (fun j v hv => by
      have hadd : (⟨g, o, none⟩ : Addr).add j = ⟨g, o + j, none⟩ := by unfold Addr.add; split <;> simp_all
      rw [hadd]
      exact hc j v (by simpa using hv))
  unfold rowLoad
  rw [Array.length_toList, hs, Array.toArray_toList] at hl
  simp [loadVar, Sem.run_bind, hagg, hn, hl]

theorem run_storeVar_part (w : World) (g o n : Nat) (ty : TypeId) (cs d : Array Value) (hg : row? w g = some cs) (hn : ∀ w, (sizeOf ty).run P w = .ok n w)
    (hd : d.size = n) (hfit : o + n ≤ cs.size) (h1 : ∀ v ∈ d.toList, v.oneCell' = true) :
    (storeVar ty ⟨g, o, none⟩ (.agg d)).run P w = .ok () (w.setRow g (cs.toList.take o ++ d.toList ++ cs.toList.drop (o + n)).toArray) := by
  obtain ⟨t, hg'⟩ := row?_some hg
  have h := Go.run_storeCells_at (P := P) g o t d.toList 0 cs w hg' (by simp; omega) h1
  simp only [Nat.add_zero, Array.length_toList, hd] at h
  simp [storeVar, Sem.run_bind, hn, Value.cells, hd, h]

def allOne (d : Array Value) : Bool := d.all fun v => v.oneCell'

theorem store_row {ty n : Nat} (hn : ∀ w, (sizeOf ty).run P w = .ok n w) (w : World) (g : Nat) (d : Array Value) :
    rowStore P ty ⟨g, 0, none⟩ (.agg d) w = match row? w g with
      | some c => if c.size = n ∧ d.size = n ∧ allOne d = true then .ok () (w.setRow g d) else laterStore P ty ⟨g, 0, none⟩ (.agg d) w
      | none => laterStore P ty ⟨g, 0, none⟩ (.agg d) w := by
  unfold rowStore
  cases h : row? w g with
  | none => rfl
  | some c =>
    simp only []
    by_cases hc : c.size = n ∧ d.size = n ∧ allOne d = true
    · rw [if_pos hc, run_storeVar_part w g 0 n ty c d h hn hc.2.1 (by omega) (fun v hv => by
        have := hc.2.2
        unfold allOne at this
        rw [Array.all_eq_true_iff_forall_mem] at this
        exact this v (by simpa using hv))]
      congr 1
      congr 1
      apply Array.ext'
      simp only [List.take_zero, List.nil_append, Nat.zero_add, ← hc.1]
      simp
    · rw [if_neg hc]; rfl

theorem results_row {fn : Func} {p : Tmp} {ty n : Nat} (h : fn.results = #[.cell p ty]) (hagg : ∀ w, (isAgg ty).run P w = .ok true w) (hn : ∀ w, (sizeOf ty).run P w = .ok n w)
    (tmps : Array Value) (w : World) (g : Nat) (c : Array Value) (hp : tmps.getD p undef = .pointer (some ⟨g, 0, none⟩)) (hg : row? w g = some c) (hc : c.size = n) :
    (results fn tmps).run P w = .ok (.agg c) w := by
  have hp' : tmps[p]?.getD undef = .pointer (some ⟨g, 0, none⟩) := by simpa using hp
  have hl := load_row (P := P) hagg hn w g
  rw [hg] at hl
  simp only [hc, if_true] at hl
  unfold rowLoad at hl
  simp [results, h, hp', asAddr, hl]

/-- An element of an array value. -/
theorem run_index_arr (ty elem : TypeId) (n : Nat) (cs : Array Value) (k : IntKind) (i : Nat) (v : Value) (w : World) (ht : P.underlying ty = some (.array n elem))
    (hz : ∀ w, (sizeOf elem).run P w = .ok 1 w) (ha : ∀ w, (isAgg elem).run P w = .ok false w) (hi : i < n) (hv : cs[i]? = some v) : (Instr.index ty (.agg cs) (.int k (i : Int))).run P w = .ok v w := by
  unfold Instr.index
  have h1 : (0 : Int) ≤ (i : Int) ∧ (i : Int) < (n : Int) := by omega
  have h2 : ¬ n ≤ i := by omega
  simp [Sem.run_bind, asIntOf, run_underlying ht, h1, hz, part, ha, hv, h2]

/-- append onto a row of the call's own: the result lies where the row lay, or in the block that was laid just now. -/
theorem run_append_own2 (w : World) (base : Nat) (t ty e : TypeId) (i : TypeInfo) (z : Value) (size bytes : Nat) (ht : P.underlying t = some (.slice e)) (hi : P.info? e = some i) (hz : i.zero = some z)
    (hsize : i.size = size) (hby : i.bytes = bytes) (hzs : z.cells.size = size) (hsz : 0 < size)
    (v : Value) (n : Nat) (xs : List Value) (hown : w.ownsRow base e size v n xs)
    (a : Addr) (m c : Nat) (hm : 0 < m) (news : List Value) (hl : news.length = m * size) (hnews : ∀ j u, news[j]? = some u → w.cell? (a.add j) = some u) (h1 : ∀ u ∈ news, u.oneCell' = true)
    (h63 : n + m ≤ maxLen) (hbytes : (n + m) * bytes ≤ 140737488355328) (hbase : base ≤ w.heap.size) :
    ∃ v' w', (Builtin.append_ #[t, t] ty #[v, .slice (some a) m c]).run P w = .ok v' w' ∧ w'.ownsRow base e size v' (n + m) (xs ++ news) ∧ w.grownBy w' v.ownBlock ∧
      (v'.ownBlock = v.ownBlock ∨ v'.ownBlock = some w.heap.size) := by
  obtain ⟨v', w', hr, h2, h3, _⟩ := run_append_own (P := P) w base t ty e i z size bytes ht hi hz hsize hby hzs hsz v n xs hown a m c news hl hnews h1 h63 hbytes hbase
  refine ⟨v', w', hr, h2, h3, ?_⟩
  have hsmall : n + m ≤ 9223372036854775807 := by simp only [maxLen] at h63; omega
  rcases hown.2 with ⟨rfl, rfl⟩ | ⟨g, cap, cur, rfl, hbg, hg, hnc, hcm, hcs, htake⟩
  · have hr2 := run_append_nil (P := P) w t ty e i z ht hi hz a m c news (by rw [hsize]; exact hl) hnews (by omega) (by omega) (by rw [hby]; have hb2 := hbytes; simp only [Nat.zero_add] at hb2; omega)
    rw [hr] at hr2
    cases hr2
    exact .inr rfl
  · by_cases hroom : n + m ≤ cap
    · obtain ⟨w2, hr2, _⟩ := run_append_fits (P := P) w base t ty e i size ht hi hsize g n cap xs hown a m c news hl hnews h1 hroom
      rw [hr] at hr2
      cases hr2
      exact .inl rfl
    · have holds : ∀ j u, xs[j]? = some u → w.cell? ((⟨g, 0, none⟩ : Addr).add j) = some u := hown.cells (g := g) rfl
      have hr2 := run_append_grow (P := P) w t ty e i z ht hi hz ⟨g, 0, none⟩ n cap xs (by rw [hsize]; exact hown.1) holds a m c news (by rw [hsize]; exact hl) hnews (by omega) (by omega) (growslice_fits (by omega) (by rw [hby]; exact hbytes))
      rw [hr] at hr2
      cases hr2
      exact .inr rfl

/-- make of a row whose elements are one cell each. -/
theorem run_make1 {t e bytes : Nat} {z : Value} (ht : P.underlying t = some (.slice e)) (hinfo : (P.info? e).map (fun i => (i.zero, i.size, i.bytes)) = some (some z, 1, bytes)) (hz1 : z.cells = #[z]) (n : Nat) (hbytes : bytes * n ≤ 281474976710656) (h63 : n ≤ 9223372036854775807) (w : World) :
    (Instr.makeSlice t (.int .i64 (n : Int)) (.int .i64 (n : Int))).run P w = .ok (.slice (some ⟨w.heap.size, 0, none⟩) n n) (w.alloc (.cells (Array.replicate n z) e)) := by
  have h := run_make_row' (P := P) t e z bytes ht hinfo hz1 .i64 .i64 n hbytes h63 w
  have e1 : madeCells #[z] n = Array.replicate n z := by
    apply Array.ext'
    rw [toList_madeCells_one]
    simp
  rw [e1] at h
  exact h

/-- '==' on two arrays of integers. -/
theorem run_equalIn_ints (d : Nat) (t elem : TypeId) (k k' : IntKind) (n : Nat) (xs ys : Array Value) (f g : Nat → Int) (w : World) (ht : P.underlying t = some (.array n elem)) (he : P.underlying elem = some (.int k'))
    (hz : ∀ w, (sizeOf elem).run P w = .ok 1 w) (ha : ∀ w, (isAgg elem).run P w = .ok false w)
    (hx : ∀ i, i < n → xs[i]? = some (.int k (f i))) (hy : ∀ i, i < n → ys[i]? = some (.int k (g i))) :
    (Op.equalIn (d + 1 + 1) t (.agg xs) (.agg ys)).run P w = .ok ((List.range' 0 n).all fun i => f i == g i) w := by
  rw [Op.equalIn]
  simp only [Sem.run_bind, run_underlying ht, Result.andThen_ok, hz]
  rw [Std.Legacy.Range.forIn_eq_forIn_range']
  simp only [Std.Legacy.Range.size, Nat.sub_zero, Nat.add_sub_cancel, Nat.div_one]
  have key : ∀ (m i : Nat), i + m ≤ n → ∀ (w : World), (forIn (List.range' i m) (none, ()) (fun (i : Nat) (r : Option Bool × Unit) => (do
      let __do_lift ← part elem xs (i * 1)
      let __do_lift_1 ← part elem ys (i * 1)
      let __do_lift ← Op.equalIn (d + 1) elem __do_lift __do_lift_1
      if (!__do_lift) = true then pure (ForInStep.done (some false, ())) else pure (ForInStep.yield (none, ())) : Sem (ForInStep (Option Bool × Unit))))).run P w = .ok (if (List.range' i m).all (fun i => f i == g i) then (none, ()) else (some false, ())) w := by
    intro m
    induction m with
    | zero => intro i _ w; simp
    | succ m ih =>
      intro i hi w
      have h1 := hx i (by omega)
      have h2 := hy i (by omega)
      have hp : ∀ (cs : Array Value) (v : Value) (w : World), cs[i]? = some v → (part elem cs (i * 1)).run P w = .ok v w := fun cs v w hv => by
        simp [part, Sem.run_bind, ha, hv]
      rw [List.range'_succ, List.forIn_cons]
      simp only [Sem.run_bind, hp xs _ _ h1, hp ys _ _ h2, Result.andThen_ok, run_equalIn_int _ d elem k k' _ _ he, List.all_cons]
      by_cases hfg : f i = g i
      · simp only [hfg, beq_self_eq_true, Bool.not_true, Bool.false_eq_true, if_false, Sem.run_pure, Result.andThen_ok, Bool.true_and]
        exact ih (i + 1) (by omega) w
      · have : (f i == g i) = false := by simpa using hfg
        simp [this]
  have hk := key n 0 (by omega) w
  rw [hk]
  generalize (List.range' 0 n).all (fun i => f i == g i) = b
  cases b <;> simp

/-- The end of a function whose one result is a composite variable. -/
theorem ret_row {fn : Func} {R : Ending → World → Prop} {a : Act} {w : World} {p : Tmp} {ty n : Nat} (g : Nat) (c : Array Value) (h : fn.results = #[.cell p ty]) (hagg : ∀ w, (isAgg ty).run P w = .ok true w) (hn : ∀ w, (sizeOf ty).run P w = .ok n w)
    (hp : a.tmps.getD p undef = .pointer (some ⟨g, 0, none⟩)) (hd : a.defers = []) (hg : row? w g = some c) (hc : c.size = n) (hR : R (.returned (.agg c)) w) : bodyPost P fn R .ret a w :=
  bodyPost_ret (results_row h hagg hn a.tmps w g c hp hg hc) hd hR
end
end Go.Pal
