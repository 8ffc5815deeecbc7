/-
  Walks of package toptree: the builder's state, add.
  Walks of package toptree: add.
-/
import Derived.Test.YtoboncfgogjllaaGreatDoorQFr9
import Derived.Test.YtoboncfgogjllaaGreatDoorQPlain
namespace Go.Proofs.YtoboncfgogjllaaGreatDoor
open Go Go.RowKit Go.Pal Go.Shelf

/-- A cluster as it lies in memory: beside its entry the slice value of its children. -/
structure TN where
  nd : TNd
  kv : Value
def TN.cells (x : TN) : Array Value := #[.int .i64 (x.nd.kind : Int), .int .i64 (x.nd.bag : Int), x.kv] ++ words x.nd.bnd
theorem TN.cells_size (x : TN) : x.cells.size = 19 := by simp [TN.cells, words_size]
def tnC (N : List TN) : List Value := N.flatMap fun x => x.cells.toList
theorem tnC_length (N : List TN) : (tnC N).length = N.length * 19 := by
  induction N with
  | nil => rfl
  | cons x N ih =>
    simp only [tnC, List.flatMap_cons, List.length_append, Array.length_toList, TN.cells_size, List.length_cons] at ih ⊢
    omega
theorem tnC_append (N M : List TN) : tnC (N ++ M) = tnC N ++ tnC M := by simp [tnC]
def OwnN (B : Nat) (w : World) (v : Value) (N : List TN) : Prop := w.ownsRow B 42 19 v N.length (tnC N)
theorem OwnN.block {B : Nat} {w : World} {v : Value} {N : List TN} (h : OwnN B w v N) : ∀ k, v.ownBlock = some k → B ≤ k := fun k hk => (World.ownsRow.lt (base := B) h k hk).1
theorem OwnN.lt {B : Nat} {w : World} {v : Value} {N : List TN} (h : OwnN B w v N) : ∀ k, v.ownBlock = some k → k < w.heap.size := fun k hk => (World.ownsRow.lt (base := B) h k hk).2
theorem OwnN.same {B : Nat} {w w' : World} {v : Value} {N : List TN} (h : OwnN B w v N) (hb : ∀ g, v.ownBlock = some g → w'.heap[g]? = w.heap[g]?) : OwnN B w' v N := by
  obtain ⟨h1, h2⟩ := h
  refine ⟨h1, h2.imp id ?_⟩
  rintro ⟨g, cap, cur, rfl, hb', hh, r⟩
  exact ⟨g, cap, cur, rfl, hb', (hb g rfl).trans hh, r⟩

def tn0 : TN := ⟨⟨0, 0, [], 0⟩, .slice none 0 0⟩
theorem infoTNode : (Tryz.prog.info? 42).map (fun i => (i.zero, i.size, i.bytes)) = some (some (.agg tn0.cells), 19, 168) := by kernel_rfl
theorem TN.one (x : TN) (h : ∃ q n c, x.kv = .slice q n c) : ∀ u ∈ x.cells.toList, u.oneCell' = true := by
  obtain ⟨q, n, c, h⟩ := h
  intro u hu
  simp only [TN.cells, Array.toList_append, List.mem_append, h] at hu
  rcases hu with hu | hu
  · simp at hu
    rcases hu with rfl | rfl | rfl <;> rfl
  · have := allOne_words x.nd.bnd
    unfold allOne at this
    rw [Array.all_eq_true_iff_forall_mem] at this
    exact this u (by simpa using hu)
/-- One cluster appended to a row of the call's own. -/
theorem wp_appN {o : Oper} {a : Act} {K : Act → World → Prop} {Q : Exit → Act → World → Prop} {w : World} (s x : Operand)
    (ho : o.op = .call { callee := .builtin .append, args := #[s, x], argTypes := #[70, 70] }) (B : Nat) (v : Value) (N : List TN) (hs : a.eval s = v) (hown : OwnN B w v N)
    (g : Nat) (y : TN) (hy : ∃ q n c, y.kv = .slice q n c) (c : Nat) (hx : a.eval x = .slice (some ⟨g, 0, none⟩) 1 c) (hg : row? w g = some y.cells) (hlen : N.length < 100000) (hB : B ≤ w.heap.size)
    (h : ∀ v' w', OwnN B w' v' (N ++ [y]) → Below B w w' → w.grownBy w' v.ownBlock → (v'.ownBlock = v.ownBlock ∨ v'.ownBlock = some w.heap.size) → K (a.put o.dst v') w') : o.wp Tryz.prog a w K Q := by
  obtain ⟨i0, hi, hz0, hz1, hz2⟩ := info_parts infoTNode
  obtain ⟨v', w', hr, h2, h3, h4⟩ := run_append_own2 (P := Tryz.prog) w B 70 o.type 42 i0 (.agg tn0.cells) 19 168 Tryz.underlying70 hi hz0 hz1 hz2 rfl (by decide) v N.length (tnC N) hown ⟨g, 0, none⟩ 1 c (by decide) y.cells.toList (by rw [Array.length_toList, TN.cells_size])
    (fun j u hj => by
      have : (⟨g, 0, none⟩ : Addr).add j = ⟨g, j, none⟩ := by unfold Addr.add; split <;> simp_all
      rw [this, cell?_row hg]
      simpa using hj) (y.one hy) (by unfold maxLen; omega) (by omega) hB
  unfold Oper.wp execOp
  simp only [ho, resolve, invoke, builtin, Sem.run_bind, Sem.run_pure, Result.andThen_ok, List.map_toArray, List.map_cons, List.map_nil, hs, hx, hr]
  refine h v' w' ?_ ((Below.refl B w).grown h3 hB hown.block) h3 h4
  unfold OwnN
  rw [List.length_append, tnC_append]
  simpa [tnC] using h2

/-- The children of a cluster can be read, beside the block of the builder and that of its clusters. -/
def KidR (w : World) (gb : Nat) (ob : Option Nat) (x : TN) : Prop :=
  ∃ a c, x.kv = .slice a x.nd.kids.length c ∧ (x.nd.kids = [] ∧ a = none ∨ ∃ k, a = some ⟨k, 0, none⟩ ∧ k < w.heap.size ∧ k ≠ gb ∧ some k ≠ ob ∧ ∀ (i z : Nat), x.nd.kids[i]? = some z → w.cell? ⟨k, i, none⟩ = some (.int .i64 (z : Int)))
theorem KidR.keep {w w' : World} {gb : Nat} {ob ob' : Option Nat} {x : TN} (h : KidR w gb ob x) (hs : w.heap.size ≤ w'.heap.size) (hb : ∀ k, k < w.heap.size → k ≠ gb → some k ≠ ob → w'.heap[k]? = w.heap[k]? ∧ some k ≠ ob') : KidR w' gb ob' x := by
  obtain ⟨a, c, h1, h2⟩ := h
  refine ⟨a, c, h1, h2.imp id ?_⟩
  rintro ⟨k, rfl, h3, h4, h5, h6⟩
  obtain ⟨h7, h8⟩ := hb k h3 h4 h5
  exact ⟨k, rfl, by omega, h4, h8, fun i z hz => (World.cell?_of_block h7).trans (h6 i z hz)⟩
theorem KidR.slice {w : World} {gb : Nat} {ob : Option Nat} {x : TN} (h : KidR w gb ob x) : ∃ q n c, x.kv = .slice q n c := by
  obtain ⟨a, c, h1, -⟩ := h
  exact ⟨_, _, _, h1⟩

/-- The builder's state: its frame, the slice of its clusters, the clusters. -/
structure BSt (w0 : World) (gf gb : Nat) (w : World) (sv : Value) (N : List TN) : Prop where
  below : Below w0.heap.size w0 w
  fresh : w0.heap.size ≤ gb
  row : row? w gb = some #[.pointer (some ⟨gf, 0, none⟩), sv]
  own : OwnN w0.heap.size w sv N
  ne : sv.ownBlock ≠ some gb
  kids : ∀ x ∈ N, KidR w gb sv.ownBlock x
/-- What a step of the builder leaves as it was. -/
structure Stp (gb : Nat) (w : World) (sv : Value) (w' : World) (sv' : Value) : Prop where
  same : Same (fun k => k ≠ gb ∧ some k ≠ sv.ownBlock) w w'
  place : sv'.ownBlock = sv.ownBlock ∨ ∃ k, sv'.ownBlock = some k ∧ w.heap.size ≤ k
theorem Stp.refl (gb : Nat) (w : World) (sv : Value) : Stp gb w sv w sv := ⟨Same.refl _ _, .inl rfl⟩
theorem Stp.ob {gb : Nat} {w w' : World} {sv sv' : Value} (h : Stp gb w sv w' sv') {k : Nat} (hk : k < w.heap.size) (hne : some k ≠ sv.ownBlock) : some k ≠ sv'.ownBlock := by
  rcases h.place with h1 | ⟨j, h1, h2⟩
  · rwa [h1]
  · rw [h1]; simp; omega
theorem Stp.trans {gb : Nat} {w w1 w2 : World} {sv sv1 sv2 : Value} (h : Stp gb w sv w1 sv1) (k : Stp gb w1 sv1 w2 sv2) : Stp gb w sv w2 sv2 := by
  refine ⟨⟨k.same.os.trans h.same.os, k.same.tape.trans h.same.tape, k.same.output.trans h.same.output, Nat.le_trans h.same.size k.same.size, fun i hi ha => (k.same.block i (Nat.lt_of_lt_of_le hi h.same.size) ⟨ha.1, h.ob hi ha.2⟩).trans (h.same.block i hi ha)⟩, ?_⟩
  rcases k.place with h1 | ⟨j, h1, h2⟩
  · rw [h1]; exact h.place
  · exact .inr ⟨j, h1, Nat.le_trans h.same.size h2⟩
theorem Stp.of_below {gb : Nat} {w w' : World} {sv : Value} (h : Below w.heap.size w w') : Stp gb w sv w' sv := ⟨(Same.of_below h).mono fun _ hk _ => hk, .inl rfl⟩
theorem BSt.gb_lt {w0 : World} {gf gb : Nat} {w : World} {sv : Value} {N : List TN} (h : BSt w0 gf gb w sv N) : gb < w.heap.size := row?_lt h.row
theorem BSt.keep {w0 : World} {gf gb : Nat} {w w' : World} {sv : Value} {N : List TN} (h : BSt w0 gf gb w sv N) (hb : Below w.heap.size w w') : BSt w0 gf gb w' sv N := by
  refine ⟨h.below.trans (hb.mono h.below.size), h.fresh, (row?_below hb h.gb_lt).trans h.row, h.own.same fun g hg => hb.block g (h.own.lt g hg), h.ne, fun x hx => (h.kids x hx).keep hb.size fun k hk h1 h2 => ⟨hb.block k hk, h2⟩⟩
theorem BSt.ptr {w0 : World} {gf gb : Nat} {w : World} {sv : Value} {N : List TN} (h : BSt w0 gf gb w sv N) : w.cell? ⟨gb, 0, none⟩ = some (.pointer (some ⟨gf, 0, none⟩)) := by
  rw [cell?_row h.row]; rfl
theorem BSt.slice {w0 : World} {gf gb : Nat} {w : World} {sv : Value} {N : List TN} (h : BSt w0 gf gb w sv N) : ∃ q c, sv = .slice q N.length c := by
  rcases h.own.2 with ⟨h1, h2⟩ | ⟨g, cap, cur, h1, _⟩
  · exact ⟨_, _, by rw [h1, h2]⟩
  · exact ⟨_, _, h1⟩
end Go.Proofs.YtoboncfgogjllaaGreatDoor
namespace Go.Proofs.YtoboncfgogjllaaGreatDoor
open Go Go.RowKit Go.Pal Go.Shelf

@[go_sem ↓ high] theorem loadTN (a : Addr) : loadVar 42 a = loadLater 42 a := rfl
@[go_sem ↓ high] theorem storeTN (a : Addr) (v : Value) : storeVar 42 a v = storeLater 42 a v := rfl
@[go_sem] theorem loadTN_run (w : World) (a : Addr) : (loadLater 42 a).run Tryz.prog w = rowLoad Tryz.prog 42 a w := rfl
@[go_sem] theorem storeTN_run (w : World) (a : Addr) (v : Value) : (storeLater 42 a v).run Tryz.prog w = rowStore Tryz.prog 42 a v w := rfl
theorem loadTN_row {w : World} {g : Nat} {x : TN} (h : row? w g = some x.cells) : rowLoad Tryz.prog 42 ⟨g, 0, none⟩ w = .ok (.agg x.cells) w := by
  have := load_row (P := Tryz.prog) Tryz.isAgg42 Tryz.sizeOf42 w g
  rw [h] at this
  simpa only [TN.cells_size, if_true] using this

theorem words_lit (S : Nat) : words S = #[.int .u64 (wd S 0 : Int), .int .u64 (wd S 1 : Int), .int .u64 (wd S 2 : Int), .int .u64 (wd S 3 : Int), .int .u64 (wd S 4 : Int), .int .u64 (wd S 5 : Int), .int .u64 (wd S 6 : Int), .int .u64 (wd S 7 : Int), .int .u64 (wd S 8 : Int), .int .u64 (wd S 9 : Int), .int .u64 (wd S 10 : Int), .int .u64 (wd S 11 : Int), .int .u64 (wd S 12 : Int), .int .u64 (wd S 13 : Int), .int .u64 (wd S 14 : Int), .int .u64 (wd S 15 : Int)] := by
  apply Array.ext'
  simp [words, List.ofFn_succ, Fin.succ]
theorem buildTN0 (k b : Int) (p0 p1 p2 p3 p4 p5 p6 p7 p8 p9 p10 p11 p12 p13 p14 p15 : Int) (w : World) : (Instr.build 42 #[(0, .int .i64 k), (1, .int .i64 b), (3, .agg #[.int .u64 p0, .int .u64 p1, .int .u64 p2, .int .u64 p3, .int .u64 p4, .int .u64 p5, .int .u64 p6, .int .u64 p7, .int .u64 p8, .int .u64 p9, .int .u64 p10, .int .u64 p11, .int .u64 p12, .int .u64 p13, .int .u64 p14, .int .u64 p15])]).run Tryz.prog w = .ok (.agg #[.int .i64 k, .int .i64 b, .slice none 0 0, .int .u64 p0, .int .u64 p1, .int .u64 p2, .int .u64 p3, .int .u64 p4, .int .u64 p5, .int .u64 p6, .int .u64 p7, .int .u64 p8, .int .u64 p9, .int .u64 p10, .int .u64 p11, .int .u64 p12, .int .u64 p13, .int .u64 p14, .int .u64 p15]) w := by kernel_rfl
theorem buildTN1 (k b : Int) (q : Option Addr) (n c : Nat) (p0 p1 p2 p3 p4 p5 p6 p7 p8 p9 p10 p11 p12 p13 p14 p15 : Int) (w : World) : (Instr.build 42 #[(0, .int .i64 k), (1, .int .i64 b), (2, .slice q n c), (3, .agg #[.int .u64 p0, .int .u64 p1, .int .u64 p2, .int .u64 p3, .int .u64 p4, .int .u64 p5, .int .u64 p6, .int .u64 p7, .int .u64 p8, .int .u64 p9, .int .u64 p10, .int .u64 p11, .int .u64 p12, .int .u64 p13, .int .u64 p14, .int .u64 p15])]).run Tryz.prog w = .ok (.agg #[.int .i64 k, .int .i64 b, .slice q n c, .int .u64 p0, .int .u64 p1, .int .u64 p2, .int .u64 p3, .int .u64 p4, .int .u64 p5, .int .u64 p6, .int .u64 p7, .int .u64 p8, .int .u64 p9, .int .u64 p10, .int .u64 p11, .int .u64 p12, .int .u64 p13, .int .u64 p14, .int .u64 p15]) w := by kernel_rfl
theorem buildTNs (k b : Int) (q : Option Addr) (n c : Nat) (p0 p1 p2 p3 p4 p5 p6 p7 p8 p9 p10 p11 p12 p13 p14 p15 : Int) (w : World) : (Instr.buildSlice 70 1 #[(0, .agg #[.int .i64 k, .int .i64 b, .slice q n c, .int .u64 p0, .int .u64 p1, .int .u64 p2, .int .u64 p3, .int .u64 p4, .int .u64 p5, .int .u64 p6, .int .u64 p7, .int .u64 p8, .int .u64 p9, .int .u64 p10, .int .u64 p11, .int .u64 p12, .int .u64 p13, .int .u64 p14, .int .u64 p15])]).run Tryz.prog w = .ok (.slice (some ⟨w.heap.size, 0, none⟩) 1 1) (w.alloc (.cells #[.int .i64 k, .int .i64 b, .slice q n c, .int .u64 p0, .int .u64 p1, .int .u64 p2, .int .u64 p3, .int .u64 p4, .int .u64 p5, .int .u64 p6, .int .u64 p7, .int .u64 p8, .int .u64 p9, .int .u64 p10, .int .u64 p11, .int .u64 p12, .int .u64 p13, .int .u64 p14, .int .u64 p15] 42)) := by kernel_rfl
/-- The cells of a cluster out of its parts. -/
def cellsZ (k b : Int) (kv : Value) (S : Nat) : Array Value := #[.int .i64 k, .int .i64 b, kv] ++ words S
theorem cellsZ_lit (k b : Int) (kv : Value) (S : Nat) : cellsZ k b kv S = #[.int .i64 k, .int .i64 b, kv, .int .u64 (wd S 0 : Int), .int .u64 (wd S 1 : Int), .int .u64 (wd S 2 : Int), .int .u64 (wd S 3 : Int), .int .u64 (wd S 4 : Int), .int .u64 (wd S 5 : Int), .int .u64 (wd S 6 : Int), .int .u64 (wd S 7 : Int), .int .u64 (wd S 8 : Int), .int .u64 (wd S 9 : Int), .int .u64 (wd S 10 : Int), .int .u64 (wd S 11 : Int), .int .u64 (wd S 12 : Int), .int .u64 (wd S 13 : Int), .int .u64 (wd S 14 : Int), .int .u64 (wd S 15 : Int)] := by
  unfold cellsZ
  rw [words_lit]
  apply Array.ext'
  simp
theorem TN.cells_eq (x : TN) : cellsZ (x.nd.kind : Int) (x.nd.bag : Int) x.kv x.nd.bnd = x.cells := rfl
@[go_sem ↓ high] theorem build_TN0 (k b : Int) (S : Nat) (w : World) : (Instr.build 42 #[(0, .int .i64 k), (1, .int .i64 b), (3, .agg (words S))]).run Tryz.prog w = .ok (.agg (cellsZ k b (.slice none 0 0) S)) w := by
  rw [cellsZ_lit, words_lit]
  exact buildTN0 _ _ _ _ _ _ _ _ _ _ _ _ _ _ _ _ _ _ _
@[go_sem ↓ high] theorem build_TN1 (k b : Int) (S : Nat) (q : Option Addr) (n c : Nat) (w : World) : (Instr.build 42 #[(0, .int .i64 k), (1, .int .i64 b), (2, .slice q n c), (3, .agg (words S))]).run Tryz.prog w = .ok (.agg (cellsZ k b (.slice q n c) S)) w := by
  rw [cellsZ_lit, words_lit]
  exact buildTN1 _ _ _ _ _ _ _ _ _ _ _ _ _ _ _ _ _ _ _ _ _ _
theorem build_TNs (x : TN) (hx : ∃ q n c, x.kv = .slice q n c) (w : World) : (Instr.buildSlice 70 1 #[(0, .agg x.cells)]).run Tryz.prog w = .ok (.slice (some ⟨w.heap.size, 0, none⟩) 1 1) (w.alloc (.cells x.cells 42)) := by
  obtain ⟨q, n, c, hx⟩ := hx
  obtain ⟨⟨k, b, ks, S⟩, kv⟩ := x
  simp only at hx
  subst hx
  rw [← TN.cells_eq, cellsZ_lit]
  exact buildTNs _ _ _ _ _ _ _ _ _ _ _ _ _ _ _ _ _ _ _ _ _ _
theorem wp_bTNs {o : Oper} {a : Act} {w : World} {K : Act → World → Prop} {Q : Exit → Act → World → Prop} (x : Operand) (ho : o.op = .buildSlice 70 1 #[(0, x)]) (y : TN) (hy : ∃ q n c, y.kv = .slice q n c) (hx : a.eval x = .agg y.cells)
    (h : K (a.put o.dst (.slice (some ⟨w.heap.size, 0, none⟩) 1 1)) (w.alloc (.cells y.cells 42))) : o.wp Tryz.prog a w K Q := by
  unfold Oper.wp execOp
  simp only [ho, List.map_toArray, List.map_cons, List.map_nil, hx, Sem.run_bind, build_TNs y hy, Result.andThen_ok]
  exact h
theorem BSt.put {w0 : World} {gf gb : Nat} {w w' : World} {sv sv' : Value} {N : List TN} {x : TN} (h : BSt w0 gf gb w sv N) (hx : KidR w gb sv.ownBlock x) (ho : OwnN w0.heap.size w' sv' (N ++ [x]))
    (hb : Below w0.heap.size w w') (hg : w.grownBy w' sv.ownBlock) (hp : sv'.ownBlock = sv.ownBlock ∨ ∃ k, sv'.ownBlock = some k ∧ w.heap.size ≤ k) (w2 : World) (hs2 : w2.heap.size = w'.heap.size) (hr2 : row? w2 gb = some #[.pointer (some ⟨gf, 0, none⟩), sv'])
    (hk2 : ∀ k, k ≠ gb → w2.heap[k]? = w'.heap[k]?) (h1 : w2.os = w'.os) (h2 : w2.tape = w'.tape) (h3 : w2.output = w'.output) : BSt w0 gf gb w2 sv' (N ++ [x]) ∧ Stp gb w sv w2 sv' := by
  have hsz : w.heap.size ≤ w'.heap.size := hb.size
  have hgrow : ∀ k, k < w.heap.size → some k ≠ sv.ownBlock → w'.heap[k]? = w.heap[k]? := hg.block
  have hgb := h.gb_lt
  have hne' : sv'.ownBlock ≠ some gb := by
    rcases hp with e | ⟨k, e, hk⟩
    · rw [e]; exact h.ne
    · rw [e]; simp; omega
  have hsame : Same (fun k => k ≠ gb ∧ some k ≠ sv.ownBlock) w w2 := ⟨h1.trans hb.os, h2.trans hb.tape, h3.trans hb.output, by omega, fun k hk hk' => (hk2 k hk'.1).trans (hgrow k hk hk'.2)⟩
  have hstp : Stp gb w sv w2 sv' := ⟨hsame, hp⟩
  refine ⟨⟨?_, h.fresh, hr2, ?_, hne', ?_⟩, hstp⟩
  · refine h.below.trans (hsame.below h.below.size fun k hk => ⟨by have := h.fresh; omega, fun e => ?_⟩)
    have := h.own.block k e.symm
    omega
  · exact ho.same fun g hg => hk2 g fun e => hne' (e ▸ hg)
  · intro y hy
    have : KidR w gb sv.ownBlock y := by
      rcases List.mem_append.1 hy with hy | hy
      · exact h.kids y hy
      · simp at hy; subst hy; exact hx
    exact this.keep (by omega) fun k hk h4 h5 => ⟨hsame.block k hk ⟨h4, h5⟩, hstp.ob hk h5⟩

set_option maxRecDepth 10000 in
set_option maxHeartbeats 400000 in
theorem add_any (w0 : World) (gf gb : Nat) (w : World) (sv : Value) (N : List TN) (h : BSt w0 gf gb w sv N) (x : TN) (hx : KidR w gb sv.ownBlock x) (hlen : N.length < 100000) :
    Calls Tryz.prog 61 #[.pointer (some ⟨gb, 0, none⟩), .agg x.cells] w fun e w' => e = .returned (.int .i64 (N.length : Int)) ∧ ∃ sv', BSt w0 gf gb w' sv' (N ++ [x]) ∧ Stp gb w sv w' sv' := by
  have hgb := h.gb_lt
  have hxs := hx.slice
  have HB := Lib.hid h
  have HX := Lib.hid hx
  clear h hx
  go_enter Tryz.func61, Tryz.ntmps61
  go_wp2_with fail
  obtain ⟨W, hW⟩ : ∃ W, W = w.alloc (Obj.cells x.cells 42) := ⟨_, rfl⟩
  have hBW : Below w.heap.size w W := by rw [hW]; exact (Below.refl _ w).alloc (Nat.le_refl _) _
  have hrW : row? W w.heap.size = some x.cells := by rw [hW]; simp [go_sem]
  have hsW : W.heap.size = w.heap.size + 1 := by rw [hW]; simp
  rw [← hW]
  have HS := Lib.hid (HB.out.keep hBW)
  clear hW
  refine wp_region_mix (fun w' => row? w' gb = some #[.pointer (some ⟨gf, 0, none⟩), sv] ∧ row? w' w.heap.size = some x.cells) 8 [(0, true), (1, true), (2, true), (3, true), (4, true), (5, true), (6, false), (7, false)] (by kernel_rfl) (by kernel_rfl) ⟨HS.out.row, hrW⟩ ?_
  repeat (apply wpPlan_still rfl rfl; (intro w hw; have k1 := cell?_row (i := 1) hw.1; have k2 := loadTN_row hw.2; simp at k1; clear hw; go_simp; (try go_ints); (first | with_reducible rfl | (go_simp; with_reducible rfl))); (intro K hK; go_simp; (try go_ints); refine hK _ _ ?_; clear hK K))
  apply wpPlan_act rfl rfl
  intro K hK
  refine wp_bTNs _ rfl x hxs rfl ?_
  refine hK _ _ ⟨(row?_alloc_past _ _ _ (by simp; omega)).trans HS.out.row, (row?_alloc_past _ _ _ (by simp; omega)).trans hrW⟩ ?_
  clear hK K
  apply wpPlan_act rfl rfl
  intro K hK
  obtain ⟨W', hW'⟩ : ∃ W', W' = W.drew.alloc (Obj.cells x.cells 42) := ⟨_, rfl⟩
  have hBW' : Below w.heap.size w W' := by rw [hW']; exact (hBW.drew).alloc (by simp; omega) _
  have hS' := HB.out.keep hBW'
  have hrW' : row? W' w.heap.size = some x.cells := by rw [hW']; exact (row?_alloc_past _ _ _ (by simp; omega)).trans hrW
  have hr' : row? W' W.heap.size = some x.cells := by rw [hW']; simp [go_sem]
  have hs' : W'.heap.size = w.heap.size + 2 := by rw [hW']; simp; omega
  have hw0 : w0.heap.size ≤ w.heap.size := HB.out.below.size
  have HX' := Lib.hid (HX.out.keep hBW'.size fun k hk h1 h2 => ⟨hBW'.block k hk, h2⟩)
  have hS1 : ∀ k, sv.ownBlock = some k → k < w.heap.size := fun k hk => HB.out.own.lt k hk
  have HS' := Lib.hid hS'
  have HBW' := Lib.hid hBW'
  rw [← hW']
  clear hW' hS' HS HX hBW hrW hBW'
  refine wp_appN _ _ rfl w0.heap.size sv N rfl HS'.out.own W.heap.size x hxs 1 rfl hr' hlen (by omega) ?_
  intro v1 w1 hO1 hb1 hg1 hl1
  have hr1 : row? w1 gb = _ := (row?_congr (hg1.block gb (by omega) (fun e => HS'.out.ne e.symm))).trans HS'.out.row
  refine hK _ _ ⟨hr1, (row?_congr (hg1.block _ (by omega) (fun e => by have := hS1 _ e.symm; omega))).trans hrW'⟩ ?_
  clear hK K
  obtain ⟨q, c, rfl⟩ : ∃ q c, v1 = .slice q (N.length + 1) c := by
    rcases hO1.2 with ⟨h1, h2⟩ | ⟨g, cap, cur, h1, _⟩
    · simp at h2
    · exact ⟨_, _, by simpa using h1⟩
  have hHO1 := Lib.hid hO1
  have HB1 := Lib.hid hb1
  have HG1 := Lib.hid hg1
  have hfz := frozen?_row (i := 1) hr1
  have hgb1 := row?_lt hr1
  have k1 := cell?_row (i := 1) hr1
  simp at k1
  clear hO1 hb1 hg1
  refine wpPlan_nil ?_
  simp only [List.drop_succ_cons, List.drop_zero]
  go_wp2_with fail
  go_ret
  refine ⟨by simp, .slice q (N.length + 1) c, ?_⟩
  have hput := HS'.out.put HX'.out hHO1.out HB1.out HG1.out (hl1.imp id fun e => ⟨_, e, Nat.le_refl _⟩) (w1.setCell ⟨gb, 1, none⟩ (.slice q (N.length + 1) c)) (by simp) ?_ ?_ rfl rfl rfl
  · exact ⟨hput.1, (Stp.of_below HBW'.out).trans hput.2⟩
  · rw [row?_setCell_same, hr1]; rfl
  · intro k hk
    exact heap_setCell_other _ _ k _ hk
end Go.Proofs.YtoboncfgogjllaaGreatDoor
