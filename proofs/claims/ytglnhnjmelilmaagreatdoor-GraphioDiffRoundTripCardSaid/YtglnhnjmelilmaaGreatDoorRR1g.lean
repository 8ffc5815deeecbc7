/- Walks of package treedecomp. Walks of package treedecomp: roots, tops. Walks of the .. -/
import Derived.Test.YtglnhnjmelilmaaGreatDoorRSets
import Derived.Test.YtglnhnjmelilmaaGreatDoorRPlain
set_option linter.all false
namespace Go.Proofs.YtglnhnjmelilmaaGreatDoor
open Go Go.RowKit Go.Pal
attribute [go_sem] bagA_size bagA_zero bagA_get0 bagA_extract
@[go_sem] theorem allOne_bagA (b : Bg) : allOne (bagA b) = true := by
 unfold allOne
 rw [Array.all_eq_true_iff_forall_mem]
 exact fun v hv => bagA_one b v (by simpa using hv)
theorem infoInt : (Tryz.prog.info? 3).map (fun i => (i.zero, i.size, i.bytes)) = some (some (.int .i64 0), 1, 8) := by kernel_rfl
def OwnI (B : Nat) (w : World) (v : Value) (ns : List Int) : Prop := w.ownsRow B 3 1 v ns.length (ns.map (Value.int .i64))
theorem OwnI.alloc {B : Nat} {w : World} {v : Value} {ns : List Int} (h : OwnI B w v ns) (o : Obj) : OwnI B (w.alloc o) v ns := World.ownsRow.alloc (base := B) h o
theorem OwnI.nil (B : Nat) (w : World) : OwnI B w (.slice none 0 0) [] := World.ownsRow_nil _ _ _ _
theorem OwnI.block {B : Nat} {w : World} {v : Value} {ns : List Int} (h : OwnI B w v ns) : ∀ k, v.ownBlock = some k → B ≤ k := by
 intro k hk
 rcases h.2 with ⟨rfl, _⟩ | ⟨g, cap, cur, rfl, hg, _⟩
 · cases hk
 · simp only [Value.ownBlock, Option.some.injEq] at hk
   omega
end Go.Proofs.YtglnhnjmelilmaaGreatDoor
namespace Go.Pal
open Go Go.RowKit
def RdL (w : World) (v : Value) (ns : List Int) : Prop :=
 ∃ a c, v = .slice a ns.length c ∧ (ns = [] ∨ ∃ b off, a = some ⟨b, off, none⟩ ∧ b < w.heap.size ∧ ∀ (i : Nat) (z : Int), ns[i]? = some z → w.cell? ⟨b, off + i, none⟩ = some (.int .i64 z))
theorem RdL.below {w w' : World} {v : Value} {ns : List Int} (h : RdL w v ns) (hb : Below w.heap.size w w') : RdL w' v ns := by
 obtain ⟨a, c, hv, h⟩ := h
 refine ⟨a, c, hv, h.imp id ?_⟩
 rintro ⟨b, off, ha, hbB, hc⟩
 exact ⟨b, off, ha, Nat.lt_of_lt_of_le hbB hb.size, fun i z hz => (hb.cell (p := ⟨b, off + i, none⟩) hbB).trans (hc i z hz)⟩
theorem RdL.nil (w : World) : RdL w (.slice none 0 0) [] := ⟨none, 0, rfl, .inl rfl⟩
theorem RdL.at {w : World} {v : Value} {ns : List Int} (h : RdL w v ns) {k : Nat} (hk : k < ns.length) :
   ∃ b off c z, v = .slice (some ⟨b, off, none⟩) ns.length c ∧ ns[k]? = some z ∧ ∀ w', Below w.heap.size w w' → w'.cell? ⟨b, off + k, none⟩ = some (.int .i64 z) := by
 obtain ⟨a, c, hv, h⟩ := h
 rcases h with h | ⟨b, off, ha, hbB, hc⟩
 · rw [h] at hk; simp at hk
 · subst ha
   have hz : ns[k]? = some ns[k] := List.getElem?_eq_getElem hk
   exact ⟨b, off, c, _, hv, hz, fun w' hb => (hb.cell (p := ⟨b, off + k, none⟩) hbB).trans (hc k _ hz)⟩
def RdS (w : World) (v : Value) (S : Nat) : Prop := RdL w v (elemsI S) ∧ IsSet S
theorem RdS.below {w w' : World} {v : Value} {S : Nat} (h : RdS w v S) (hb : Below w.heap.size w w') : RdS w' v S := ⟨h.1.below hb, h.2⟩
def RdA (A : Nat → Prop) (w : World) (v : Value) (ns : List Int) : Prop :=
 ∃ a c, v = .slice a ns.length c ∧ (ns = [] ∨ ∃ b off, a = some ⟨b, off, none⟩ ∧ b < w.heap.size ∧ A b ∧ ∀ (i : Nat) (z : Int), ns[i]? = some z → w.cell? ⟨b, off + i, none⟩ = some (.int .i64 z))
theorem RdA.rdl {A : Nat → Prop} {w : World} {v : Value} {ns : List Int} (h : RdA A w v ns) : RdL w v ns := by
 obtain ⟨a, c, hv, h⟩ := h
 exact ⟨a, c, hv, h.imp id fun ⟨b, off, h1, h2, _, h3⟩ => ⟨b, off, h1, h2, h3⟩⟩
theorem RdA.keep {A A' : Nat → Prop} {w w' : World} {v : Value} {ns : List Int} (h : RdA A w v ns) (hs : w.heap.size ≤ w'.heap.size) (hk : ∀ k, k < w.heap.size → A k → w'.heap[k]? = w.heap[k]? ∧ A' k) : RdA A' w' v ns := by
 obtain ⟨a, c, hv, h⟩ := h
 refine ⟨a, c, hv, h.imp id ?_⟩
 rintro ⟨b, off, h1, h2, hA, h3⟩
 obtain ⟨h5, h6⟩ := hk b h2 hA
 exact ⟨b, off, h1, by omega, h6, fun i z hz => (World.cell?_of_block h5).trans (h3 i z hz)⟩
theorem RdA.sl {A : Nat → Prop} {w : World} {v : Value} {ns : List Int} (h : RdA A w v ns) : ∃ a c, v = .slice a ns.length c := by
 obtain ⟨a, c, hv, _⟩ := h
 exact ⟨a, c, hv⟩
theorem RdA.below {A : Nat → Prop} {w w' : World} {v : Value} {ns : List Int} (h : RdA A w v ns) (hb : Below w.heap.size w w') : RdA A w' v ns := h.keep hb.size fun k hk hA => ⟨hb.block k hk, hA⟩
theorem RdA.mono {A A' : Nat → Prop} {w : World} {v : Value} {ns : List Int} (h : RdA A w v ns) (hA : ∀ k, A k → A' k) : RdA A' w v ns := h.keep (Nat.le_refl _) fun k _ hk => ⟨rfl, hA k hk⟩
end Go.Pal
namespace Go.Proofs.YtglnhnjmelilmaaGreatDoor
open Go Go.RowKit Go.Pal
theorem OwnI.rdl {B : Nat} {w : World} {v : Value} {ns : List Int} (h : OwnI B w v ns) : RdL w v ns := by
 rcases h.2 with ⟨rfl, h2⟩ | ⟨g, cap, cur, rfl, hB, hg, _⟩
 · have := List.length_eq_zero_iff.1 h2
   subst this
   exact RdL.nil w
 · refine ⟨_, cap, rfl, .inr ⟨g, 0, rfl, (Array.getElem?_eq_some_iff.1 hg).1, fun i z hz => ?_⟩⟩
   have := World.ownsRow.cells (base := B) h (g := g) rfl i (.int .i64 z) (by rw [List.getElem?_map, hz]; rfl)
   have e : (⟨g, 0, none⟩ : Addr).add i = ⟨g, 0 + i, none⟩ := by unfold Addr.add; split <;> simp_all
   rwa [e] at this
theorem OwnI.sl {B : Nat} {w : World} {v : Value} {ns : List Int} (h : OwnI B w v ns) : ∃ a c, v = .slice a ns.length c := by
 obtain ⟨a, c, hv, _⟩ := h.rdl
 exact ⟨a, c, hv⟩
theorem OwnI.below {B C : Nat} {w w' : World} {v : Value} {ns : List Int} (h : OwnI B w v ns) (hb : Below C w w') (hC : w.heap.size ≤ C) : OwnI B w' v ns := by
 rcases h.2 with ⟨h1, h2⟩ | ⟨g, cap, cur, h1, hB, hg, r⟩
 · exact ⟨h.1, .inl ⟨h1, h2⟩⟩
 · have hlt := (Array.getElem?_eq_some_iff.1 hg).1
   exact ⟨h.1, .inr ⟨g, cap, cur, h1, hB, (hb.block g (by omega)).trans hg, r⟩⟩
theorem OwnI.lower {B B' : Nat} {w : World} {v : Value} {ns : List Int} (h : OwnI B w v ns) (hB : B' ≤ B) : OwnI B' w v ns := by
 obtain ⟨h1, h2⟩ := h
 refine ⟨h1, h2.imp id ?_⟩
 rintro ⟨g, cap, cur, hv, hb, r⟩
 exact ⟨g, cap, cur, hv, by omega, r⟩
theorem wp_appT {o : Oper} {a : Act} {K : Act → World → Prop} {Q : Exit → Act → World → Prop} {w : World} (st : TypeId) (hst : Tryz.prog.underlying st = some (.slice 3)) (s x : Operand)
   (ho : o.op = .call { callee := .builtin .append, args := #[s, x], argTypes := #[st, st] }) (B : Nat) (v : Value) (ns : List Int) (hs : a.eval s = v) (hown : OwnI B w v ns)
   (g : Nat) (z : Int) (c : Nat) (hx : a.eval x = .slice (some ⟨g, 0, none⟩) 1 c) (hg : w.cell? ⟨g, 0, none⟩ = some (.int .i64 z)) (hlen : ns.length < 1000000) (hB : B ≤ w.heap.size)
   (h : ∀ v' w', OwnI B w' v' (ns ++ [z]) → Below B w w' → K (a.put o.dst v') w') : o.wp Tryz.prog a w K Q := by
 obtain ⟨i0, hi, hz0, hz1, hz2⟩ := info_parts infoInt
 obtain ⟨v', w', hr, h2, h3, h4⟩ := run_append_own2 (P := Tryz.prog) w B st o.type 3 i0 (.int .i64 0) 1 8 hst hi hz0 hz1 hz2 rfl (by decide) v ns.length (ns.map (Value.int .i64)) hown ⟨g, 0, none⟩ 1 c (by decide) [.int .i64 z] rfl
   (fun j u hj => by
     cases j with
     | zero => simp at hj; subst hj; simpa [Addr.add] using hg
     | succ j => simp at hj) (fun u hu => by simp at hu; subst hu; rfl) (by unfold maxLen; omega) (by omega) hB
 unfold Oper.wp execOp
 simp only [ho, resolve, invoke, builtin, Sem.run_bind, Sem.run_pure, Result.andThen_ok, List.map_toArray, List.map_cons, List.map_nil, hs, hx, hr]
 refine h v' w' ?_ ((Below.refl B w).grown h3 hB hown.block)
 unfold OwnI
 simpa using h2
theorem wpList_appT {ops : Array Oper} {rest : List Oper} {o : Oper} {a : Act} {Q : Exit → Act → World → Prop} {w : World} (hgd : o.guard = none) (st : TypeId) (hst : Tryz.prog.underlying st = some (.slice 3)) (s x : Operand)
   (ho : o.op = .call { callee := .builtin .append, args := #[s, x], argTypes := #[st, st] }) (B : Nat) (v : Value) (ns : List Int) (hs : a.eval s = v) (hown : OwnI B w v ns)
   (g : Nat) (z : Int) (c : Nat) (hx : a.eval x = .slice (some ⟨g, 0, none⟩) 1 c) (hg : w.cell? ⟨g, 0, none⟩ = some (.int .i64 z)) (hlen : ns.length < 1000000) (hB : B ≤ w.heap.size)
   (h : ∀ v' w', OwnI B w' v' (ns ++ [z]) → Below B w w' → wpList Tryz.prog ops Q rest (a.put o.dst v') w') : wpList Tryz.prog ops Q (o :: rest) a w :=
 wpList_plain hgd fun _ hK => wp_appT st hst s x ho B v ns hs hown g z c hx hg hlen hB fun v' w' h1 h2 => hK _ _ (h v' w' h1 h2)
end Go.Proofs.YtglnhnjmelilmaaGreatDoor
