/- Numbers and polynomials in memory: variables of their types; a slice that reads a row of .. -/
import Derived.Test.YtgnlebnpnpjfmaaGreatDoorProg
import Derived.Test.YtgnlebnpnpjfmaaGreatDoorUOw
import Derived.Test.YtgnlebnpnpjfmaaGreatDoorURu
import Derived.Test.YtgnlebnpnpjfmaaGreatDoorUPl
import Derived.WalkSpells
import Derived.WalkLawsBesides
import Derived.BigQuiet
import Derived.Lib.Hide
set_option maxHeartbeats 1000000
set_option maxRecDepth 10000
set_option linter.all false
namespace Go.Pal
open Go Go.RowKit
def RdN (k : IntKind) (w : World) (v : Value) (l : List Nat) : Prop :=
 ∃ a c, v = .slice a l.length c ∧ l.length ≤ c ∧ (l = [] ∨ ∃ b off, a = some ⟨b, off, none⟩ ∧ b < w.heap.size ∧ (∀ (i x : Nat), l[i]? = some x → w.cell? ⟨b, off + i, none⟩ = some (.int k (x : Int))) ∧ off = 0)
theorem RdN.below {k : IntKind} {w w' : World} {v : Value} {l : List Nat} (h : RdN k w v l) (hb : Below w.heap.size w w') : RdN k w' v l := by
 obtain ⟨a, c, hv, hc, h⟩ := h
 refine ⟨a, c, hv, hc, h.imp id ?_⟩
 rintro ⟨b, off, ha, hbB, hc, h0⟩
 exact ⟨b, off, ha, Nat.lt_of_lt_of_le hbB hb.size, fun i x hx => (hb.cell (p := ⟨b, off + i, none⟩) hbB).trans (hc i x hx), h0⟩
theorem RdN.nil (k : IntKind) (w : World) : RdN k w (.slice none 0 0) [] := ⟨none, 0, rfl, Nat.le_refl _, .inl rfl⟩
theorem RdN.at {k : IntKind} {w : World} {v : Value} {l : List Nat} (h : RdN k w v l) {i : Nat} (hi : i < l.length) :
   ∃ b off c x, v = .slice (some ⟨b, off, none⟩) l.length c ∧ l.length ≤ c ∧ l[i]? = some x ∧ ∀ w', Below w.heap.size w w' → w'.cell? ⟨b, off + i, none⟩ = some (.int k (x : Int)) := by
 obtain ⟨a, c, hv, hc, h⟩ := h
 rcases h with h | ⟨b, off, ha, hbB, hcell, -⟩
 · rw [h] at hi; simp at hi
 · subst ha
   have hx : l[i]? = some l[i] := List.getElem?_eq_getElem hi
   exact ⟨b, off, c, _, hv, hc, hx, fun w' hb => (hb.cell (p := ⟨b, off + i, none⟩) hbB).trans (hcell i _ hx)⟩
theorem RdN.take {k : IntKind} {w : World} {a : Option Addr} {n c m : Nat} {l : List Nat} (h : RdN k w (.slice a n c) l) (hm : m ≤ l.length) : RdN k w (.slice a m c) (l.take m) := by
 obtain ⟨a', c', hv, hc, h⟩ := h
 simp only [Value.slice.injEq] at hv
 obtain ⟨rfl, rfl, rfl⟩ := hv
 have hl : (l.take m).length = m := by rw [List.length_take]; omega
 refine ⟨a, c, by rw [hl], by omega, ?_⟩
 rcases h with h | ⟨b, off, ha, hbB, hcell, h0⟩
 · exact .inl (by rw [h]; simp)
 · refine .inr ⟨b, off, ha, hbB, fun i x hx => hcell i x ?_, h0⟩
   rw [List.getElem?_take] at hx
   split at hx
   · exact hx
   · cases hx
theorem RdN.setRow {k : IntKind} {w : World} {v : Value} {l : List Nat} {g : Nat} {c : Array Value} (h : RdN k w v l) (hg : row? w g = some c) (hc : ∀ (i : Nat) (x : Int), c[i]? ≠ some (.int k x)) (d : Array Value) : RdN k (w.setRow g d) v l := by
 obtain ⟨a, cc, hv, hcap, h⟩ := h
 refine ⟨a, cc, hv, hcap, ?_⟩
 cases l with
 | nil => exact .inl rfl
 | cons x r =>
   rcases h with h | ⟨b, off, ha, hbB, hcell, hz⟩
   · cases h
   · have hb : ¬ b = g := by
       rintro rfl
       have h0 := hcell 0 x rfl
       rw [cell?_row hg] at h0
       exact hc _ _ h0
     exact .inr ⟨b, off, ha, by simpa [World.setRow] using hbB, fun i y hy => (World.cell?_of_block (setRow_other w g b d hb)).trans (hcell i y hy), hz⟩
theorem RdN.same {k : IntKind} {w w' : World} {v : Value} {l : List Nat} {g : Option Nat} (h : RdN k w v l) (hs : Same (fun j => g ≠ some j) w w') (hg : ∀ j, g = some j → ∀ x : Int, w.cell? ⟨j, 0, none⟩ ≠ some (.int k x)) : RdN k w' v l := by
 obtain ⟨a, cc, hv, hcap, h⟩ := h
 refine ⟨a, cc, hv, hcap, ?_⟩
 cases l with
 | nil => exact .inl rfl
 | cons x r =>
   rcases h with h | ⟨b, off, ha, hbB, hcell, rfl⟩
   · cases h
   · have hb : g ≠ some b := fun e => hg b e _ (by simpa using hcell 0 x rfl)
     exact .inr ⟨b, 0, ha, Nat.lt_of_lt_of_le hbB hs.size, fun i y hy => (World.cell?_of_block (hs.block b hbB hb)).trans (hcell i y hy), rfl⟩
theorem noInt1 {k : IntKind} (a : Option Addr) (n c : Nat) : ∀ (i : Nat) (x : Int), (#[.slice a n c] : Array Value)[i]? ≠ some (.int k x) := by
 intro i x
 cases i <;> simp
theorem noIntM {k : IntKind} (a : Option Nat) : ∀ (i : Nat) (x : Int), (#[.map a] : Array Value)[i]? ≠ some (.int k x) := by
 intro i x
 cases i <;> simp
end Go.Pal
namespace Go.Proofs.YtgnlebnpnpjfmaaGreatDoor
open Go Go.RowKit Go.Pal
@[go_sem ↓ high] theorem loadNT (a : Addr) : loadVar 49 a = loadLater 49 a := rfl
@[go_sem ↓ high] theorem storeNT (a : Addr) (v : Value) : storeVar 49 a v = storeLater 49 a v := rfl
@[go_sem] theorem loadNT_run (w : World) (a : Addr) : (loadLater 49 a).run Tryz.prog w = rowLoad Tryz.prog 49 a w := rfl
@[go_sem] theorem storeNT_run (w : World) (a : Addr) (v : Value) : (storeLater 49 a v).run Tryz.prog w = rowStore Tryz.prog 49 a v w := rfl
@[go_sem] theorem loadNT_at (w : World) (g : Nat) : rowLoad Tryz.prog 49 ⟨g, 0, none⟩ w = match row? w g with
     | some c => if c.size = 1 then .ok (.agg c) w else laterLoad Tryz.prog 49 ⟨g, 0, none⟩ w
     | none => laterLoad Tryz.prog 49 ⟨g, 0, none⟩ w := load_row Tryz.isAgg49 Tryz.sizeOf49 w g
@[go_sem] theorem storeNT_at (w : World) (g : Nat) (d : Array Value) : rowStore Tryz.prog 49 ⟨g, 0, none⟩ (.agg d) w = match row? w g with
     | some c => if c.size = 1 ∧ d.size = 1 ∧ allOne d = true then .ok () (w.setRow g d) else laterStore Tryz.prog 49 ⟨g, 0, none⟩ (.agg d) w
     | none => laterStore Tryz.prog 49 ⟨g, 0, none⟩ (.agg d) w := store_row Tryz.sizeOf49 w g d
@[go_sem ↓ high] theorem zeroNT (w : World) : (zeroValue 49).run Tryz.prog w = .ok (.agg #[.slice none 0 0]) w := by kernel_rfl
@[go_sem ↓ high] theorem loadPO (a : Addr) : loadVar 24 a = loadLater 24 a := rfl
@[go_sem ↓ high] theorem storePO (a : Addr) (v : Value) : storeVar 24 a v = storeLater 24 a v := rfl
@[go_sem] theorem loadPO_run (w : World) (a : Addr) : (loadLater 24 a).run Tryz.prog w = rowLoad Tryz.prog 24 a w := rfl
@[go_sem] theorem storePO_run (w : World) (a : Addr) (v : Value) : (storeLater 24 a v).run Tryz.prog w = rowStore Tryz.prog 24 a v w := rfl
@[go_sem] theorem loadPO_at (w : World) (g : Nat) : rowLoad Tryz.prog 24 ⟨g, 0, none⟩ w = match row? w g with
     | some c => if c.size = 1 then .ok (.agg c) w else laterLoad Tryz.prog 24 ⟨g, 0, none⟩ w
     | none => laterLoad Tryz.prog 24 ⟨g, 0, none⟩ w := load_row Tryz.isAgg24 Tryz.sizeOf24 w g
@[go_sem] theorem storePO_at (w : World) (g : Nat) (d : Array Value) : rowStore Tryz.prog 24 ⟨g, 0, none⟩ (.agg d) w = match row? w g with
     | some c => if c.size = 1 ∧ d.size = 1 ∧ allOne d = true then .ok () (w.setRow g d) else laterStore Tryz.prog 24 ⟨g, 0, none⟩ (.agg d) w
     | none => laterStore Tryz.prog 24 ⟨g, 0, none⟩ (.agg d) w := store_row Tryz.sizeOf24 w g d
@[go_sem ↓ high] theorem zeroPO (w : World) : (zeroValue 24).run Tryz.prog w = .ok (.agg #[.map none]) w := by kernel_rfl
@[go_sem ↓ high] theorem loadPW (a : Addr) : loadVar 90 a = loadLater 90 a := rfl
@[go_sem ↓ high] theorem storePW (a : Addr) (v : Value) : storeVar 90 a v = storeLater 90 a v := rfl
@[go_sem] theorem loadPW_run (w : World) (a : Addr) : (loadLater 90 a).run Tryz.prog w = rowLoad Tryz.prog 90 a w := rfl
@[go_sem] theorem storePW_run (w : World) (a : Addr) (v : Value) : (storeLater 90 a v).run Tryz.prog w = rowStore Tryz.prog 90 a v w := rfl
@[go_sem] theorem loadPW_at (w : World) (g : Nat) : rowLoad Tryz.prog 90 ⟨g, 0, none⟩ w = match row? w g with
     | some c => if c.size = 2 then .ok (.agg c) w else laterLoad Tryz.prog 90 ⟨g, 0, none⟩ w
     | none => laterLoad Tryz.prog 90 ⟨g, 0, none⟩ w := load_row Tryz.isAgg90 Tryz.sizeOf90 w g
@[go_sem] theorem storePW_at (w : World) (g : Nat) (d : Array Value) : rowStore Tryz.prog 90 ⟨g, 0, none⟩ (.agg d) w = match row? w g with
     | some c => if c.size = 2 ∧ d.size = 2 ∧ allOne d = true then .ok () (w.setRow g d) else laterStore Tryz.prog 90 ⟨g, 0, none⟩ (.agg d) w
     | none => laterStore Tryz.prog 90 ⟨g, 0, none⟩ (.agg d) w := store_row Tryz.sizeOf90 w g d
@[go_sem ↓ high] theorem zeroPW (w : World) : (zeroValue 90).run Tryz.prog w = .ok (.agg #[.int .i64 0, .int .i64 0]) w := by kernel_rfl
@[go_sem ↓ high] theorem loadQT (a : Addr) : loadVar 104 a = loadLater 104 a := rfl
@[go_sem ↓ high] theorem storeQT (a : Addr) (v : Value) : storeVar 104 a v = storeLater 104 a v := rfl
@[go_sem] theorem loadQT_run (w : World) (a : Addr) : (loadLater 104 a).run Tryz.prog w = rowLoad Tryz.prog 104 a w := rfl
@[go_sem] theorem storeQT_run (w : World) (a : Addr) (v : Value) : (storeLater 104 a v).run Tryz.prog w = rowStore Tryz.prog 104 a v w := rfl
@[go_sem] theorem loadQT_at (w : World) (g : Nat) : rowLoad Tryz.prog 104 ⟨g, 0, none⟩ w = match row? w g with
     | some c => if c.size = 3 then .ok (.agg c) w else laterLoad Tryz.prog 104 ⟨g, 0, none⟩ w
     | none => laterLoad Tryz.prog 104 ⟨g, 0, none⟩ w := load_row Tryz.isAgg104 Tryz.sizeOf104 w g
@[go_sem] theorem storeQT_at (w : World) (g : Nat) (d : Array Value) : rowStore Tryz.prog 104 ⟨g, 0, none⟩ (.agg d) w = match row? w g with
     | some c => if c.size = 3 ∧ d.size = 3 ∧ allOne d = true then .ok () (w.setRow g d) else laterStore Tryz.prog 104 ⟨g, 0, none⟩ (.agg d) w
     | none => laterStore Tryz.prog 104 ⟨g, 0, none⟩ (.agg d) w := store_row Tryz.sizeOf104 w g d
@[go_sem ↓ high] theorem zeroQT (w : World) : (zeroValue 104).run Tryz.prog w = .ok (.agg #[.slice none 0 0, .int .i64 0, .int .i64 0]) w := by kernel_rfl
@[go_sem] theorem allOne_s1 (a : Option Addr) (n c : Nat) : allOne #[.slice a n c] = true := by unfold allOne; simp [Value.oneCell']
@[go_sem] theorem allOne_m1 (a : Option Nat) : allOne #[.map a] = true := by unfold allOne; simp [Value.oneCell']
@[go_sem] theorem allOne_i2 (a b : Int) (p q : IntKind) : allOne #[.int p a, .int q b] = true := by unfold allOne; simp [Value.oneCell']
@[go_sem] theorem allOne_t3 (a : Option Addr) (n c : Nat) (x y : Int) (p q : IntKind) : allOne #[.slice a n c, .int p x, .int q y] = true := by unfold allOne; simp [Value.oneCell']
@[go_sem ↓ high] theorem build_NT (a : Option Addr) (n c : Nat) (w : World) : (Instr.build 49 #[(0, .slice a n c)]).run Tryz.prog w = .ok (.agg #[.slice a n c]) w := by kernel_rfl
@[go_sem ↓ high] theorem build_PO (b : Option Nat) (w : World) : (Instr.build 24 #[(0, .map b)]).run Tryz.prog w = .ok (.agg #[.map b]) w := by kernel_rfl
@[go_sem ↓ high] theorem build_PO0 (w : World) : (Instr.build 24 #[]).run Tryz.prog w = .ok (.agg #[.map none]) w := by kernel_rfl
@[go_sem ↓ high] theorem build_NT0 (w : World) : (Instr.build 49 #[]).run Tryz.prog w = .ok (.agg #[.slice none 0 0]) w := by kernel_rfl
@[go_sem ↓ high] theorem build_PW (a b : Int) (w : World) : (Instr.build 90 #[(0, .int .i64 a), (1, .int .i64 b)]).run Tryz.prog w = .ok (.agg #[.int .i64 a, .int .i64 b]) w := by kernel_rfl
@[go_sem ↓ high] theorem build_QT (a : Option Addr) (n c : Nat) (x y : Int) (w : World) : (Instr.build 104 #[(0, .slice a n c), (1, .int .i64 x), (2, .int .i64 y)]).run Tryz.prog w = .ok (.agg #[.slice a n c, .int .i64 x, .int .i64 y]) w := by kernel_rfl
def NatV (w : World) (v : Value) (n : Nat) : Prop := ∃ s, v = .agg #[s] ∧ RdN .u32 w s (digB 4294967296 n)
def RefV (w : World) (v : Value) (n : Nat) : Prop := RdN .i64 w v (digB 10 n)
theorem NatV.below {w w' : World} {v : Value} {n : Nat} (h : NatV w v n) (hb : Below w.heap.size w w') : NatV w' v n := by
 obtain ⟨s, h1, h2⟩ := h
 exact ⟨s, h1, h2.below hb⟩
theorem RefV.below {w w' : World} {v : Value} {n : Nat} (h : RefV w v n) (hb : Below w.heap.size w w') : RefV w' v n := RdN.below h hb
def fitK : Nat := 32000
structure Fit (n : Nat) : Prop where
 lt : n < 2 ^ fitK
theorem Fit.mono {m n : Nat} (h : Fit n) (hm : m ≤ n) : Fit m := ⟨Nat.lt_of_le_of_lt hm h.lt⟩
theorem fit_of {n k : Nat} (h : n < 2 ^ k) (hk : k ≤ fitK) : Fit n := ⟨Nat.lt_of_lt_of_le h (Nat.pow_le_pow_right (by decide) hk)⟩
theorem natLen_gen {n K m : Nat} (h : n < 2 ^ K) (hK : K ≤ 32 * m) : (digB 4294967296 n).length ≤ m := digB_len (by decide) (Nat.lt_of_lt_of_le h (by
 rw [show (4294967296 : Nat) = 2 ^ 32 from rfl, ← Nat.pow_mul]
 exact Nat.pow_le_pow_right (by decide) hK))
theorem refLen_gen {n K m : Nat} (h : n < 2 ^ K) (hK : K ≤ 3 * m) : (digB 10 n).length ≤ m := digB_len (by decide) (Nat.lt_of_lt_of_le h (Nat.le_trans (Nat.pow_le_pow_right (by decide) hK) (by
 rw [Nat.pow_mul]
 exact Nat.pow_le_pow_left (by decide) m)))
theorem natLen {n : Nat} (h : Fit n) : (digB 4294967296 n).length ≤ 1000 := natLen_gen h.lt (by unfold fitK; decide)
theorem refLen {n : Nat} (h : Fit n) : (digB 10 n).length ≤ 11000 := refLen_gen h.lt (by unfold fitK; decide)
end Go.Proofs.YtgnlebnpnpjfmaaGreatDoor
namespace Go.Pal
open Go Go.RowKit
def slN : Value → Nat
 | .slice _ n _ => n
 | _ => 0
end Go.Pal
namespace Go.Proofs.YtgnlebnpnpjfmaaGreatDoor
open Go Go.RowKit Go.Pal
theorem ntrim_any (l : List Nat) (v : Value) (w : World) (hv : RdN .u32 w v l) (hok : DigOk 4294967296 l) (hlen : l.length ≤ 1000000) :
   Calls Tryz.prog 72 #[v] w fun e w' => ∃ v', e = .returned v' ∧ NatV w' v' (valB 4294967296 l) ∧ Below w.heap.size w w' := by
 have HV := Lib.hid hv
 have HO := Lib.hid hok
 obtain ⟨a, c, rfl, hcap, -⟩ := hv
 clear hok
 go_enter Tryz.func72, Tryz.ntmps72
 go_wp2_with fail
 go_loop [0] (fun s => ∃ k : Nat, k ≤ l.length ∧ s = .slice a k c ∧ ∀ x ∈ l.drop k, x = 0) (fun s => slN s)
 case atStart => exact ⟨l.length, Nat.le_refl _, rfl, by simp⟩
 case round =>
   obtain ⟨k, hk, rfl, hz⟩ := hrel
   have HZ := Lib.hid hz
   clear hz
   have hend : (∀ j, k = j + 1 → l[j]? ≠ some 0) → ∃ v', Ending.returned (Value.agg #[.slice a k c]) = Ending.returned v' ∧ NatV (w.alloc (.cells #[.slice a k c] 49)) v' (valB 4294967296 l) ∧ Below w.heap.size w (w.alloc (.cells #[.slice a k c] 49)) := by
     intro ht
     refine ⟨_, rfl, ⟨_, rfl, ?_⟩, (Below.refl _ _).alloc (Nat.le_refl _) _⟩
     rw [← take_digB (by decide) HO.out hk HZ.out ht]
     exact (HV.out.take hk).below ((Below.refl _ _).alloc (Nat.le_refl _) _)
   have HEND := Lib.hid hend
   clear hend
   rcases Nat.eq_zero_or_pos k with h0 | h0
   · subst h0
     go_wp2_with fail
     refine ret_row w.heap.size #[.slice a 0 c] rfl Tryz.isAgg49 Tryz.sizeOf49 rfl rfl ?_ rfl ?_
     · simp [go_sem]
     · exact HEND.out (by omega)
   · obtain ⟨j, rfl⟩ : ∃ j, k = j + 1 := ⟨k - 1, by omega⟩
     obtain ⟨b, off, c', x, hs, -, hx, hc⟩ := HV.out.at (i := j) (by omega)
     simp only [Value.slice.injEq] at hs
     obtain ⟨rfl, -, rfl⟩ := hs
     have c0 := hc (w.alloc (.cells #[.slice none 0 0] 49)) ((Below.refl _ _).alloc (Nat.le_refl _) _)
     have e1 : ((j + 1 : Nat) : Int) - 1 = (j : Int) := by omega
     have HX := Lib.hid hx
     clear hc hx
     by_cases hx0 : x = 0
     · subst hx0
       go_wp2
       go_round
       case rel =>
         refine ⟨j, by omega, rfl, fun y hy => ?_⟩
         have : l.drop j = 0 :: l.drop (j + 1) := by rw [List.drop_eq_getElem_cons (by omega)]; congr 1; have := HX.out; rw [List.getElem?_eq_getElem (by omega)] at this; simpa using this
         rw [this] at hy
         rcases List.mem_cons.1 hy with rfl | hy
         · rfl
         · exact HZ.out y hy
       case measure => simp [slN]
     · have hx1 : ¬ ((x : Int) = 0) := by omega
       go_wp2_with fail
       refine ret_row w.heap.size #[.slice (some ⟨b, off, none⟩) (j + 1) c] rfl Tryz.isAgg49 Tryz.sizeOf49 rfl rfl ?_ rfl ?_
       · simp [go_sem]
       · refine HEND.out fun i hi => ?_
         obtain rfl : j = i := by omega
         rw [HX.out]
         simpa using hx0
theorem nword_any (l : List Nat) (s : Value) (i : Nat) (w : World) (hv : RdN .u32 w s l) (hok : DigOk 4294967296 l) :
   Calls Tryz.prog 83 #[.agg #[s], .int .i64 (i : Int)] w fun e w' => e = .returned (.int .u64 (atB l i : Int)) ∧ Below w.heap.size w w' := by
 have HV := Lib.hid hv
 have hlt := atB_lt (by decide) hok i
 obtain ⟨X, hX⟩ : ∃ X, X = atB l i := ⟨_, rfl⟩
 rw [← hX] at hlt ⊢
 by_cases hi : i < l.length
 · obtain ⟨b, off, c, x, rfl, -, hx, hc⟩ := hv.at hi
   have c0 := hc (w.alloc (.cells #[.slice (some ⟨b, off, none⟩) l.length c] 49)) ((Below.refl _ _).alloc (Nat.le_refl _) _)
   rw [atB_of hx] at hX
   subst hX
   have HB := Lib.hid ((Below.refl w.heap.size w).alloc (Nat.le_refl _) (.cells #[.slice (some ⟨b, off, none⟩) l.length c] 49))
   clear hc hx hok
   go_enter Tryz.func83, Tryz.ntmps83
   go_wp2_with fail
   go_ret
   exact ⟨rfl, HB.out⟩
 · obtain ⟨a, c, rfl, -, -⟩ := hv
   rw [atB_past (by omega)] at hX
   subst hX
   have HB := Lib.hid ((Below.refl w.heap.size w).alloc (Nat.le_refl _) (.cells #[.slice a l.length c] 49))
   clear hok
   go_enter Tryz.func83, Tryz.ntmps83
   go_wp2_with fail
   go_ret
   exact ⟨rfl, HB.out⟩
def elW : ElT Tryz.prog 68 1 (fun x : Nat => #[.int .u32 (x : Int)]) where
 bytes := 4
 zero := .int .u32 0
 info := by kernel_rfl
 zc := rfl
 pos := by decide
 small := by decide
 size _ := rfl
 one x u hu := by simp at hu; subst hu; rfl
def elD : ElT Tryz.prog 3 1 (fun x : Nat => #[.int .i64 (x : Int)]) where
 bytes := 8
 zero := .int .i64 0
 info := by kernel_rfl
 zc := rfl
 pos := by decide
 small := by decide
 size _ := rfl
 one x u hu := by simp at hu; subst hu; rfl
abbrev OwnW := OwnR 68 1 (fun x : Nat => #[.int .u32 (x : Int)])
abbrev OwnD := OwnR 3 1 (fun x : Nat => #[.int .i64 (x : Int)])
theorem own_rdn {k : IntKind} {e : TypeId} {B : Nat} {w : World} {v : Value} {l : List Nat} (E : ElT Tryz.prog e 1 (fun x : Nat => #[.int k (x : Int)])) (h : OwnR e 1 (fun x : Nat => #[.int k (x : Int)]) B w v l) (_ : l.length ≤ 4000000) : RdN k w v l := by
 rcases h.2 with ⟨h1, h2⟩ | ⟨g, cap, cur, h1, -, hg, hle, -⟩
 · exact ⟨none, 0, by rw [h1, h2], by omega, .inl (List.length_eq_zero_iff.1 h2)⟩
 · refine ⟨some ⟨g, 0, none⟩, cap, h1, hle, .inr ⟨g, 0, rfl, (Array.getElem?_eq_some_iff.1 hg).1, fun i x hx => ?_, rfl⟩⟩
   have := World.ownsRow.cells (base := B) h (g := g) (by rw [h1]; rfl) _ _ (encC_get E hx (j := 0) (u := .int k (x : Int)) rfl)
   have e1 : (⟨g, 0, none⟩ : Addr).add (i * 1 + 0) = ⟨g, 0 + i, none⟩ := by unfold Addr.add; split <;> simp_all
   rwa [e1] at this
theorem make_W0 (n : Nat) (hn : n ≤ 1000000) (W : World) : ∃ cur : Array Value, cur.size = n * 1 ∧ (Instr.makeSlice 47 (.int .i64 0) (.int .i64 (n : Int))).run Tryz.prog W = .ok (.slice (some ⟨W.heap.size, 0, none⟩) 0 n) (W.alloc (.cells cur 68)) := by
 obtain ⟨i, hi, hz, h1, h2⟩ := info_parts elW.info
 have := run_make (P := Tryz.prog) W 47 68 i _ Tryz.underlying47 hi hz .i64 .i64 0 n (by omega) (by omega) (by rw [h2]; show (4 : Int) * _ ≤ _; omega) (by omega)
 refine ⟨_, ?_, this⟩
 rw [size_madeCells]
 simp [h1, Value.cells, elW]
theorem njoin_any (f : Nat → Nat → Nat × Nat) (I : World → Prop) (n : Nat) (hn : n ≤ 100000) (F : Nat) (lb : Array Value) (eg : ∀ args w, (callFunc F args).run Tryz.prog w = .ok (.enter F args) w)
   (hf : ∀ i, (joinB f i).2 < 4294967296)
   (hI : ∀ W W', I W → Below W.heap.size W W' → I W')
   (hcall : ∀ i W, i < n → I W → Calls Tryz.prog F (#[.int .i64 (i : Int), .int .u64 ((joinB f i).2 : Int)] ++ lb) W fun e W' => e = .returned (.tuple #[.int .u32 ((f i (joinB f i).2).1 : Int), .int .u64 ((f i (joinB f i).2).2 : Int)]) ∧ Below W.heap.size W W')
   (w : World) (hx : I w) :
   Calls Tryz.prog 81 #[.int .i64 (n : Int), .func (.func F) #[] lb] w fun e w' => ∃ v', e = .returned v' ∧ RdN .u32 w' v' (joinR f n) ∧ Below w.heap.size w w' := by
 have HX := Lib.hid hx
 have HI := Lib.hid hI
 have HC := Lib.hid hcall
 have HF := Lib.hid hf
 obtain ⟨cur, hcur, hmk⟩ := make_W0 (n + 1) (by omega) w
 have hmk1 : (Instr.makeSlice 47 (.int .i64 0) (.int .i64 ((n : Int) + 1))).run Tryz.prog w = .ok (.slice (some ⟨w.heap.size, 0, none⟩) 0 (n + 1)) (w.alloc (.cells cur 68)) := hmk
 have hO : OwnW w.heap.size (w.alloc (.cells cur 68)) (.slice (some ⟨w.heap.size, 0, none⟩) 0 (n + 1)) [] := World.ownsRow_made w cur (n + 1) (Nat.le_refl _) (by unfold maxLen; omega) hcur
 have HO := Lib.hid hO
 have HC0 := Lib.hid hcur
 clear hx hI hcall hf hmk hO hcur
 go_enter Tryz.func81, Tryz.ntmps81
 go_wp2_with fail
 go_loopw [5, 6, 7, 8, 13] (fun s5 s6 s7 s8 i wr => ∃ k : Nat, k ≤ n ∧ i = .int .i64 (k : Int) ∧ s6 = .int .u64 ((joinB f k).2 : Int) ∧ OwnW w.heap.size wr s5 (joinB f k).1 ∧ Below w.heap.size w wr) (fun _ _ _ _ i _ => n - (intOf i).toNat)
 case atStart => exact ⟨0, by omega, rfl, rfl, HO.out, (Below.refl _ _).alloc (Nat.le_refl _) _⟩
 case round =>
   obtain ⟨k, hk, rfl, rfl, hO, hb⟩ := hrel
   have hsz := hb.size
   have hlen := joinB_len f k
   have hcb := HF.out k
   have HOK := Lib.hid hO
   have HB := Lib.hid hb
   obtain ⟨a, c, rfl⟩ := hO.sl
   clear hb hO
   by_cases hlt : k < n
   · have HCa := Lib.hid (HC.out k wr hlt (HI.out w wr HX.out HB.out))
     have hst : joinB f (k + 1) = ((joinB f k).1 ++ [(f k (joinB f k).2).1], (f k (joinB f k).2).2) := rfl
     obtain ⟨L, hL⟩ : ∃ L, L = (joinB f k).1 := ⟨_, rfl⟩
     obtain ⟨C, hC⟩ : ∃ C, C = (joinB f k).2 := ⟨_, rfl⟩
     obtain ⟨x, hxx⟩ : ∃ x, x = (f k C).1 := ⟨_, rfl⟩
     obtain ⟨y, hyy⟩ : ∃ y, y = (f k C).2 := ⟨_, rfl⟩
     rw [← hL, ← hC, ← hxx, ← hyy] at hst
     rw [← hC, ← hxx, ← hyy] at HCa
     rw [← hL] at HOK hlen ⊢
     rw [← hC] at hcb ⊢
     have HS := Lib.hid hst
     have hll : L.length ≤ 100000 := by omega
     clear hst hL hC hxx hyy hlen hmk1
     go_wp2_with fail
     refine HCa.out.mono ?_
     rintro r w2 ⟨rfl, hb2⟩
     have HO2 := Lib.hid (HOK.out.below hb2 (Nat.le_refl _))
     have HB2 := Lib.hid (HB.out.trans (hb2.mono HB.out.size))
     have hs2 := hb2.size
     clear hb2 HCa
     go_wp2_with (at_builtin; refine wpList_appO elW 47 Tryz.underlying47 rfl _ _ rfl w.heap.size _ L rfl (HO2.out.alloc _) _ x _ rfl (row?_alloc_at _ _ _ _ (by simp)) (by omega) (by simp; omega) ?_)
     intro v' w3 hO3 hb3 _ _
     have HO3 := Lib.hid hO3
     have HB3 := Lib.hid ((HB2.out.alloc HB2.out.size _).trans hb3)
     clear hO3 hb3
     go_wp2_with fail
     go_roundw
     case rel => exact ⟨k + 1, by omega, by go_num, by rw [HS.out], by rw [HS.out]; exact HO3.out, HB3.out⟩
     case measure => simp [intOf]; omega
   · have hkn : k = n := by omega
     subst hkn
     have hR2 : joinR f k = (joinB f k).1 ++ if 0 < (joinB f k).2 then [(joinB f k).2] else [] := rfl
     obtain ⟨L, hL⟩ : ∃ L, L = (joinB f k).1 := ⟨_, rfl⟩
     obtain ⟨C, hC⟩ : ∃ C, C = (joinB f k).2 := ⟨_, rfl⟩
     rw [← hL, ← hC] at hR2
     rw [← hL] at HOK hlen ⊢
     rw [← hC] at hcb ⊢
     have hll : L.length ≤ 100000 := by omega
     have HR2 := Lib.hid hR2
     clear hR2 hL hC hlen hmk1
     by_cases hp : 0 < C
     · have d1 : decide ((0 : Int) < (C : Int)) = true := by simpa using hp
       have HP := Lib.hid hp
       go_wp2_with (at_builtin; refine wpList_appO elW 47 Tryz.underlying47 rfl _ _ rfl w.heap.size _ L rfl (HOK.out.alloc _) _ C _ rfl (row?_alloc_at _ _ _ _ (by simp)) (by omega) (by simp; omega) ?_)
       intro v' w3 hO3 hb3 _ _
       have HO3 := Lib.hid hO3
       have HB3 := Lib.hid ((HB.out.alloc HB.out.size _).trans hb3)
       clear hO3 hb3
       go_wp2_with fail
       go_ret
       exact ⟨_, rfl, by rw [HR2.out, if_pos HP.out]; exact own_rdn elW HO3.out (by simp; omega), HB3.out⟩
     · have d1 : decide ((0 : Int) < (C : Int)) = false := by simpa using hp
       have HP := Lib.hid hp
       go_wp2_with fail
       go_ret
       exact ⟨_, rfl, by rw [HR2.out, if_neg HP.out, List.append_nil]; exact own_rdn elW HOK.out (by omega), HB.out⟩
def AddI (b1 b2 : Nat) (x y : List Nat) (W : World) : Prop := ∃ s t, row? W b1 = some #[s] ∧ row? W b2 = some #[t] ∧ RdN .u32 W s x ∧ RdN .u32 W t y
theorem AddI.below {b1 b2 : Nat} {x y : List Nat} {W W' : World} (h : AddI b1 b2 x y W) (hb : Below W.heap.size W W') : AddI b1 b2 x y W' := by
 obtain ⟨s, t, h1, h2, h3, h4⟩ := h
 exact ⟨s, t, (row?_below hb (row?_lt h1)).trans h1, (row?_below hb (row?_lt h2)).trans h2, h3.below hb, h4.below hb⟩
theorem nadd1_any (b1 b2 : Nat) (x y : List Nat) (hx : DigOk 4294967296 x) (hy : DigOk 4294967296 y) (i c : Nat) (hc : c ≤ 1) (w : World) (h : AddI b1 b2 x y w) :
   Calls Tryz.prog 82 #[.int .i64 (i : Int), .int .u64 (c : Int), .pointer (some ⟨b1, 0, none⟩), .pointer (some ⟨b2, 0, none⟩)] w fun e w' => e = .returned (.tuple #[.int .u32 ((addF 4294967296 x y i c).1 : Int), .int .u64 ((addF 4294967296 x y i c).2 : Int)]) ∧ Below w.heap.size w w' := by
 obtain ⟨s, t, h1, h2, h3, h4⟩ := h
 have HA := Lib.hid fun W (hb : Below w.heap.size w W) => nword_any x s i W (h3.below hb) hx
 have HB := Lib.hid fun W (hb : Below w.heap.size w W) => nword_any y t i W (h4.below hb) hy
 have hxl := atB_lt (by decide) hx i
 have hyl := atB_lt (by decide) hy i
 obtain ⟨X, hX⟩ : ∃ X, X = atB x i := ⟨_, rfl⟩
 obtain ⟨Y, hY⟩ : ∃ Y, Y = atB y i := ⟨_, rfl⟩
 have hF : addF 4294967296 x y i c = ((X + Y + c) % 4294967296, (X + Y + c) / 4294967296) := by rw [hX, hY]; rfl
 rw [hF]
 rw [← hX] at HA hxl
 rw [← hY] at HB hyl
 have HR := Lib.hid fun W (hb : Below w.heap.size w W) => And.intro ((row?_below hb (row?_lt h1)).trans h1) ((row?_below hb (row?_lt h2)).trans h2)
 obtain ⟨sa, sc, rfl, -⟩ := h3
 obtain ⟨ta, tc, rfl, -⟩ := h4
 clear hF hX hY hx hy h1 h2
 go_enter Tryz.func82, Tryz.ntmps82
 go_wp2_with fail
 refine wp_region_free_tail (fun W => Below w.heap.size w W) 9 (by kernel_rfl) (by kernel_rfl) (Below.refl _ _).drew ?_
 simp only [List.take_succ_cons, List.take_zero, List.drop_succ_cons, List.drop_zero]
 repeat (apply wpFree_still; (intro w hw; obtain ⟨r1, r2⟩ := HR.out w hw; go_simp; (try go_ints); (first | with_reducible rfl | (go_simp; with_reducible rfl))); with_reducible rfl; (intro K hK; go_simp; (try go_ints); refine hK _ ?_; clear hK K))
 apply wpFree_call
 · intro w hw; go_simp; first | with_reducible rfl | with_reducible exact ⟨rfl, rfl⟩
 · with_reducible rfl
 · intro w hw; exact (HA.out w hw).mono fun e W' ⟨he, hb⟩ => ⟨he, hw.trans (hb.mono hw.size)⟩
 intro K hK; go_simp; (try go_ints); refine hK _ ?_; clear hK K
 repeat (apply wpFree_still; (intro w hw; obtain ⟨r1, r2⟩ := HR.out w hw; go_simp; (try go_ints); (first | with_reducible rfl | (go_simp; with_reducible rfl))); with_reducible rfl; (intro K hK; go_simp; (try go_ints); refine hK _ ?_; clear hK K))
 apply wpFree_call
 · intro w hw; go_simp; first | with_reducible rfl | with_reducible exact ⟨rfl, rfl⟩
 · with_reducible rfl
 · intro w hw; exact (HB.out w hw).mono fun e W' ⟨he, hb⟩ => ⟨he, hw.trans (hb.mono hw.size)⟩
 intro K hK; go_simp; (try go_ints); refine hK _ ?_; clear hK K
 repeat (apply wpFree_still; (intro w hw; obtain ⟨r1, r2⟩ := HR.out w hw; go_simp; (try go_ints); (first | with_reducible rfl | (go_simp; with_reducible rfl))); with_reducible rfl; (intro K hK; go_simp; (try go_ints); refine hK _ ?_; clear hK K))
 with_reducible refine wpFree_nil ?_
 intro w' hw'
 have HW := Lib.hid hw'
 clear hw' HR HA HB
 go_wp2_with fail
 go_ret2
 exact ⟨rfl, HW.out⟩
end Go.Proofs.YtgnlebnpnpjfmaaGreatDoor
