/- Polynomials in memory: the map of the terms (powers as keys, numbers as elements), .. -/
import Derived.Test.YtgnlebnpnpjfmaaGreatDoorUNs
import Derived.Laws.IdiomRangeMap
import Derived.Maps.OwnSet
import Derived.Maps.Own
import Derived.Maps.OwnIn
set_option linter.all false
namespace Go.Pal
open Go Go.RowKit
abbrev Hdr := Option Nat × Nat × Nat
def hdrS (h : Hdr) : Value := .slice (h.1.map fun b => ⟨b, 0, none⟩) h.2.1 h.2.2
def hdrV (h : Hdr) : Value := .agg #[hdrS h]
def hdrD (h : Hdr) : DataW Unit := .agg [.lit (.int .i64 (match h.1 with | none => -1 | some b => (b : Int))), .lit (.int .i64 (h.2.1 : Int)), .lit (.int .i64 (h.2.2 : Int))]
theorem hdrV_inj (a b : Hdr) (h : hdrV a = hdrV b) : a = b := by
 obtain ⟨a1, a2, a3⟩ := a
 obtain ⟨b1, b2, b3⟩ := b
 simp only [hdrV, hdrS, Value.agg.injEq, Array.mk.injEq, List.cons.injEq, Value.slice.injEq, and_true] at h
 obtain ⟨h1, rfl, rfl⟩ := h
 cases a1 <;> cases b1 <;> simp_all
theorem hdrD_inj (a b : Hdr) (h : hdrD a = hdrD b) : a = b := by
 obtain ⟨a1, a2, a3⟩ := a
 obtain ⟨b1, b2, b3⟩ := b
 simp only [hdrD, DataW.agg.injEq, List.cons.injEq, DataW.lit.injEq, Lit.int.injEq, true_and, and_true] at h
 obtain ⟨h1, h2, h3⟩ := h
 have e2 : a2 = b2 := by omega
 have e3 : a3 = b3 := by omega
 subst e2 e3
 cases a1 <;> cases b1 <;> simp at h1 ⊢ <;> omega
def keyX (k : Ex) : Int × Int := ((k.1 : Int), (k.2 : Int))
theorem keyX_inj {k l : Ex} (h : keyX k = keyX l) : k = l := by
 unfold keyX at h
 simp only [Prod.mk.injEq] at h
 exact Prod.ext (by omega) (by omega)
def hl (p : Pol) (f : Ex → Hdr) : List ((Int × Int) × Hdr) := p.map fun x => (keyX x.1, f x.1)
theorem mem_hl {p : Pol} {f : Ex → Hdr} {q : (Int × Int) × Hdr} : q ∈ hl p f ↔ ∃ x ∈ p, q = (keyX x.1, f x.1) := by
 unfold hl
 rw [List.mem_map]
 exact ⟨fun ⟨x, h1, h2⟩ => ⟨x, h1, h2.symm⟩, fun ⟨x, h1, h2⟩ => ⟨x, h1, h2.symm⟩⟩
theorem hl_len (p : Pol) (f : Ex → Hdr) : (hl p f).length = p.length := by simp [hl]
theorem hl_nd {p : Pol} (h : Canon p) (f : Ex → Hdr) : NoDup (hl p f) := by
 unfold NoDup hl
 rw [List.pairwise_map]
 exact h.srt.imp fun {a b} h e => ltX_ne h (keyX_inj e)
theorem look_hl {p : Pol} (h : Canon p) (f : Ex → Hdr) (k : Ex) : look (hl p f) (keyX k) = if coefP p k = 0 then none else some (f k) := by
 split
 · rename_i h0
   rw [look_none]
   intro q hq e
   obtain ⟨x, hx, rfl⟩ := mem_hl.1 hq
   have := keyX_inj e
   rw [← this, mem_coef h hx] at h0
   have := h.pos x hx
   omega
 · rename_i h0
   rw [look_mem (hl_nd h f), mem_hl]
   exact ⟨(k, coefP p k), coef_mem h rfl (by omega), rfl⟩
theorem look_hl_neg {p : Pol} (f : Ex → Hdr) (a b : Int) (hab : ¬ (0 ≤ a ∧ 0 ≤ b)) : look (hl p f) (a, b) = none := by
 rw [look_none]
 intro q hq e
 obtain ⟨x, hx, rfl⟩ := mem_hl.1 hq
 simp only [keyX, Prod.mk.injEq] at e
 omega
theorem keys_ins {t : Ex × Nat} {e : Ex} : ∀ {p : Pol}, (∃ x ∈ insT t p, x.1 = e) ↔ e = t.1 ∨ ∃ x ∈ p, x.1 = e
 | [] => by simp [insT, eq_comm]
 | y :: r => by
   have ih := keys_ins (t := t) (e := e) (p := r)
   unfold insT
   split
   · simp only [List.mem_cons, exists_eq_or_imp]
     rw [ih]
     constructor
     · rintro (h | h | h)
       · exact .inr (.inl h)
       · exact .inl h
       · exact .inr (.inr h)
     · rintro (h | h | h)
       · exact .inr (.inl h)
       · exact .inl h
       · exact .inr (.inr h)
   · split
     · rename_i h2
       simp only [List.mem_cons, exists_eq_or_imp]
       constructor
       · rintro (h | h)
         · exact .inr (.inl h)
         · exact .inr (.inr h)
       · rintro (h | h | h)
         · exact .inl (by rw [h2, h])
         · exact .inl h
         · exact .inr h
     · simp only [List.mem_cons, exists_eq_or_imp]
       rw [eq_comm (a := t.1)]
theorem hl_put {p : Pol} (h : Canon p) (f : Ex → Hdr) (k : Ex) (n : Nat) (hn : 0 < n) (h' : Hdr) : ((keyX k, h') :: del (keyX k) (hl p f)).Perm (hl (insT (k, n) p) fun e => if e = k then h' else f e) := by
 have hnd : ∀ {l : List ((Int × Int) × Hdr)}, NoDup l → l.Nodup := fun h => h.imp fun {a b} h e => h (by rw [e])
 refine (List.perm_ext_iff_of_nodup (hnd ((hl_nd h f).ins _ _)) (hnd (hl_nd (h.ins hn) _))).2 fun q => ?_
 rw [List.mem_cons, mem_del, mem_hl, mem_hl]
 constructor
 · rintro (rfl | ⟨⟨x, hx, rfl⟩, hne⟩)
   · obtain ⟨y, hy, hyk⟩ := (keys_ins (t := (k, n)) (e := k) (p := p)).2 (.inl rfl)
     exact ⟨y, hy, by rw [hyk]; simp⟩
   · obtain ⟨y, hy, hyk⟩ := (keys_ins (t := (k, n)) (e := x.1) (p := p)).2 (.inr ⟨x, hx, rfl⟩)
     have : ¬ x.1 = k := fun e => hne (by rw [e])
     exact ⟨y, hy, by rw [hyk, if_neg this]⟩
 · rintro ⟨y, hy, rfl⟩
   rcases (keys_ins (t := (k, n)) (e := y.1) (p := p)).1 ⟨y, hy, rfl⟩ with e | ⟨x, hx, e⟩
   · have e : y.1 = k := e
     exact .inl (by rw [e]; simp)
   · by_cases hk : y.1 = k
     · exact .inl (by rw [hk]; simp)
     · exact .inr ⟨⟨x, hx, by rw [e, if_neg hk]⟩, fun e => hk (keyX_inj e)⟩
theorem ins_mem {p : Pol} (h : Canon p) {k : Ex} {n : Nat} (hn : 0 < n) {x : Ex × Nat} (hx : x ∈ insT (k, n) p) : (x.1 = k ∧ x.2 = coefP p k + n) ∨ (¬ x.1 = k ∧ x ∈ p) := by
 have h1 := mem_coef (h.ins (t := (k, n)) hn) hx
 rw [coefP_lin, lin_ins, ← coefP_lin] at h1
 by_cases hk : x.1 = k
 · simp [hk] at h1
   exact .inl ⟨hk, h1.symm⟩
 · rw [if_neg (fun e => hk e.symm)] at h1
   simp at h1
   exact .inr ⟨hk, coef_mem h h1 ((h.ins (t := (k, n)) hn).pos x hx)⟩
def coefZ (p : Pol) (a b : Int) : Nat := if 0 ≤ a ∧ 0 ≤ b then coefP p (a.toNat, b.toNat) else 0
theorem coefZ_nat (p : Pol) (a b : Nat) : coefZ p (a : Int) (b : Int) = coefP p (a, b) := by unfold coefZ; rw [if_pos (by omega)]; simp
theorem coef_le (p : Pol) (k : Ex) : coefP p k ≤ wt p := by
 rw [coefP_lin]
 exact lin_le fun e => by split <;> omega
theorem Same.trans_new {A B : Nat → Prop} {a b c : World} (h : Same A a b) (k : Same B b c) (hB : ∀ j, j < a.heap.size → A j → B j) : Same A a c :=
 ⟨k.os.trans h.os, k.tape.trans h.tape, k.output.trans h.output, Nat.le_trans h.size k.size, fun j hj hA => (k.block j (Nat.lt_of_lt_of_le hj h.size) (hB j hj hA)).trans (h.block j hj hA)⟩
theorem step_perm {α : Type} (done r1 r2 : List α) (x : α) : (done ++ [x] ++ (r1 ++ r2)).Perm (done ++ (r1 ++ x :: r2)) := by
 rw [List.append_assoc]
 show (done ++ (x :: (r1 ++ r2))).Perm _
 exact List.Perm.append_left _ List.perm_middle.symm
theorem least_ex {P : Nat → Prop} (h : ∃ n, P n) : ∃ n, P n ∧ ∀ m, P m → n ≤ m := by
 obtain ⟨n, hn⟩ := h
 induction n using Nat.strongRecOn with
 | ind n ih =>
   by_cases hs : ∃ m, m < n ∧ P m
   · obtain ⟨m, hm, hp⟩ := hs
     exact ih m hm hp
   · exact ⟨n, hn, fun m hp => by
       rcases Nat.lt_or_ge m n with hm | hm
       · exact absurd ⟨m, hm, hp⟩ hs
       · exact hm⟩
open Classical in
noncomputable def minL {α : Type} (R : α → Prop) (len : α → Nat) : Nat := if h : ∃ n, ∃ a, R a ∧ len a = n then (least_ex h).choose else 0
theorem minL_spec {α : Type} {R : α → Prop} {len : α → Nat} (h : ∃ a, R a) : ∃ a, R a ∧ len a = minL R len := by
 have h2 : ∃ n, ∃ a, R a ∧ len a = n := by obtain ⟨a, h⟩ := h; exact ⟨_, a, h, rfl⟩
 unfold minL
 rw [dif_pos h2]
 exact (least_ex h2).choose_spec.1
theorem minL_le {α : Type} {R : α → Prop} {len : α → Nat} {a : α} (h : R a) : minL R len ≤ len a := by
 have h2 : ∃ n, ∃ a, R a ∧ len a = n := ⟨_, a, h, rfl⟩
 unfold minL
 rw [dif_pos h2]
 exact (least_ex h2).choose_spec.2 _ ⟨a, h, rfl⟩
end Go.Pal
namespace Go.Proofs.YtgnlebnpnpjfmaaGreatDoor
open Go Go.RowKit Go.Pal
theorem laidOutP : laidOutB Tryz.prog = true := by kernel_rfl
def pwV (e : Int × Int) : Value := .agg #[.int .i64 e.1, .int .i64 e.2]
noncomputable def CP : Cod (Int × Int) Hdr := { key := pwV, kl := fun e => (keyOf Tryz.prog 90 (pwV e)).getD (.bool false), ok := fun e => InI e.1 ∧ InI e.2, val := hdrV, dat := hdrD }
theorem wf_i64p {n : Int} (h : InI n) : (Lit.int .i64 n).wf = true := by
 unfold InI at h
 have h1 : IntKind.i64.min = -9223372036854775808 := by decide
 have h2 : IntKind.i64.max = 9223372036854775807 := by decide
 simp [Lit.wf, h1, h2]
 exact h
theorem rowPw : 90 < Tryz.prog.types.size := by
 have : Tryz.prog.types[90]?.isSome = true := by kernel_rfl
 exact (Array.getElem?_eq_some_iff.1 (Option.some_get this).symm).1
theorem keyedP : Maps.Keyed Tryz.prog 90 := Maps.Keyed.of_law (deep_law_laid laidOutP (m := 5) (by omega) rowPw (by kernel_rfl) (by rw [Tryz.underlying90]))
theorem keyLitsP (e : Int × Int) (h : InI e.1 ∧ InI e.2) (d : Nat) : Tryz.prog.keyLits (d + 2) 90 [.int .i64 e.1, .int .i64 e.2] = some [.int .i64 e.1, .int .i64 e.2] := by
 have hc : Tryz.prog.cellsOf 90 = 2 := by kernel_rfl
 have hc3 : Tryz.prog.cellsOf 3 = 1 := by kernel_rfl
 unfold Program.keyLits
 rw [Tryz.underlying90]
 simp only [hc]
 simp [Program.keyLits, hc3, Tryz.underlying3, wf_i64p h.1, wf_i64p h.2]
theorem keyOfP (e : Int × Int) (h : InI e.1 ∧ InI e.2) : keyOf Tryz.prog 90 (pwV e) = some (.string (keyBytes [.int .i64 e.1, .int .i64 e.2])) := by
 have hk : Tryz.prog.keyType 90 = true := by kernel_rfl
 have hc : Tryz.prog.cellsOf 90 = 2 := by kernel_rfl
 have hn : Tryz.prog.types.size + 1 = (Tryz.prog.types.size - 1) + 2 := by have := rowPw; omega
 have hf : (pwV e).formed Tryz.prog 90 = true := by
   unfold pwV Value.formed
   rw [Tryz.underlying90]
   simp [hc]
 unfold keyOf
 rw [Tryz.underlying90]
 simp only [hk, hf, hn]
 have hcs : (pwV e).cells.toList = [.int .i64 e.1, .int .i64 e.2] := by simp [pwV, Value.cells]
 rw [hcs, keyLitsP e h]
 rfl
theorem goodP : CP.Good Tryz.prog 90 where
 keyed := keyedP
 kinj x y hx hy h := by
   have h1 := keyOfP x hx
   have h2 := keyOfP y hy
   simp only [CP] at h
   rw [h1, h2] at h
   simp only [Option.getD_some] at h
   rw [← h] at h2
   have := keyedP.inj h1 h2
   unfold pwV at this
   simp only [Value.agg.injEq, Array.mk.injEq, List.cons.injEq, Value.int.injEq, true_and, and_true] at this
   exact Prod.ext this.1 this.2
 isk x hx := by
   simp only [CP]
   rw [keyOfP x hx]
   trivial
 keyOf x hx := by
   simp only [CP]
   rw [keyOfP x hx]
   rfl
 vinj := hdrV_inj
 dinj := hdrD_inj
def hdr0 : Hdr := (none, 0, 0)
theorem zeroNat (w : World) : (zeroValue 49).run Tryz.prog w = .ok (hdrV hdr0) w := by kernel_rfl
theorem natV_zero (w : World) : NatV w (hdrV hdr0) 0 := by
 refine ⟨_, rfl, ?_⟩
 have : digB 4294967296 0 = [] := by rw [digB_nil (by decide)]
 rw [this]
 exact RdN.nil _ _
theorem natV_hdr {w : World} {v : Value} {n : Nat} (h : NatV w v n) (hn : 0 < n) : ∃ h : Hdr, v = hdrV h := by
 obtain ⟨s, rfl, a, c, rfl, -, h⟩ := h
 rcases h with h | ⟨b, off, rfl, -, -, rfl⟩
 · rw [digB_nil (by decide)] at h; omega
 · exact ⟨(some b, _, c), rfl⟩
theorem NatV.same {w w' : World} {v : Value} {n : Nat} {g : Option Nat} (h : NatV w v n) (hs : Same (fun j => g ≠ some j) w w') (hg : ∀ j, g = some j → ∀ x : Int, w.cell? ⟨j, 0, none⟩ ≠ some (.int .u32 x)) : NatV w' v n := by
 obtain ⟨s, rfl, h⟩ := h
 exact ⟨s, rfl, h.same hs hg⟩
def PMap (w : World) (mb : Nat) (p : Pol) : Prop := Canon p ∧ Upto 2048 p ∧ ∃ f, Pal.Own CP Tryz.prog 90 w mb (hl p f) ∧ ∀ x ∈ p, NatV w (hdrV (f x.1)) x.2
def PolM (w : World) (m : Option Nat) (p : Pol) : Prop := (m = none ∧ p = []) ∨ ∃ mb, m = some mb ∧ PMap w mb p
def PolV (w : World) (v : Value) (p : Pol) : Prop := ∃ m : Option Nat, v = .agg #[.map m] ∧ PolM w m p
theorem PMap.lt {w : World} {mb : Nat} {p : Pol} (h : PMap w mb p) : mb < w.heap.size := by obtain ⟨-, -, f, h, -⟩ := h; exact h.lt
theorem PMap.below {w w' : World} {mb : Nat} {p : Pol} (h : PMap w mb p) (hb : Below w.heap.size w w') : PMap w' mb p := by
 have hlt := h.lt
 obtain ⟨h1, h2, f, h3, h4⟩ := h
 exact ⟨h1, h2, f, h3.below hb hlt, fun x hx => (h4 x hx).below hb⟩
theorem PMap.same {w w' : World} {mb : Nat} {p : Pol} {g : Option Nat} (h : PMap w mb p) (hs : Same (fun j => g ≠ some j) w w') (hm : g ≠ some mb) (hg : ∀ j, g = some j → ∀ x : Int, w.cell? ⟨j, 0, none⟩ ≠ some (.int .u32 x)) : PMap w' mb p := by
 have hlt := h.lt
 obtain ⟨h1, h2, f, h3, h4⟩ := h
 exact ⟨h1, h2, f, h3.congr (hs.block mb hlt hm), fun x hx => (h4 x hx).same hs hg⟩
theorem PolM.below {w w' : World} {m : Option Nat} {p : Pol} (h : PolM w m p) (hb : Below w.heap.size w w') : PolM w' m p := by
 rcases h with h | ⟨mb, h1, h2⟩
 · exact .inl h
 · exact .inr ⟨mb, h1, h2.below hb⟩
theorem PolM.same {w w' : World} {m : Option Nat} {p : Pol} {g : Option Nat} (h : PolM w m p) (hs : Same (fun j => g ≠ some j) w w') (hm : ∀ mb, m = some mb → g ≠ some mb) (hg : ∀ j, g = some j → ∀ x : Int, w.cell? ⟨j, 0, none⟩ ≠ some (.int .u32 x)) : PolM w' m p := by
 rcases h with h | ⟨mb, h1, h2⟩
 · exact .inl h
 · exact .inr ⟨mb, h1, h2.same hs (hm mb h1) hg⟩
theorem PolV.below {w w' : World} {v : Value} {p : Pol} (h : PolV w v p) (hb : Below w.heap.size w w') : PolV w' v p := by
 obtain ⟨m, h1, h2⟩ := h
 exact ⟨m, h1, h2.below hb⟩
theorem PolM.canon {w : World} {m : Option Nat} {p : Pol} (h : PolM w m p) : Canon p := by
 rcases h with ⟨-, rfl⟩ | ⟨mb, -, h⟩
 · exact Canon.nil
 · exact h.1
theorem PolM.upto {w : World} {m : Option Nat} {p : Pol} (h : PolM w m p) : Upto 2048 p := by
 rcases h with ⟨-, rfl⟩ | ⟨mb, -, h⟩
 · exact upto_nil _
 · exact h.2.1
theorem PolV.canon {w : World} {v : Value} {p : Pol} (h : PolV w v p) : Canon p := by obtain ⟨m, -, h⟩ := h; exact h.canon
theorem PolV.upto {w : World} {v : Value} {p : Pol} (h : PolV w v p) : Upto 2048 p := by obtain ⟨m, -, h⟩ := h; exact h.upto
theorem PolM.lt {w : World} {m : Option Nat} {p : Pol} (h : PolM w m p) : ∀ b, m = some b → b < w.heap.size := by
 rcases h with ⟨rfl, -⟩ | ⟨mb, rfl, h⟩
 · intro b hb; cases hb
 · intro b hb; cases hb; exact h.lt
theorem PMap.noInt {w : World} {mb : Nat} {p : Pol} (h : PMap w mb p) (i : Nat) (v : Value) : w.cell? ⟨mb, i, none⟩ ≠ some v := by
 obtain ⟨-, -, f, ⟨D, ⟨es, clock, h1, -⟩, -⟩, -⟩ := h
 intro e
 simp [World.cell?, h1] at e
theorem PolM.len {w : World} {m : Option Nat} {p : Pol} (h : PolM w m p) (ty : TypeId) : (Builtin.len_ #[22] ty #[.map m]).run Tryz.prog w = .ok (.int .i64 (p.length : Int)) w := by
 rcases h with ⟨rfl, rfl⟩ | ⟨mb, rfl, -, -, f, h, -⟩
 · exact Maps.len_nil Tryz.underlying22 ty
 · have := h.len Tryz.underlying22 ty
   rwa [hl_len] at this
theorem PolM.look {w : World} {m : Option Nat} {p : Pol} (h : PolM w m p) (a b : Int) (ha : InI a) (hb : InI b) : ∃ hd : Hdr, (∀ W, Below w.heap.size w W → (Instr.lookup 22 (.map m) (.agg #[.int .i64 a, .int .i64 b]) false).run Tryz.prog W = .ok (.agg #[hdrS hd]) W) ∧ NatV w (hdrV hd) (coefZ p a b) := by
 rcases h with ⟨rfl, rfl⟩ | ⟨mb, rfl, hc, -, f, h, hn⟩
 · refine ⟨hdr0, fun W _ => Maps.look_nil false keyedP Tryz.underlying22 (zeroNat W) (keyOfP (a, b) ⟨ha, hb⟩), ?_⟩
   have : coefZ [] a b = 0 := by unfold coefZ coefP; simp
   rw [this]
   exact natV_zero w
 · refine ⟨_, fun W hW => (h.below hW h.lt).look goodP Tryz.underlying22 zeroNat (x := (a, b)) ⟨ha, hb⟩, ?_⟩
   unfold coefZ
   by_cases hab : 0 ≤ a ∧ 0 ≤ b
   · rw [if_pos hab]
     have e : (a, b) = keyX (a.toNat, b.toNat) := by unfold keyX; simp only [Prod.mk.injEq]; omega
     rw [e, look_hl hc]
     by_cases h0 : coefP p (a.toNat, b.toNat) = 0
     · rw [if_pos h0, h0]; exact natV_zero w
     · rw [if_neg h0]
       exact hn (_, _) (coef_mem hc rfl (by omega))
   · rw [if_neg hab, look_hl_neg f a b hab]
     exact natV_zero w
theorem PMap.put {w : World} {mb : Nat} {p : Pol} (h : PMap w mb p) (k : Ex) (hk : k.1 ≤ 2048 ∧ k.2 ≤ 2048) (n : Nat) (hn : 0 < n) (hd : Hdr) (hv : NatV w (hdrV hd) (coefP p k + n)) (hlen : p.length < 1000000) :
   ∃ w', (Instr.mapUpdate 22 (.map (some mb)) (.agg #[.int .i64 (k.1 : Int), .int .i64 (k.2 : Int)]) (.agg #[hdrS hd])).run Tryz.prog w = .ok () w' ∧ PMap w' mb (addT p (k, n)) ∧ Same (fun j => j ≠ mb) w w' ∧ w'.heap.size = w.heap.size := by
 have hno := h.noInt 0
 obtain ⟨h1, h2, f, h3, h4⟩ := h
 have hok : CP.ok (keyX k) := by
   show InI (k.1 : Int) ∧ InI (k.2 : Int)
   unfold InI
   omega
 obtain ⟨w', r1, r2, r3, r4⟩ := h3.store goodP Tryz.underlying22 hok hd (hl_put h1 f k n hn hd) (by rw [hl_len]; exact hlen)
 have hS : Same (fun j => some mb ≠ some j) w w' := ⟨r3.os, r3.tape, r3.output, r3.size, fun j hj hne => r3.block j hj (fun e => hne e.symm)⟩
 have hK : ∀ v m, NatV w v m → NatV w' v m := fun v m h => h.same hS (fun j hj x => by cases hj; exact hno _)
 have ea : addT p (k, n) = insT (k, n) p := by unfold addT; rw [if_neg (by simp; omega)]
 refine ⟨w', r1, ?_, hS.mono fun j _ hj => by simpa using fun e => hj e.symm, r4⟩
 rw [ea]
 refine ⟨h1.ins hn, fun x hx => ?_, _, r2, fun x hx => ?_⟩
 · rcases ins_mem h1 hn hx with ⟨e, -⟩ | ⟨-, hx⟩
   · rw [e]; exact hk
   · exact h2 x hx
 · rcases ins_mem h1 hn hx with ⟨e, e2⟩ | ⟨hne, hx⟩
   · rw [if_pos e, e2]
     exact hK _ _ hv
   · rw [if_neg hne]
     exact hK _ _ (h4 x hx)
theorem PMap.made (w : World) : PMap (w.alloc (.map #[] 0)) w.heap.size [] := ⟨Canon.nil, upto_nil _, fun _ => hdr0, Pal.Own.made w, by simp⟩
def PRng (w : World) (m : Option Nat) (r : Nat) (p rest : Pol) : Prop :=
 (m = none ∧ rest = [] ∧ w.heap[r]? = some (.mapIter none 0 #[] 0)) ∨ ∃ mb f, m = some mb ∧ Rng CP Tryz.prog 90 w mb r (hl p f) (hl rest f) ∧ (∀ x ∈ rest, x ∈ p) ∧ (∀ x ∈ p, NatV w (hdrV (f x.1)) x.2)
theorem PRng.lt {w : World} {m : Option Nat} {r : Nat} {p rest : Pol} (h : PRng w m r p rest) : r < w.heap.size := by
 rcases h with ⟨-, -, h⟩ | ⟨mb, f, -, h, -⟩
 · exact (Array.getElem?_eq_some_iff.1 h).1
 · exact h.lt
theorem PRng.below {w w' : World} {m : Option Nat} {r : Nat} {p rest : Pol} (h : PRng w m r p rest) (hb : Below w.heap.size w w') : PRng w' m r p rest := by
 have hlt := h.lt
 rcases h with ⟨h1, h2, h⟩ | ⟨mb, f, h1, h, h2, h3⟩
 · exact .inl ⟨h1, h2, (hb.block r hlt).trans h⟩
 · exact .inr ⟨mb, f, h1, h.congr (hb.block mb h.own.lt) (hb.block r hlt), h2, fun x hx => (h3 x hx).below hb⟩
theorem PRng.same {w w' : World} {m : Option Nat} {r : Nat} {p rest : Pol} {g : Option Nat} (h : PRng w m r p rest) (hs : Same (fun j => g ≠ some j) w w') (hr : g ≠ some r) (hm : ∀ mb, m = some mb → g ≠ some mb) (hg : ∀ j, g = some j → ∀ x : Int, w.cell? ⟨j, 0, none⟩ ≠ some (.int .u32 x)) : PRng w' m r p rest := by
 have hlt := h.lt
 rcases h with ⟨h1, h2, h⟩ | ⟨mb, f, h1, h, h2, h3⟩
 · exact .inl ⟨h1, h2, (hs.block r hlt hr).trans h⟩
 · exact .inr ⟨mb, f, h1, h.congr (hs.block mb h.own.lt (hm mb h1)) (hs.block r hlt hr), h2, fun x hx => (h3 x hx).same hs hg⟩
theorem PRng.noInt {w : World} {m : Option Nat} {r : Nat} {p rest : Pol} (h : PRng w m r p rest) (i : Nat) (v : Value) : w.cell? ⟨r, i, none⟩ ≠ some v := by
 intro e
 rcases h with ⟨-, -, h⟩ | ⟨mb, f, -, ⟨D, left, cnt, ⟨es, clock, since, seen, c0, h1, h2, h3, h4, h5, h6⟩, -⟩, -⟩
 · simp [World.cell?, h] at e
 · simp [World.cell?, h5] at e
theorem PolM.range {w : World} {m : Option Nat} {p : Pol} (h : PolM w m p) :
   ∃ w', (Instr.range 22 (.map m)).run Tryz.prog w = .ok (.pointer (some ⟨w.heap.size, 0, none⟩)) w' ∧ PRng w' m w.heap.size p p ∧ Below w.heap.size w w' ∧ w'.heap.size = w.heap.size + 1 := by
 rcases h with ⟨rfl, rfl⟩ | ⟨mb, rfl, -, -, f, h, hn⟩
 · exact ⟨_, run_range_nilMap w 22 _ _ Tryz.underlying22, .inl ⟨rfl, rfl, (MapKept.heap_alloc w _).1⟩, (Below.refl _ _).alloc (Nat.le_refl _) _, by simp⟩
 · obtain ⟨w', r1, r2, r3, r4⟩ := h.range goodP Tryz.underlying22
   exact ⟨w', r1, .inr ⟨mb, f, rfl, r2, fun _ h => h, fun x hx => (hn x hx).below r3⟩, r3, r4⟩
theorem PRng.next {w : World} {m : Option Nat} {r : Nat} {p rest : Pol} (h : PRng w m r p rest) (ty : TypeId) :
   (rest = [] ∧ (Instr.next (.pointer (some ⟨r, 0, none⟩)) false ty).run Tryz.prog w = .ok (.tuple #[.bool false]) w) ∨
   ∃ k n hd r1 r2 w', rest = r1 ++ (k, n) :: r2 ∧ (Instr.next (.pointer (some ⟨r, 0, none⟩)) false ty).run Tryz.prog w = .ok (.tuple #[.bool true, .agg #[.int .i64 (k.1 : Int), .int .i64 (k.2 : Int)], .agg #[hdrS hd]]) w' ∧ PRng w' m r p (r1 ++ r2) ∧ (k, n) ∈ p ∧ NatV w' (hdrV hd) n ∧ Same (fun j => some r ≠ some j) w w' ∧ w'.heap.size = w.heap.size ∧
     (Instr.entry (.pointer (some ⟨r, 0, none⟩))).run Tryz.prog w' = .ok (.tuple #[.agg #[.int .i64 (k.1 : Int), .int .i64 (k.2 : Int)], .agg #[hdrS hd]]) w' := by
 have hno := h.noInt 0
 rcases h with ⟨h1, rfl, h⟩ | ⟨mb, f, h1, h, h2, h3⟩
 · refine .inl ⟨rfl, ?_⟩
   simp only [Instr.next, getObj, Sem.run_bind, Sem.run, h, Result.andThen]
   rfl
 · rcases h.next goodP ty with ⟨e, hrun⟩ | ⟨x, y, s1, s2, w', e, hrun, hR, hg, hsz, hen⟩
   · refine .inl ⟨?_, hrun⟩
     cases rest with
     | nil => rfl
     | cons a b => simp [hl] at e
   · obtain ⟨r1, q, rfl, e1, e2⟩ := List.map_eq_append_iff.1 e
     obtain ⟨⟨k, n⟩, r2, rfl, e3, e4⟩ := List.map_eq_cons_iff.1 e2
     simp only [Prod.mk.injEq] at e3
     obtain ⟨rfl, rfl⟩ := e3
     have hS : Same (fun j => some r ≠ some j) w w' := ⟨hg.os, hg.tape, hg.output, hg.size, fun j hj hne => hg.block j hj (fun e => hne e.symm)⟩
     have hmem : (k, n) ∈ p := h2 _ (by simp)
     have hK : ∀ x ∈ p, NatV w' (hdrV (f x.1)) x.2 := fun x hx => (h3 x hx).same hS (fun j hj x => by cases hj; exact hno _)
     refine .inr ⟨k, n, f k, r1, r2, w', rfl, hrun, .inr ⟨mb, f, h1, ?_, fun x hx => h2 x ?_, hK⟩, hmem, hK _ hmem, hS, hsz, hen⟩
     · have : hl (r1 ++ r2) f = s1 ++ s2 := by rw [← e1, ← e4]; simp [hl]
       rw [this]
       exact hR
     · rcases List.mem_append.1 hx with h | h
       · exact List.mem_append_left _ h
       · exact List.mem_append_right _ (List.mem_cons_of_mem _ h)
end Go.Proofs.YtgnlebnpnpjfmaaGreatDoor
