/- Walk of the laws of polynomials: alike. -/
import Derived.Test.YtgnlebnpnpjfmaaGreatDoorUQG
import Derived.Test.YtgnlebnpnpjfmaaGreatDoorUOu
set_option linter.all false
namespace Go.Pal
theorem digits70 {n : Nat} (h : n ≤ 1684996666696914987166688442938726917102321526408785780068975640576) : (Lib.decDigits n).length ≤ 70 := dec_len (by omega) (Nat.lt_of_le_of_lt h (by decide))
end Go.Pal
namespace Go.Proofs.YtgnlebnpnpjfmaaGreatDoor
open Go Go.RowKit Go.Pal Go.Shelf
attribute [local go_sem] Oper.semAt_some
structure TxB (p : Pol) : Prop where
 upto : Upto 2048 p
 fit : Fit (wt p)
 len : p.length ≤ 100000
 txt : (textP p).length ≤ 1000000
theorem txB {p : Pol} (hu : Upto 2048 p) (hw : wt p ≤ 1684996666696914987166688442938726917102321526408785780068975640576) (hl : p.length ≤ 4096) : TxB p := by
 have hk : (221 : Nat) ≤ fitK := by unfold fitK; decide
 refine ⟨hu, fit_of (k := 221) (by omega) hk, by omega, ?_⟩
 have h := textP_len (d := 70) hu (fun x hx => digits70 (Nat.le_trans (wt_mem hx) hw))
 have h2 : p.length * (70 + 27) ≤ 4096 * (70 + 27) := Nat.mul_le_mul_right _ hl
 omega
set_option maxRecDepth 10000 in
set_option maxHeartbeats 1000000 in
theorem plalike_any (p q : Pol) (vp vq : Value) (w : World) (hp : PolV w vp p) (hq : RefP w vq q) (hb : TxB p) (hb2 : TxB q) (hE : Env w) :
   Calls Tryz.prog 15 #[vp, vq] w fun e w' => e = .returned (.bool (decide (textP p = textP q))) ∧ Below w.heap.size w w' := by
 obtain ⟨m, rfl, hm⟩ := hp
 obtain ⟨qa, qc, rfl⟩ := refP_sl hq
 obtain ⟨ql, hql⟩ : ∃ l, l = q.length := ⟨_, rfl⟩
 rw [← hql] at hq ⊢
 have hbA : Below w.heap.size w (w.alloc (.cells #[.map m] 24)) := (Below.refl _ _).alloc (Nat.le_refl _) _
 have HT := Lib.hid (ptext_any p (.agg #[.map m]) _ ⟨m, rfl, hm.below hbA⟩ hb.fit hb.len hb.txt (hE.on hbA))
 have HQ := Lib.hid fun W (h : Below w.heap.size w W) => qtext_any q hb2.upto hb2.fit hb2.len _ W (hq.below h)
 have BA := Lib.hid hbA
 obtain ⟨S, hS⟩ : ∃ S, S = textP p := ⟨_, rfl⟩
 obtain ⟨T, hT⟩ : ∃ T, T = textP q := ⟨_, rfl⟩
 rw [← hS] at HT
 rw [← hT] at HQ
 rw [← hS, ← hT]
 clear hm hq hb hb2 hE hbA hql hS hT
 go_enter Tryz.func15, Tryz.ntmps15
 go_wp2_with fail
 refine HT.out.mono ?_
 rintro e w1 ⟨rfl, b1⟩
 have B1 := Lib.hid (BA.out.trans (b1.mono BA.out.size))
 clear b1
 go_wp2_with fail
 refine (HQ.out w1 B1.out).mono ?_
 rintro e w2 ⟨rfl, b2⟩
 have B2 := Lib.hid (B1.out.trans (b2.mono B1.out.size))
 clear b2
 go_wp2_with fail
 go_ret
 have e1 : (S == T) = decide (S = T) := by rw [Bool.eq_iff_iff]; simp
 exact ⟨by rw [← e1]; rfl, B2.out⟩
end Go.Proofs.YtgnlebnpnpjfmaaGreatDoor
