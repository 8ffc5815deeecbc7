/- Plain: the edits of a difference have texts. -/
import Derived.Test.YtglnhnjmelilmaaGreatDoorRCb
import Derived.Test.YtglnhnjmelilmaaGreatDoorRVh
set_option linter.all false
namespace Go.Pal
open Go Go.RowKit
theorem bad_zero {k : Nat} (hk : k < 8) {u v : Int} {lab : Nat} {wt : Int} (hu : 0 ≤ u ∧ u < 1024) (hv : 0 ≤ v ∧ v < 1024) (hl : lab < 256) (hw : -1048576 ≤ wt ∧ wt ≤ 1048576) (h1 : hasV k = false → v = 0) (h2 : hasL k = false → lab = 0) (h3 : hasW k = false → wt = 0) (h4 : hasV k = true → u ≠ v) : (⟨(k : Int), u, v, lab, wt⟩ : Ed).bad = 0 := by
 have hst : stray (hasV k) (hasL k) (hasW k) v (lab : Int) wt = false := by
   unfold stray
   cases hV : hasV k <;> cases hL : hasL k <;> cases hW : hasW k <;> simp [hV, hL, hW] at h1 h2 h3 ⊢ <;> simp [*]
 have hr : (idB u && idB v && labB (lab : Int) && wtB wt) = true := by
   rw [idB_iff.2 hu, idB_iff.2 hv, labB_iff.2 (by omega), wtB_iff.2 hw]
   rfl
 rw [bad_at k u v lab wt hk, hst, if_neg (by decide), if_pos hr, if_neg (fun h => h4 h.1 h.2)]
theorem mem_chgs {a b e : Ed} {t : Th} (h : e ∈ chgs a b t) : e = a ∨ e = b := by
 unfold chgs at h
 rcases List.mem_append.1 h with h | h
 · split at h
   · exact .inl (List.mem_singleton.1 h)
   · cases h
 · split at h
   · exact .inr (List.mem_singleton.1 h)
   · cases h
theorem z1024 : (0 : Int) ≤ 0 ∧ (0 : Int) < 1024 := by decide
theorem zwt : (-1048576 : Int) ≤ 0 ∧ (0 : Int) ≤ 1048576 := by decide
theorem diff_bad {G H : Gr} (hG : G.Ok) (hH : H.Ok) : ∀ e ∈ diffL G H, e.bad = 0 := by
 intro e he
 unfold diffL at he
 rcases List.mem_append.1 he with he | he
 · rcases List.mem_append.1 he with he | he
   · rcases List.mem_append.1 he with he | he
     · rcases List.mem_append.1 he with he | he
       · obtain ⟨p, hp, rfl⟩ := List.mem_map.1 he
         have hi := hG.ids p (List.mem_filter.1 hp).1
         exact bad_zero (k := 1) (by decide) hi z1024 (by decide) zwt (fun _ => rfl) (fun _ => rfl) (fun _ => rfl) (fun h => by cases h)
       · obtain ⟨p, hp, rfl⟩ := List.mem_map.1 he
         obtain ⟨i1, i2, i3⟩ := hG.endsI p (List.mem_filter.1 hp).1
         exact bad_zero (k := 3) (by decide) (by omega) (by omega) (by decide) zwt (fun h => by cases h) (fun _ => rfl) (fun _ => rfl) (fun _ => by omega)
     · obtain ⟨p, hp, rfl⟩ := List.mem_map.1 he
       have hm := (List.mem_filter.1 hp).1
       have hi := hH.ids p hm
       obtain ⟨t1, t2, t3⟩ := hH.thV p hm
       exact bad_zero (k := 0) (by decide) hi z1024 t1 ⟨t2, t3⟩ (fun _ => rfl) (fun h => by cases h) (fun h => by cases h) (fun h => by cases h)
   · obtain ⟨p, hp, hm⟩ := List.mem_flatMap.1 he
     have hi := hH.ids p hp
     obtain ⟨t1, t2, t3⟩ := hH.thV p hp
     unfold chgOfV at hm
     split at hm
     · cases hm
     · rcases mem_chgs hm with rfl | rfl
       · exact bad_zero (k := 4) (by decide) hi z1024 t1 zwt (fun _ => rfl) (fun h => by cases h) (fun _ => rfl) (fun h => by cases h)
       · exact bad_zero (k := 5) (by decide) hi z1024 (by decide) ⟨t2, t3⟩ (fun _ => rfl) (fun _ => rfl) (fun h => by cases h) (fun h => by cases h)
 · obtain ⟨p, hp, hm⟩ := List.mem_flatMap.1 he
   obtain ⟨i1, i2, i3⟩ := hH.endsI p hp
   obtain ⟨t1, t2, t3⟩ := hH.thE p hp
   unfold chgOfE at hm
   split at hm
   · rw [List.mem_singleton] at hm
     subst hm
     exact bad_zero (k := 2) (by decide) (by omega) (by omega) t1 ⟨t2, t3⟩ (fun h => by cases h) (fun h => by cases h) (fun h => by cases h) (fun _ => by omega)
   · rcases mem_chgs hm with rfl | rfl
     · exact bad_zero (k := 6) (by decide) (by omega) (by omega) t1 zwt (fun h => by cases h) (fun h => by cases h) (fun _ => rfl) (fun _ => by omega)
     · exact bad_zero (k := 7) (by decide) (by omega) (by omega) (by decide) ⟨t2, t3⟩ (fun h => by cases h) (fun _ => rfl) (fun h => by cases h) (fun _ => by omega)
theorem Runs.wf : ∀ {l : List Ed} {A B : Gr}, Runs A l B → ∀ e ∈ l, e.Wf
 | [], _, _, _, e, he => by cases he
 | x :: r, A, B, h, e, he => by
   rcases List.mem_cons.1 he with rfl | he
   · exact h.2.1
   · exact Runs.wf h.2.2.2 e he
end Go.Pal
