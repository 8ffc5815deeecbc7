/-
  Walks of package toptree: what chain and group build.
-/
import Derived.Test.YtoboncfgogjllaaGreatDoorQTo8
namespace Go.Proofs.YtoboncfgogjllaaGreatDoor
open Go Go.RowKit Go.Pal Go.Shelf

theorem hpath_sub {t u : Tr} {l : List Tr} (h : HPath u l) (hu : Sub t u) : ∀ z ∈ l, Sub t z := by
  induction h with
  | last => intro z hz; simp at hz; subst hz; exact hu
  | cons hh _ ih =>
    intro z hz
    rcases List.mem_cons.1 hz with rfl | hz
    · exact hu
    · exact ih (hu.kid (Tr.hvL_mem hh)) z hz
theorem lights_sub {t u : Tr} (hu : Sub t u) : ∀ z ∈ u.lights, Sub t z := fun _ hz => hu.kid (List.mem_filter.1 hz).1
def MdOk (w0 : World) (gf gb : Nat) : Md → List Tr → Ct → Prop
  | .chain, l, c => ChainOk w0 gf gb l c
  | .group b, l, c => GrpOk w0 gf gb b l c
theorem cl_any (w0 : World) (gf gb : Nat) (T : List Bg) (t : Tr) (hV : Valid T t) (hF0 : FrameOk w0 gf T t) (hts : t.sz ≤ 65536) {md : Md} {l : List Tr} {c : Ct} (h : Cl T md l c) (hsub : ∀ z ∈ l, Sub t z) (hll : l.length ≤ 65536) : MdOk w0 gf gb md l c := by
  induction h with
  | @item0 u hl =>
    refine chain_one w0 gf gb u _ fun w sv N hS hlen => ?_
    exact item0_any w0 gf gb T t hV hF0 hts u (hsub u (by simp)) hl w sv N hS (by simpa [Ct.sz, Ct.szs] using hlen)
  | @item1 u c1 hl _ ih =>
    have hu := hsub u (by simp)
    refine chain_one w0 gf gb u _ fun w sv N hS hlen => ?_
    refine item1_any w0 gf gb T t hV hF0 hts u hu hl c1 (ih (lights_sub hu) ?_) w sv N hS (by simp [Ct.sz, Ct.szs] at hlen; omega)
    have h1 : u.lights.length ≤ u.ks.length := List.length_filter_le _ _
    have h2 := Tr.length_le_szs u.ks
    have h3 := sub_sz hu
    cases u
    simp only [Tr.ks, Tr.sz] at *
    omega
  | path _ _ hy ih1 ih2 =>
    refine chain_many w0 gf gb T t hV hF0 hts _ _ _ _ hsub hll _ _ (ih1 (fun z hz => hsub z (List.mem_of_mem_take hz)) ?_) (ih2 (fun z hz => hsub z (List.mem_of_mem_drop hz)) ?_) hy
    · rw [List.length_take]; omega
    · rw [List.length_drop]; omega
  | single hp _ ih =>
    have hu := hsub _ (List.mem_singleton.2 rfl)
    refine group_one w0 gf gb T t hV hF0 hts _ _ hu _ hp _ (ih (hpath_sub hp hu) ?_)
    exact Nat.le_trans hp.length_le (Nat.le_trans (sub_sz hu) hts)
  | rake _ _ ih1 ih2 =>
    refine group_many w0 gf gb T t hV hF0 hts _ _ _ _ hsub hll _ _ (ih1 (fun z hz => hsub z (List.mem_of_mem_take hz)) ?_) (ih2 (fun z hz => hsub z (List.mem_of_mem_drop hz)) ?_)
    · rw [List.length_take]; omega
    · rw [List.length_drop]; omega
end Go.Proofs.YtoboncfgogjllaaGreatDoor
