/- Plain: the texts of vertices, edges and graphs as bytes; a graph is built by its own .. -/
import Derived.Test.YtglnhnjmelilmaaGreatDoorRJpl
import Derived.Test.YtglnhnjmelilmaaGreatDoorRVb
set_option linter.all false
namespace Go.Pal
open Go
def vLine (p : Int × Th) : List UInt8 := lineB [118, 101, 114, 116, 101, 120] [p.1, (p.2.1 : Int), p.2.2] ++ [10]
def eLine (p : (Int × Int) × Th) : List UInt8 := lineB [101, 100, 103, 101] [p.1.1, p.1.2, (p.2.1 : Int), p.2.2] ++ [10]
def Gr.text (G : Gr) : List UInt8 := G.V.flatMap vLine ++ G.E.flatMap eLine
theorem vLine_len {G : Gr} (h : G.Ok) {x : Int × Th} (hx : x ∈ G.V) : (vLine x).length ≤ 73 := by
 have h1 := h.ids x hx
 obtain ⟨h2, h3, h4⟩ := h.thV x hx
 have := lineB_len (s := [118, 101, 114, 116, 101, 120]) (ns := [x.1, (x.2.1 : Int), x.2.2]) (by
   intro n hn
   simp only [List.mem_cons, List.not_mem_nil, or_false] at hn
   rcases hn with rfl | rfl | rfl
   · exact inI_of (by omega) (by omega)
   · exact inI_of (by omega) (by omega)
   · exact inI_of (by omega) (by omega))
 unfold vLine
 simp only [List.length_append, List.length_cons, List.length_nil] at this ⊢
 omega
theorem eLine_len {G : Gr} (h : G.Ok) {x : (Int × Int) × Th} (hx : x ∈ G.E) : (eLine x).length ≤ 93 := by
 have h1 := h.endsI x hx
 obtain ⟨h2, h3, h4⟩ := h.thE x hx
 have := lineB_len (s := [101, 100, 103, 101]) (ns := [x.1.1, x.1.2, (x.2.1 : Int), x.2.2]) (by
   intro n hn
   simp only [List.mem_cons, List.not_mem_nil, or_false] at hn
   rcases hn with rfl | rfl | rfl | rfl
   · exact inI_of (by omega) (by omega)
   · exact inI_of (by omega) (by omega)
   · exact inI_of (by omega) (by omega)
   · exact inI_of (by omega) (by omega))
 unfold eLine
 simp only [List.length_append, List.length_cons, List.length_nil] at this ⊢
 omega
theorem Gr.textV_len {G : Gr} (h : G.Ok) (k : Nat) : ((G.V.take k).flatMap vLine).length ≤ 74752 := by
 have := flatMap_len (f := vLine) (b := 73) (l := G.V.take k) fun x hx => vLine_len h (List.mem_of_mem_take hx)
 have h1 := h.len
 rw [List.length_take] at this
 omega
theorem Gr.textE_len {G : Gr} (h : G.Ok) (k : Nat) : ((G.E.take k).flatMap eLine).length ≤ 95232 := by
 have := flatMap_len (f := eLine) (b := 93) (l := G.E.take k) fun x hx => eLine_len h (List.mem_of_mem_take hx)
 have h1 := h.most
 rw [List.length_take] at this
 omega
theorem flatMap_take_snoc {α : Type} {f : α → List UInt8} {l : List α} {k : Nat} {x : α} (h : l[k]? = some x) : (l.take (k + 1)).flatMap f = (l.take k).flatMap f ++ f x := by
 rw [take_snoc h]
 simp
end Go.Pal
