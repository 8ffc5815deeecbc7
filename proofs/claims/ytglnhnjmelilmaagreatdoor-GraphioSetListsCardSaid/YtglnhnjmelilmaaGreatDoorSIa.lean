/- Plain: a text split at a byte; a word and numbers; lines read one by one. Plain: the .. -/
import Derived.Test.YtglnhnjmelilmaaGreatDoorSWw
import Derived.Lib.SplitLaws
import Derived.Lib.IndexMore
set_option linter.all false
namespace Go.Pal
open Go Go.RowKit
theorem bytes_list (s : List UInt8) : (⟨s.toArray⟩ : ByteArray).data.toList = s := by simp
end Go.Pal
