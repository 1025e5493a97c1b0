/-
  An abstract machine over the kit's Code.wp, and its soundness: part 0, what the program's text lays in package-level variables, so far as this seat needs it.
-/
import Derived.Test.YtbookhehpebcmaaGreatDoorRows
import Derived.Lib.LaidTab
import Derived.Lib.ItoaNum
namespace Go.Proofs.YtbookhehpebcmaaGreatDoor
namespace AM

def LaidW (w : World) : Prop := Lib.TabIs Tryz.prog w "internal/strconv.uint64pow10" .u64 Lib.pow10Tab
def nGlob : Nat := 4
theorem pow10_at : Tryz.prog.globalNamed "internal/strconv.uint64pow10" = some 3 := by kernel_rfl
theorem LaidW_same {w w' : World} (h : ∀ k, k < nGlob → w'.heap[k]? = w.heap[k]?) (h0 : LaidW w) : LaidW w' := by
  unfold LaidW Lib.TabIs World.var? at h0 ⊢
  rw [pow10_at] at h0 ⊢
  simp only [Option.bind_some] at h0 ⊢
  rw [h 3 (by decide)]
  exact h0

end AM
end Go.Proofs.YtbookhehpebcmaaGreatDoor
