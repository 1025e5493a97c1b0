/-
  For all arguments the law FnShatter holds. No further condition.
-/
import Derived.Test.YtbookhehpebcmaaM3
namespace Go.Proofs.Ytbookhehpebcmaa
open AM
set_option linter.unusedSimpArgs false
set_option linter.unusedVariables false
namespace Z3
open Go.ChangeShapes Go.WideShapes Go.ChangeAt Go.RowKit
theorem own : ownKnob Try.prog.godebug = none := by kernel_rfl
theorem laidOut : laidOutB Try.prog = true := by kernel_rfl
theorem cells_int : Try.prog.cellsOf 3 = 1 := by kernel_rfl
theorem cells_u8 : Try.prog.cellsOf 5 = 1 := by kernel_rfl
theorem und_bool : Try.prog.underlying 4 = some .bool := by kernel_rfl
theorem func : Try.prog.funcs[3]? = some Try.f3 := by kernel_rfl
theorem params : Try.f3.params.toList = [22] := by kernel_rfl
theorem res : Try.f3.resultTypes = #[4] := by kernel_rfl
theorem opens : OpensL Try.prog Try.f3.params.toList [SBytes] := by rw [params]; exact ⟨opens_bytes un22 un5 cells_u8, trivial⟩
theorem walk : ∀ xs, SatL [SBytes] xs → ARuns Try.prog 3 xs [] (.bool true) [] := by
  intro xs h0
  obtain ⟨_, _, rfl, ⟨bs, hp1, hp2, rfl⟩, h1⟩ := satL_cons h0
  obtain rfl := satL_nil h1
  exact runs_laws_FnShatter bs hp1 hp2
set_option maxRecDepth 100000 in
theorem lifted (os : Os) (started : os.Started) (H : Type) (enc : TypeId × Value → H) :
    ReturnsInHanded {} Try.checked os 3 .any (Rows.fnShatterSpec.pre6 enc Try.prog Try.f3 Rows.fnShatterRow.domain false) (Rows.fnShatterSpec.post enc Try.prog Try.f3 false true false false) :=
  returnsInHanded_of_change (C := Try.checked) own started (by kernel_rfl) func
    (ChangeSpec.witness6 (enc := enc) (C := Try.checked) false ⟨#[], #[.slice none 0 0], []⟩ 8 (by kernel_rfl) (by kernel_rfl) (by kernel_rfl) (by kernel_rfl))
    fun W base args ds gs before hval hW _ _ => law_contract (P := Try.prog) (f := 3) (fn := Try.f3) (s := Rows.fnShatterSpec) laidOut (by kernel_rfl) res und_bool rfl (fun H ds h => by rw [params] at h; match ds, h with | [d1], _ => rfl) opens walk W base args ds gs before hval hW
theorem over : Rows.fnShatterRow.holds Try.pinned (OpenSpec.ofChange Rows.fnShatterSpec) :=
  OpenClaim.holds_of_wide 3 Try.f3 rfl rfl rfl rfl rfl rfl rfl ⟨rfl, rfl, rfl, rfl, rfl⟩ rfl rfl rfl rfl rfl (by kernel_rfl) func (by kernel_rfl)
    (of_decide_eq_true (by kernel_rfl)) (by unfold Func.isWrapper; first | (rw [if_pos (by decide +kernel)]; kernel_rfl) | (rw [if_neg (by decide +kernel)]; exact ⟨rfl, rfl⟩))
    (fun os started H enc _ => lifted os started H enc)
end Z3
theorem fnShatter : Rows.FnShatterSaid := Z3.over
#print axioms fnShatter
end Go.Proofs.Ytbookhehpebcmaa
