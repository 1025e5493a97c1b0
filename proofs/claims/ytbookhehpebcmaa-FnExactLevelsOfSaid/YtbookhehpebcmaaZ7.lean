/-
  For all arguments the program's LevelsOf returns what the reference's returns. No further condition.
-/
import Derived.Test.YtbookhehpebcmaaM2
namespace Go.Proofs.Ytbookhehpebcmaa
open AM
set_option linter.unusedSimpArgs false
set_option linter.unusedVariables false
namespace Z7
open Go.ChangeShapes Go.WideShapes Go.ChangeAt Go.RowKit
theorem own : ownKnob Try.prog.godebug = none := by kernel_rfl
theorem laidOut : laidOutB Try.prog = true := by kernel_rfl
theorem cells_int : Try.prog.cellsOf 3 = 1 := by kernel_rfl
theorem cells_u8 : Try.prog.cellsOf 5 = 1 := by kernel_rfl
theorem und_bool : Try.prog.underlying 4 = some .bool := by kernel_rfl
theorem func : Try.prog.funcs[7]? = some Try.f7 := by kernel_rfl
theorem params : Try.f7.params.toList = [56] := by kernel_rfl
theorem res : Try.f7.resultTypes = #[4] := by kernel_rfl
theorem opens : OpensL Try.prog Try.f7.params.toList [SFam] := by rw [params]; exact ⟨opens_fam (by kernel_rfl : famTy Try.prog 56 3 24 = true) un3 un24 un3 cells_int, trivial⟩
theorem walk : ∀ xs, SatL [SFam] xs → ARuns Try.prog 7 xs [] (.bool true) [] := by
  intro xs h0
  obtain ⟨_, _, rfl, ⟨n, xs, hp1, hp2, hp3, rfl⟩, h1⟩ := satL_cons h0
  obtain rfl := satL_nil h1
  exact runs_laws_FnExactLevelsOf n xs hp1 hp2 hp3
set_option maxRecDepth 100000 in
theorem lifted (os : Os) (started : os.Started) (H : Type) (enc : TypeId × Value → H) :
    ReturnsInHanded {} Try.checked os 7 .any (Rows.fnExactLevelsOfSpec.pre6 enc Try.prog Try.f7 Rows.fnExactLevelsOfRow.domain false) (Rows.fnExactLevelsOfSpec.post enc Try.prog Try.f7 false true false false) :=
  returnsInHanded_of_change (C := Try.checked) own started (by kernel_rfl) func
    (ChangeSpec.witness6 (enc := enc) (C := Try.checked) false ⟨#[], #[.agg #[.int .i64 0, .slice none 0 0]], []⟩ 8 (by kernel_rfl) (by kernel_rfl) (by kernel_rfl) (by kernel_rfl))
    fun W base args ds gs before hval hW _ _ => law_contract (P := Try.prog) (f := 7) (fn := Try.f7) (s := Rows.fnExactLevelsOfSpec) laidOut (by kernel_rfl) res und_bool rfl (fun H ds h => by rw [params] at h; match ds, h with | [d1], _ => rfl) opens walk W base args ds gs before hval hW
theorem over : Rows.fnExactLevelsOfRow.holds Try.pinned (OpenSpec.ofChange Rows.fnExactLevelsOfSpec) :=
  OpenClaim.holds_of_wide 7 Try.f7 rfl rfl rfl rfl rfl rfl rfl ⟨rfl, rfl, rfl, rfl, rfl⟩ rfl rfl rfl rfl rfl (by kernel_rfl) func (by kernel_rfl)
    (of_decide_eq_true (by kernel_rfl)) (by unfold Func.isWrapper; first | (rw [if_pos (by decide +kernel)]; kernel_rfl) | (rw [if_neg (by decide +kernel)]; exact ⟨rfl, rfl⟩))
    (fun os started H enc _ => lifted os started H enc)
end Z7
theorem fnExactLevelsOf : Rows.FnExactLevelsOfSaid := Z7.over
#print axioms fnExactLevelsOf
end Go.Proofs.Ytbookhehpebcmaa
