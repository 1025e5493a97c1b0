/-
  For all arguments the program's SymmetricChains returns what the reference's returns. No further condition.
-/
import Derived.Test.YtbookhehpebcmaaM0
namespace Go.Proofs.Ytbookhehpebcmaa
open AM
set_option linter.unusedSimpArgs false
set_option linter.unusedVariables false
namespace Z4
open Go.ChangeShapes Go.WideShapes Go.ChangeAt Go.RowKit
theorem own : ownKnob Try.prog.godebug = none := by kernel_rfl
theorem laidOut : laidOutB Try.prog = true := by kernel_rfl
theorem cells_int : Try.prog.cellsOf 3 = 1 := by kernel_rfl
theorem cells_u8 : Try.prog.cellsOf 5 = 1 := by kernel_rfl
theorem und_bool : Try.prog.underlying 4 = some .bool := by kernel_rfl
theorem func : Try.prog.funcs[4]? = some Try.f4 := by kernel_rfl
theorem params : Try.f4.params.toList = [3] := by kernel_rfl
theorem res : Try.f4.resultTypes = #[4] := by kernel_rfl
theorem opens : OpensL Try.prog Try.f4.params.toList [SInt] := by rw [params]; exact ⟨opens_int un3, trivial⟩
theorem walk : ∀ xs, SatL [SInt] xs → ARuns Try.prog 4 xs [] (.bool true) [] := by
  intro xs h0
  obtain ⟨_, _, rfl, ⟨n, hp1, rfl⟩, h1⟩ := satL_cons h0
  obtain rfl := satL_nil h1
  exact runs_laws_FnExactSymmetricChains n hp1
set_option maxRecDepth 100000 in
theorem lifted (os : Os) (started : os.Started) (H : Type) (enc : TypeId × Value → H) :
    ReturnsInHanded {} Try.checked os 4 .any (Rows.fnExactSymmetricChainsSpec.pre6 enc Try.prog Try.f4 Rows.fnExactSymmetricChainsRow.domain false) (Rows.fnExactSymmetricChainsSpec.post enc Try.prog Try.f4 false true false false) :=
  returnsInHanded_of_change (C := Try.checked) own started (by kernel_rfl) func
    (ChangeSpec.witness6 (enc := enc) (C := Try.checked) false ⟨#[], #[.int .i64 0], []⟩ 8 (by kernel_rfl) (by kernel_rfl) (by kernel_rfl) (by kernel_rfl))
    fun W base args ds gs before hval hW _ _ => law_contract (P := Try.prog) (f := 4) (fn := Try.f4) (s := Rows.fnExactSymmetricChainsSpec) laidOut (by kernel_rfl) res und_bool rfl (fun H ds h => by rw [params] at h; match ds, h with | [d1], _ => rfl) opens walk W base args ds gs before hval hW
theorem over : Rows.fnExactSymmetricChainsRow.holds Try.pinned (OpenSpec.ofChange Rows.fnExactSymmetricChainsSpec) :=
  OpenClaim.holds_of_wide 4 Try.f4 rfl rfl rfl rfl rfl rfl rfl ⟨rfl, rfl, rfl, rfl, rfl⟩ rfl rfl rfl rfl rfl (by kernel_rfl) func (by kernel_rfl)
    (of_decide_eq_true (by kernel_rfl)) (by unfold Func.isWrapper; first | (rw [if_pos (by decide +kernel)]; kernel_rfl) | (rw [if_neg (by decide +kernel)]; exact ⟨rfl, rfl⟩))
    (fun os started H enc _ => lifted os started H enc)
end Z4
theorem fnExactSymmetricChains : Rows.FnExactSymmetricChainsSaid := Z4.over
#print axioms fnExactSymmetricChains
end Go.Proofs.Ytbookhehpebcmaa
