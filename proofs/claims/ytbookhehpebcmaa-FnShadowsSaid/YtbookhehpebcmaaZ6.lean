/-
  For all arguments the law FnShadows holds. No further condition.
-/
import Derived.Test.YtbookhehpebcmaaM4
namespace Go.Proofs.Ytbookhehpebcmaa
open AM
set_option linter.unusedSimpArgs false
set_option linter.unusedVariables false
namespace Z6
open Go.ChangeShapes Go.WideShapes Go.ChangeAt Go.RowKit
theorem own : ownKnob Try.prog.godebug = none := by kernel_rfl
theorem laidOut : laidOutB Try.prog = true := by kernel_rfl
theorem cells_int : Try.prog.cellsOf 3 = 1 := by kernel_rfl
theorem cells_u8 : Try.prog.cellsOf 5 = 1 := by kernel_rfl
theorem und_bool : Try.prog.underlying 4 = some .bool := by kernel_rfl
theorem func : Try.prog.funcs[6]? = some Try.f6 := by kernel_rfl
theorem params : Try.f6.params.toList = [22] := by kernel_rfl
theorem res : Try.f6.resultTypes = #[4] := by kernel_rfl
theorem opens : OpensL Try.prog Try.f6.params.toList [SBytes] := by rw [params]; exact ⟨opens_bytes un22 un5 cells_u8, trivial⟩
theorem walk : ∀ xs, SatL [SBytes] xs → ARuns Try.prog 6 xs [] (.bool true) [] := by
  intro xs h0
  obtain ⟨_, _, rfl, ⟨bs, hp1, hp2, rfl⟩, h1⟩ := satL_cons h0
  obtain rfl := satL_nil h1
  exact runs_laws_FnShadows bs hp1 hp2
set_option maxRecDepth 100000 in
theorem lifted (os : Os) (started : os.Started) (H : Type) (enc : TypeId × Value → H) :
    ReturnsInHanded {} Try.checked os 6 .any (Rows.fnShadowsSpec.pre6 enc Try.prog Try.f6 Rows.fnShadowsRow.domain false) (Rows.fnShadowsSpec.post enc Try.prog Try.f6 false true false false) :=
  returnsInHanded_of_change (C := Try.checked) own started (by kernel_rfl) func
    (ChangeSpec.witness6 (enc := enc) (C := Try.checked) false ⟨#[], #[.slice none 0 0], []⟩ 8 (by kernel_rfl) (by kernel_rfl) (by kernel_rfl) (by kernel_rfl))
    fun W base args ds gs before hval hW _ _ => law_contract (P := Try.prog) (f := 6) (fn := Try.f6) (s := Rows.fnShadowsSpec) laidOut (by kernel_rfl) res und_bool rfl (fun H ds h => by rw [params] at h; match ds, h with | [d1], _ => rfl) opens walk W base args ds gs before hval hW
theorem over : Rows.fnShadowsRow.holds Try.pinned (OpenSpec.ofChange Rows.fnShadowsSpec) :=
  OpenClaim.holds_of_wide 6 Try.f6 rfl rfl rfl rfl rfl rfl rfl ⟨rfl, rfl, rfl, rfl, rfl⟩ rfl rfl rfl rfl rfl (by kernel_rfl) func (by kernel_rfl)
    (of_decide_eq_true (by kernel_rfl)) (by unfold Func.isWrapper; first | (rw [if_pos (by decide +kernel)]; kernel_rfl) | (rw [if_neg (by decide +kernel)]; exact ⟨rfl, rfl⟩))
    (fun os started H enc _ => lifted os started H enc)
end Z6
theorem fnShadows : Rows.FnShadowsSaid := Z6.over
#print axioms fnShadows
end Go.Proofs.Ytbookhehpebcmaa
