/-
  For all arguments the program's StarOf returns what the reference's returns. No further condition.
-/
import Derived.Test.YtdpimgmjoecieaaM0
namespace Go.Proofs.Ytdpimgmjoecieaa
open AM
set_option linter.unusedSimpArgs false
set_option linter.unusedVariables false
namespace Z6
open Go.ChangeShapes Go.WideShapes Go.ChangeAt Go.RowKit
theorem own : ownKnob Try.prog.godebug = none := by kernel_rfl
theorem laidOut : laidOutB Try.prog = true := by kernel_rfl
theorem cells_int : Try.prog.cellsOf 3 = 1 := by kernel_rfl
theorem und_bool : Try.prog.underlying 4 = some .bool := by kernel_rfl
theorem func : Try.prog.funcs[6]? = some Try.f6 := by kernel_rfl
theorem params : Try.f6.params.toList = [3, 3, 3] := by kernel_rfl
theorem res : Try.f6.resultTypes = #[4] := by kernel_rfl
theorem opens : OpensL Try.prog Try.f6.params.toList [SInt, SInt, SInt] := by rw [params]; exact ⟨opens_int un3, opens_int un3, opens_int un3, trivial⟩
theorem walk : ∀ xs, SatL [SInt, SInt, SInt] xs → ARuns Try.prog 6 xs [] (.bool true) [] := by
  intro xs h0
  obtain ⟨_, _, rfl, ⟨n, hp1, rfl⟩, h1⟩ := satL_cons h0
  obtain ⟨_, _, rfl, ⟨k, hp2, rfl⟩, h2⟩ := satL_cons h1
  obtain ⟨_, _, rfl, ⟨e, hp3, rfl⟩, h3⟩ := satL_cons h2
  obtain rfl := satL_nil h3
  exact runs_laws_FnExactStarOf n k e hp1 hp2 hp3
set_option maxRecDepth 100000 in
theorem lifted (os : Os) (started : os.Started) (H : Type) (enc : TypeId × Value → H) :
    ReturnsInHanded {} Try.checked os 6 .any (Rows.fnExactStarOfSpec.pre6 enc Try.prog Try.f6 Rows.fnExactStarOfRow.domain false) (Rows.fnExactStarOfSpec.post enc Try.prog Try.f6 false true false false) :=
  returnsInHanded_of_change (C := Try.checked) own started (by kernel_rfl) func
    (ChangeSpec.witness6 (enc := enc) (C := Try.checked) false ⟨#[], #[.int .i64 0, .int .i64 0, .int .i64 0], []⟩ 8 (by kernel_rfl) (by kernel_rfl) (by kernel_rfl) (by kernel_rfl))
    fun W base args ds gs before hval hW _ _ => law_contract (P := Try.prog) (f := 6) (fn := Try.f6) (s := Rows.fnExactStarOfSpec) laidOut (by kernel_rfl) res und_bool rfl (fun H ds h => by rw [params] at h; match ds, h with | [d1, d2, d3], _ => rfl) opens walk W base args ds gs before hval hW
theorem over : Rows.fnExactStarOfRow.holds Try.pinned (OpenSpec.ofChange Rows.fnExactStarOfSpec) :=
  OpenClaim.holds_of_wide 6 Try.f6 rfl rfl rfl rfl rfl rfl rfl ⟨rfl, rfl, rfl, rfl, rfl⟩ rfl rfl rfl rfl rfl (by kernel_rfl) func (by kernel_rfl)
    (of_decide_eq_true (by kernel_rfl)) (by unfold Func.isWrapper; first | (rw [if_pos (by decide +kernel)]; kernel_rfl) | (rw [if_neg (by decide +kernel)]; exact ⟨rfl, rfl⟩))
    (fun os started H enc _ => lifted os started H enc)
end Z6
theorem fnExactStarOf : Rows.FnExactStarOfSaid := Z6.over
#print axioms fnExactStarOf
end Go.Proofs.Ytdpimgmjoecieaa
