/-
  For all arguments the program's FindSunflower returns what the reference's returns. No further condition.
-/
import Derived.Test.YtdpimgmjoecieaaM1
namespace Go.Proofs.Ytdpimgmjoecieaa
open AM
set_option linter.unusedSimpArgs false
set_option linter.unusedVariables false
namespace Z10
open Go.ChangeShapes Go.WideShapes Go.ChangeAt Go.RowKit
theorem own : ownKnob Try.prog.godebug = none := by kernel_rfl
theorem laidOut : laidOutB Try.prog = true := by kernel_rfl
theorem cells_int : Try.prog.cellsOf 3 = 1 := by kernel_rfl
theorem und_bool : Try.prog.underlying 4 = some .bool := by kernel_rfl
theorem func : Try.prog.funcs[10]? = some Try.f10 := by kernel_rfl
theorem params : Try.f10.params.toList = [39, 3] := by kernel_rfl
theorem res : Try.f10.resultTypes = #[4] := by kernel_rfl
theorem opens : OpensL Try.prog Try.f10.params.toList [SFam, SInt] := by rw [params]; exact ⟨opens_fam (by kernel_rfl : famTy Try.prog 39 3 22 = true) un3 un22 un3 cells_int, opens_int un3, trivial⟩
theorem walk : ∀ xs, SatL [SFam, SInt] xs → ARuns Try.prog 10 xs [] (.bool true) [] := by
  intro xs h0
  obtain ⟨_, _, rfl, ⟨n, xs, hp1, hp2, hp3, rfl⟩, h1⟩ := satL_cons h0
  obtain ⟨_, _, rfl, ⟨k, hp4, rfl⟩, h2⟩ := satL_cons h1
  obtain rfl := satL_nil h2
  exact runs_laws_FnExactFindSunflower n xs k hp1 hp2 hp3 hp4
set_option maxRecDepth 100000 in
theorem lifted (os : Os) (started : os.Started) (H : Type) (enc : TypeId × Value → H) :
    ReturnsInHanded {} Try.checked os 10 .any (Rows.fnExactFindSunflowerSpec.pre6 enc Try.prog Try.f10 Rows.fnExactFindSunflowerRow.domain false) (Rows.fnExactFindSunflowerSpec.post enc Try.prog Try.f10 false true false false) :=
  returnsInHanded_of_change (C := Try.checked) own started (by kernel_rfl) func
    (ChangeSpec.witness6 (enc := enc) (C := Try.checked) false ⟨#[], #[.agg #[.int .i64 0, .slice none 0 0], .int .i64 0], []⟩ 8 (by kernel_rfl) (by kernel_rfl) (by kernel_rfl) (by kernel_rfl))
    fun W base args ds gs before hval hW _ _ => law_contract (P := Try.prog) (f := 10) (fn := Try.f10) (s := Rows.fnExactFindSunflowerSpec) laidOut (by kernel_rfl) res und_bool rfl (fun H ds h => by rw [params] at h; match ds, h with | [d1, d2], _ => rfl) opens walk W base args ds gs before hval hW
theorem over : Rows.fnExactFindSunflowerRow.holds Try.pinned (OpenSpec.ofChange Rows.fnExactFindSunflowerSpec) :=
  OpenClaim.holds_of_wide 10 Try.f10 rfl rfl rfl rfl rfl rfl rfl ⟨rfl, rfl, rfl, rfl, rfl⟩ rfl rfl rfl rfl rfl (by kernel_rfl) func (by kernel_rfl)
    (of_decide_eq_true (by kernel_rfl)) (by unfold Func.isWrapper; first | (rw [if_pos (by decide +kernel)]; kernel_rfl) | (rw [if_neg (by decide +kernel)]; exact ⟨rfl, rfl⟩))
    (fun os started H enc _ => lifted os started H enc)
end Z10
theorem fnExactFindSunflower : Rows.FnExactFindSunflowerSaid := Z10.over
#print axioms fnExactFindSunflower
end Go.Proofs.Ytdpimgmjoecieaa
