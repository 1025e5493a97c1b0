import Derived.Test.YtbookhehpebcmaaGreatDoorM5
namespace Go.Proofs.YtbookhehpebcmaaGreatDoor
open AM
set_option linter.unusedSimpArgs false
set_option linter.unusedVariables false

set_option maxHeartbeats 8000000 in
set_option maxRecDepth 100000 in
theorem runs_laws_FnFamilies (bs : List Int) (hp1 : ∀ n ∈ bs, 0 ≤ n ∧ n ≤ 255) (hp2 : bs.length ≤ 9223372036854775807) : ARuns Tryz.prog 3 [.sl none (.ints .u8 bs)] [] (.bool true) [] := by
  have hx := @anyL_len bs (newC bs)
  rcases Bool.eq_false_or_eq_true (famB (anyN bs (newC bs)) (anyL bs (newC bs))) with hf | hf
  · exact fam_on hp1 rfl rfl hx hf
  · exact fam_off hp1 rfl rfl hx hf
def lend_laws_FnFamilies : List Nat := []
def sp_laws_FnFamilies : List AV → List Bx → (AV → List Bx → Prop) → Prop
  | [.sl none (.ints .u8 bs)], [], K => (∀ n ∈ bs, 0 ≤ n ∧ n ≤ 255) ∧ (bs.length ≤ 9223372036854775807) ∧ K (.bool true) []
  | _, _, _ => False
theorem at_laws_FnFamilies {bs : List Int} {K : AV → List Bx → Prop} : sp_laws_FnFamilies [.sl none (.ints .u8 bs)] [] K = ((∀ n ∈ bs, 0 ≤ n ∧ n ≤ 255) ∧ (bs.length ≤ 9223372036854775807) ∧ K (.bool true) []) := id rfl
theorem ok_laws_FnFamilies : ∀ args giv K, sp_laws_FnFamilies args giv K → ∃ r outs, ARuns Tryz.prog 3 args giv r outs ∧ K r outs := by
  intro args giv K hk
  unfold sp_laws_FnFamilies at hk
  split at hk
  · obtain ⟨hp1, hp2, hk⟩ := hk; exact ⟨_, _, runs_laws_FnFamilies _ hp1 hp2, hk⟩
  · exact hk.elim
end Go.Proofs.YtbookhehpebcmaaGreatDoor
