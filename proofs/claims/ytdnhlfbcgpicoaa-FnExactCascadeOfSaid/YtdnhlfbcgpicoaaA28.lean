/-
  An abstract machine over the kit's Code.wp, and its soundness: part 28, more equations for simp to reckon with.
-/
import Derived.Test.YtdnhlfbcgpicoaaA27
namespace Go.Proofs.Ytdnhlfbcgpicoaa
namespace AM
set_option linter.unusedVariables false
set_option linter.unusedSimpArgs false

theorem mp_nil {c i : Nat} : mp [] c i = c + i := by simp [mp]
theorem mp_one0 {b c : Nat} : mp [b] c 0 = b := by simp [mp]
theorem mp_oneS {b c i : Nat} : mp [b] c (i + 1) = c + i := by simp [mp]
theorem mp_one1 {b c : Nat} : mp [b] c 1 = c := by simp [mp]
theorem mp_one2 {b c : Nat} : mp [b] c 2 = c + 1 := by simp [mp]
theorem mp_one3 {b c : Nat} : mp [b] c 3 = c + 2 := by simp [mp]

theorem rng0 : List.range 0 = [] := rfl
theorem rng1 : List.range 1 = [0] := rfl
theorem rng2 : List.range 2 = [0, 1] := rfl
theorem rng3 : List.range 3 = [0, 1, 2] := rfl
theorem rng4 : List.range 4 = [0, 1, 2, 3] := rfl

def liveB : Bx → Bool
  | .box _ | .row _ _ => true
  | _ => false
theorem liveB_row {e : TypeId} {c : SC} : liveB (.row e c) = true := id rfl
theorem liveB_box {cs : List AV} : liveB (.box cs) = true := id rfl

/-- One block lent. -/
theorem kcall_one {c : Nat} {bx : Nat → Bx} {avs caps : List AV} {cs : List SC} {K : Kt} {b : Nat} {r : AV} {outs : List Bx} : kcall c bx avs caps cs K [b] r outs =
    ((liveB (bx b) = true ∧ 1 ≤ outs.length ∧ okA r = true ∧ outs.all okBx = true ∧ ((lendDies bx (bx b)).all fun p => !(p.1 == b)) = true ∧ (cs.all fun c => c.len == 0) = true ∧ b < c) ∧
    K (outA [b] c avs r) (lendDies bx (bx b) ++ outU [b] c avs 0 outs) (b :: (deepL (avs ++ caps) ++ boxIds (bx b) ++ (outU [b] c avs 0 outs).map (·.1)))) := by
  rw [kcall_cons]
  cases h : bx b <;> simp [liveB, h]

theorem satL_cons {S : AV → Prop} {Ss : List (AV → Prop)} : ∀ {xs : List AV}, SatL (S :: Ss) xs → ∃ x r, xs = x :: r ∧ S x ∧ SatL Ss r
  | x :: r, h => ⟨x, r, rfl, h.1, h.2⟩
  | [], h => h.elim
theorem satL_nil : ∀ {xs : List AV}, SatL [] xs → xs = []
  | [], _ => rfl
  | _ :: _, h => h.elim

end AM
end Go.Proofs.Ytdnhlfbcgpicoaa
