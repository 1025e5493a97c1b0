/-
  An abstract machine over the kit's Code.wp, and its soundness: part 32, a lent block that is given up.
-/
import Derived.Test.YtbookhehpebcmaaGreatDoorA31
namespace Go.Proofs.YtbookhehpebcmaaGreatDoor
namespace AM
set_option linter.unusedVariables false
set_option linter.unusedSimpArgs false

theorem ARuns_gone1 {P : Program} {f : FuncId} {args : List AV} {giv : List Bx} {r : AV} {os : List Bx} (o : Bx) (h : ARuns P f args giv r (o :: os)) : ARuns P f args giv r (.gone :: os) := by
  refine ⟨h.1, fun w vals F0 g hF hB hx hr hg => (h.2 w vals F0 g hF hB hx hr hg).mono fun ex w' hq => ?_⟩
  obtain ⟨v, g', e1, hfr, hle, hb, hxx, hal, hrel⟩ := hq
  have sub : ∀ b k, AliveB g' (getB (.gone :: os)) b k → AliveB g' (getB (o :: os)) b k := fun b k hb => by
    cases b with
    | zero => exact hb.elim
    | succ b => exact hb
  have hM : ∀ k, Mut g' (getB (.gone :: os)) k → Mut g' (getB (o :: os)) k := fun k ⟨b, hb⟩ => ⟨b, sub b k hb⟩
  have K : Keeps w' (Mut g' (getB (o :: os))) (fun k => F0 k ∨ w.heap.size ≤ k) w' (Mut g' (getB (.gone :: os))) (fun k => F0 k ∨ w.heap.size ≤ k) := ⟨Nat.le_refl _, fun _ _ _ => rfl, fun k _ hm => hM k hm, fun _ _ _ h => h⟩
  have hg : g'.le g' := ⟨fun _ _ h => h, fun _ _ _ h => h⟩
  refine ⟨v, g', e1, hfr, hle, fun b => ?_, fun b b' k h h' => hxx b b' k (sub b k h) (sub b' k h'), fun b k h => hal b k (sub b k h), Rel.mono K hg r v hrel⟩
  cases b with
  | zero => trivial
  | succ b =>
    have hh := hb (b + 1)
    exact BxR.mono K hg (fun k h => h) (fun n v h => h) (fun k _ _ h => h) (fun k _ _ => rfl) hh

end AM
end Go.Proofs.YtbookhehpebcmaaGreatDoor
