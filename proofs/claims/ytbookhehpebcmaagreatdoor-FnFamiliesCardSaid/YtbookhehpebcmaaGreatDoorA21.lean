/-
  An abstract machine over the kit's Code.wp, and its soundness: part 21, from a contract to a given statement's shape.
-/
import Derived.Test.YtbookhehpebcmaaGreatDoorA20
import Derived.OpenShut
namespace Go.Proofs.YtbookhehpebcmaaGreatDoor
namespace AM
open Go.ChangeShapes Go.WideShapes Go.ChangeAt Go.RowKit
set_option linter.unusedVariables false
set_option linter.unusedSimpArgs false

theorem Frame0.kept {W W' : World} (h : Frame0 W W' (fun _ => False)) (may : MemPlace → Prop) : W.keptBut W' may :=
  ⟨h.os, h.output, fun i hi => by
    rw [h.frame i hi id]
    cases W.heap[i]? with
    | none => rfl
    | some o => cases o <;> simp⟩

theorem Frame0.frozen {W W' : World} (h : Frame0 W W' (fun _ => False)) {a : Addr} (ha : a.block < W.heap.size) : W'.frozen? a = W.frozen? a := by
  unfold World.frozen?
  rw [h.frame _ ha id]

/-- The second half of a given statement, where nothing that was there has turned. -/
theorem post_of_frame {H : Type} {enc : TypeId × Value → H} {P : Program} {f : Func} {s : ChangeSpec} {apart fresh handsOn again : Bool} {W W' : World} {args : Array Value} {v : Value} {ds gs : List (DataW H)} {before pa pv : List MemPlace}
    (hW : DataW.Whole enc P f.params.toList s.vars apart W args.toList ds gs before) (hfr : Frame0 W W' (fun _ => False))
    (hres : ∀ (b : Nat) (sp : Nat → Bool) (hd : Bool), DataW.TrodAll enc P W' b sp hd f.resultTypes.toList (v.resultList f.resultTypes.size) (s.fn H (ds ++ gs)).results [])
    (hargs : ∀ sp : Nat → Bool, (∀ p ∈ before, sp p.block = true) → DataW.TrodAll enc P W' 0 sp true f.params.toList args.toList (s.fn H (ds ++ gs)).args pa)
    (hvars : ∀ sp : Nat → Bool, (∀ p ∈ before, sp p.block = true) → DataW.TrodVars enc P W' sp s.vars (s.fn H (ds ++ gs)).vars pv)
    (hps : before = pa ++ pv)
    (hok : ∀ (j : Nat) (t : TypeId) (r : Value), f.resultTypes[j]? = some t → (v.resultList f.resultTypes.size)[j]? = some r → Value.okWide P W' .any 0 t r) :
    s.post enc P f apart fresh handsOn again W args v W' := by
  have hlt := hW.lt
  have hold : ∀ p ∈ before, (fun b => decide (b < W.heap.size)) p.block = true := fun p hp => by simpa using hW.lt p hp
  refine ⟨ds, gs, before, [], pa, pv, hW, hres _ _ _, hargs _ hold, hvars _ hold, World.keptBut_mono (fun p hp => ⟨hp, ?_⟩) (hfr.kept (· ∈ before)), fun _ => ?_⟩
  · rw [hps, List.mem_append] at hp
    exact Or.inr hp
  · obtain ⟨_, _, _, _, _, hz, hn⟩ := hW
    refine ⟨hok, _, _, ([] ++ pa) ++ pv, ⟨[] ++ pa, pv, trodAll_append (hargs _ (fun _ _ => rfl)) (hres _ _ _), hvars _ (fun _ _ => rfl), rfl, ?_, ?_⟩, ?_⟩
    · intro b off hp
      have hb : MemPlace.cell b off ∈ before := by rw [hps]; simpa using hp
      rw [hfr.frozen (hlt _ hb)]
      exact hz b off hb
    · intro ha
      have := hn ha
      rw [hps] at this
      simpa using this
    · intro p hp _
      rw [hps]
      simpa using hp

/-- A contract that lends nothing and returns a truth: the calls. -/
theorem ARuns.calls_bool {P : Program} {f : FuncId} {args : List AV} {b : Bool} (h : ARuns P f args [] (.bool b) []) {W : World} {vals : List Value} (hglo : Glo W fun _ => False)
    (hargs : ∀ g : Gh, RelL W (fun _ => False) (fun _ => False) g [] args vals) : Calls P f vals.toArray W fun e W' => e = .returned (.bool b) ∧ Frame0 W W' (fun _ => False) := by
  let g : Gh := ⟨fun _ _ => none, fun _ => none, fun _ _ => False, fun _ _ _ h => by cases h⟩
  have hM : Mut g (getB []) = fun _ => False := by
    funext k; apply propext
    constructor
    · rintro ⟨b, hb⟩; simp only [AliveB, getB, AliveX] at hb
    · exact fun h => h.elim
  have := h.2 W vals (fun _ => False) g (fun _ h => h.elim) (fun b => ⟨rfl, fun _ => rfl⟩) (fun b b' k h => by simp only [AliveB, getB, AliveX] at h) (by rw [hM]; exact hargs g) (by rw [hM]; exact hglo)
  refine this.mono fun e w' ⟨v, g', he, hfr, _, _, _, _, hr⟩ => ?_
  rw [hM] at hfr
  simp only [Rel] at hr
  exact ⟨by rw [he, hr], hfr⟩

end AM
end Go.Proofs.YtbookhehpebcmaaGreatDoor
