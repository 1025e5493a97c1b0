/-
  An abstract machine over the kit's Code.wp, and its soundness: part 23, regions in any order: one operation's effect.
-/
import Derived.Test.YtbookhehpebcmaaGreatDoorA22
namespace Go.Proofs.YtbookhehpebcmaaGreatDoor
namespace AM
set_option linter.unusedVariables false
set_option linter.unusedSimpArgs false

/-- One operation's effect: carried out or not; the number for a new block; what it yields, what is kept of it; the blocks that turn; the blocks that were looked at. -/
structure Eff where
  run : Bool
  c : Nat
  v0 : AV
  v : AV
  u : List (Nat × Bx)
  ac : List Nat

abbrev Sg := (Nat → AV) × (Nat → Bx)
def appE (o : Oper) (e : Eff) (σ : Sg) : Sg := (putS σ.1 o.dst e.v, updsF σ.2 e.u)

/-- What the guard says. -/
def gOk (all : List Oper) (o : Oper) (sl : Nat → AV) (run : Bool) : Prop :=
  match o.guard with
  | none => run = true
  | some g => ∃ d, nth all g.1 = some d ∧ ((sl d = .tt ∧ run = g.2) ∨ (sl d = .ff ∧ run = !g.2) ∨ (sl d = .skip ∧ run = false))

def litR (v0 v : AV) : Prop := v = v0 ∨ (v0 = .bool true ∧ v = .tt) ∨ (v0 = .bool false ∧ v = .ff)

def Fact (P : Program) (l : FuncId → List Nat) (all : List Oper) (o : Oper) (e : Eff) (σ : Sg) : Prop :=
  gOk all o σ.1 e.run ∧
    ((e.run = true ∧ (∀ K : Kt, K e.v0 e.u e.ac → aop P (Gx P l) e.c (evF σ.1) σ.2 o.op K) ∧ litR e.v0 e.v ∧ (∀ p ∈ e.u, p.1 ∈ e.ac) ∧ ∀ p ∈ e.u, e.c ≤ p.1 → σ.2 p.1 = .none) ∨
     (e.run = false ∧ e.v = .skip ∧ e.u = []))

theorem Gx_ok {P : Program} {l : FuncId → List Nat} : (Gx P l).ok P := fun _ _ _ _ h => h

/-- A state, by what its slots and its blocks are. -/
def HoldsF (C : Cx) (σ : Sg) (a : Act) (w : World) : Prop := ∃ g, Gam C σ.1 σ.2 g a w

theorem lit_rel {v0 v : AV} (h : litR v0 v) {w : World} {M F : Nat → Prop} {g : Gh} {args : List Value} {x : Value} (hx : Rel w M F g args v0 x) : Rel w M F g args v x := by
  rcases h with rfl | ⟨rfl, rfl⟩ | ⟨rfl, rfl⟩
  · exact hx
  · simp only [Rel] at hx ⊢; exact hx
  · simp only [Rel] at hx ⊢; exact hx

theorem HoldsF.of {C : Cx} {s : St} {a : Act} {w : World} : Holds C s a w ↔ HoldsF C (s.sl, s.bf) a w := Iff.rfl

theorem gOk_wanted {C : Cx} {all : List Oper} {o : Oper} {σ : Sg} {run : Bool} (hg : gOk all o σ.1 run) {a : Act} {w : World} (h : HoldsF C σ a w) : Region.wanted o (yielded all.toArray a.tmps) = run := by
  unfold gOk at hg
  obtain ⟨g, h⟩ := h
  split at hg
  · rename_i hn; simp only [Region.wanted, hn, hg]
  · rename_i gd hgd
    obtain ⟨d, hd, hc⟩ := hg
    have ht := h.sls d
    have e : a.tmps.getD d undef = (a.tmps[d]?).getD undef := by simp [Array.getD_eq_getD_getElem?]
    rw [e] at ht
    obtain ⟨j, want⟩ := gd
    simp only at hd hc
    rcases hc with ⟨hs, hr⟩ | ⟨hs, hr⟩ | ⟨hs, hr⟩ <;> rw [hs] at ht <;> simp only [Rel] at ht
    · have e2 : a.tmps[d]? = some (.bool true) := by
        cases hx : a.tmps[d]? with
        | none => rw [hx] at ht; cases ht
        | some v => rw [hx] at ht; simp at ht; rw [ht]
      simp only [Region.wanted, hgd, yielded_nth hd, e2, hr]; cases want <;> rfl
    · have e2 : a.tmps[d]? = some (.bool false) := by
        cases hx : a.tmps[d]? with
        | none => rw [hx] at ht; cases ht
        | some v => rw [hx] at ht; simp at ht; rw [ht]
      simp only [Region.wanted, hgd, yielded_nth hd, e2, hr]; cases want <;> rfl
    · simp only [Region.wanted, hgd, yielded_nth hd, hr]
      cases hx : a.tmps[d]? with
      | none => cases want <;> rfl
      | some v => rw [hx] at ht; simp at ht; subst ht; cases want <;> rfl

theorem fact_sim {P : Program} {C : Cx} {l : FuncId → List Nat} {all : List Oper} {o : Oper} {e : Eff} {σ : Sg} (hf : Fact P l all o e σ) {a : Act} {w : World} (h : HoldsF C σ a w) (hd : ∀ d, o.dst = some d → d < C.N)
    {next : Act → World → Prop} {Q : Exit → Act → World → Prop} (hnext : ∀ a' w', HoldsF C (appE o e σ) a' w' → next a' w') :
    if Region.wanted o (yielded all.toArray a.tmps) then o.wp P a w next Q else next (a.put o.dst undef) w := by
  rw [gOk_wanted hf.1 h]
  obtain ⟨g, h⟩ := h
  rcases hf.2 with ⟨hr, hop, hl, hu, hn⟩ | ⟨hr, hv, hu⟩
  · rw [hr, if_pos rfl]
    obtain ⟨v, us, ac, ⟨rfl, rfl, rfl⟩, hsim⟩ := op_sim Gx_ok h o hd (hop (fun v u ac => v = e.v0 ∧ u = e.u ∧ ac = e.ac) ⟨rfl, rfl, rfl⟩)
    refine hsim hn next Q fun a' w' g' hG => hnext a' w' ⟨g', { hG with sls := fun t => ?_ }⟩
    have := hG.sls t
    simp only [appE] at this ⊢
    cases hdst : o.dst with
    | none => rw [hdst] at this; exact this
    | some d =>
      rw [hdst] at this
      simp only [putS] at this ⊢
      by_cases ht : t = d
      · subst ht; rw [upd_same] at this ⊢; exact lit_rel hl this
      · rw [upd_other _ _ ht] at this ⊢; exact this
  · rw [hr, if_neg Bool.false_ne_true]
    refine hnext _ _ ⟨g, ?_⟩
    simp only [appE, hv, hu, updsF]
    exact h.put o.dst hd (by simp only [Rel])

end AM
end Go.Proofs.YtbookhehpebcmaaGreatDoor
