/-
  An abstract machine over the kit's Code.wp, and its soundness: part 29, a nil slice is a row of its own, of no length.
-/
import Derived.Test.YtdpimgmjoecieaaA26
namespace Go.Proofs.Ytdpimgmjoecieaa
namespace AM
set_option linter.unusedVariables false
set_option linter.unusedSimpArgs false

theorem Gam.nilRow {C : Cx} {sl : Nat → AV} {bx : Nat → Bx} {g : Gh} {a : Act} {w : World} (h : Gam C sl bx g a w) {b : Nat} (hb : bx b = .none) (c : SC) (hc : c.len = 0) (e : TypeId) :
    Gam C sl (upd bx b (.row e c)) (g.setR b 0 (.slice none 0 0)) a w ∧ g.le (g.setR b 0 (.slice none 0 0)) := by
  have hbx := h.bxs b
  rw [hb] at hbx
  obtain ⟨b1, b2⟩ := hbx
  have hle : g.le (g.setR b 0 (.slice none 0 0)) := ⟨fun _ _ h => h, fun b' n v hk => by
    by_cases e : b' = b
    · subst e; rw [b2] at hk; cases hk
    · simp only [Gh.setR]; rw [upd_other _ _ e]; exact hk⟩
  refine ⟨h.one b _ hle (fun b' e => ⟨rfl, fun n => by simp only [Gh.setR]; rw [upd_other _ _ e]⟩) (fun k hk _ => rfl) rfl rfl rfl (Nat.le_refl _) ⟨b1, fun n hn => ?_, .inl ⟨hc, by simp [Gh.setR]⟩⟩ (fun k hk => ?_), hle⟩
  · simp only [Gh.setR, upd_same]
    rw [upd_other _ _ (by omega)]; exact b2 n
  · simp only [AliveX, hc, Gh.setR, upd_same] at hk
    obtain ⟨_, hk⟩ := hk; cases hk

/-- The nil slices in these slots become rows. -/
def lifts : List (Nat × TypeId × SC) → St → St
  | [], s => s
  | (d, e, c) :: r, s => lifts r ⟨putE s.env d (.ref s.bx.length 0), s.bx ++ [.row e c]⟩
def isNil : AV → Bool
  | .nil => true
  | _ => false
def okLifts : List (Nat × TypeId × SC) → St → Bool
  | [], _ => true
  | (d, e, c) :: r, s => isNil (getE s.env d) && c.len == 0 && okLifts r ⟨putE s.env d (.ref s.bx.length 0), s.bx ++ [.row e c]⟩

theorem getB_snoc (l : List Bx) (x : Bx) (k : Nat) : getB (l ++ [x]) k = if k = l.length then x else getB l k := by
  induction l generalizing k with
  | nil => cases k <;> simp [getB]
  | cons y r ih =>
    cases k with
    | zero => simp [getB]
    | succ k => simp only [List.cons_append, getB, ih, List.length_cons]; by_cases h : k = r.length <;> simp [h]

theorem Holds.lift1 {C : Cx} {s : St} {a : Act} {w : World} {d : Nat} {e : TypeId} {c : SC} (h : Holds C s a w) (hd : getE s.env d = .nil) (hc : c.len = 0) :
    Holds C ⟨putE s.env d (.ref s.bx.length 0), s.bx ++ [.row e c]⟩ a w := by
  obtain ⟨g, h⟩ := h
  have hn : s.bf s.bx.length = .none := getB_none (Nat.le_refl _)
  obtain ⟨h', hle⟩ := h.nilRow hn c hc e
  have hb : upd s.bf s.bx.length (.row e c) = (St.mk (putE s.env d (.ref s.bx.length 0)) (s.bx ++ [.row e c])).bf := by
    funext k
    simp only [St.bf, upd, getB_snoc]
  rw [hb] at h'
  refine ⟨_, { h' with sls := fun t => ?_ }⟩
  have ht := h'.sls t
  simp only [St.sl] at ht ⊢
  rw [getE_put]
  by_cases e : t = d
  · subst e
    rw [hd] at ht
    simp only [Rel] at ht
    rw [if_pos rfl, ht]
    simp [Rel, Gh.setR]
  · rw [if_neg e]; exact ht

theorem Holds.lifts {C : Cx} {a : Act} {w : World} : ∀ (ls : List (Nat × TypeId × SC)) {s : St}, Holds C s a w → okLifts ls s = true → Holds C (lifts ls s) a w
  | [], s, h, _ => h
  | (d, e, c) :: r, s, h, ho => by
    simp only [okLifts, Bool.and_eq_true, beq_iff_eq] at ho
    refine Holds.lifts r (h.lift1 ?_ ho.1.2) ho.2
    have := ho.1.1
    cases hv : getE s.env d <;> rw [hv] at this <;> first | rfl | simp [isNil] at this

end AM
end Go.Proofs.Ytdpimgmjoecieaa
