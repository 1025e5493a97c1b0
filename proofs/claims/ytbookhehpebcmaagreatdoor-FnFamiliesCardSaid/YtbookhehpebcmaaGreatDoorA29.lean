/-
  An abstract machine over the kit's Code.wp, and its soundness: part 29, a nil slice is a row of its own, of no length.
-/
import Derived.Test.YtbookhehpebcmaaGreatDoorA26
namespace Go.Proofs.YtbookhehpebcmaaGreatDoor
namespace AM
set_option linter.unusedVariables false
set_option linter.unusedSimpArgs false

theorem Gam.nilRow {C : Cx} {sl : Nat → AV} {bx : Nat → Bx} {g : Gh} {a : Act} {w : World} (h : Gam C sl bx g a w) {b : Nat} (hb : bx b = .none) (c : SC) (hc : c.len = 0) (e : TypeId) :
    Gam C sl (upd bx b (.row e c)) (g.setR b 0 (.slice none 0 0)) a w ∧ g.le (g.setR b 0 (.slice none 0 0)) := by
  have hbx := h.bxs b
  rw [hb] at hbx
  obtain ⟨b1, b2⟩ := hbx
  have hle : g.le (g.setR b 0 (.slice none 0 0)) := ⟨fun _ _ h => h, fun b' n v hk => by
    by_cases e : b' = b
    · subst e; rw [b2] at hk; cases hk
    · simp only [Gh.setR]; rw [upd_other _ _ e]; exact hk⟩
  refine ⟨h.one b _ hle (fun b' e => ⟨rfl, fun n => by simp only [Gh.setR]; rw [upd_other _ _ e]⟩) (fun k hk _ => rfl) rfl rfl rfl (Nat.le_refl _) ⟨b1, fun n hn => ?_, .inl ⟨hc, by simp [Gh.setR]⟩⟩ (fun k hk => ?_), hle⟩
  · simp only [Gh.setR, upd_same]
    rw [upd_other _ _ (by omega)]; exact b2 n
  · simp only [AliveX, hc, Gh.setR, upd_same] at hk
    obtain ⟨_, hk⟩ := hk; cases hk

theorem Gam.nilCell {C : Cx} {sl : Nat → AV} {bx : Nat → Bx} {g : Gh} {a : Act} {w : World} (h : Gam C sl bx g a w) {b off n : Nat} {cells : List AV} (hb : bx b = .box cells) (ho : cells[off]? = some .nil) (hn : g.gh n 0 = some (.slice none 0 0)) :
    Gam C sl (upd bx b (.box (cells.set off (.ref n 0)))) g a w := by
  have alive : ∀ b' k, AliveB g (upd bx b (.box (cells.set off (.ref n 0)))) b' k ↔ AliveB g bx b' k := fun b' k => by
    unfold AliveB
    by_cases e : b' = b
    · subst e; rw [upd_same, hb]; simp only [AliveX]
    · rw [upd_other _ _ e]
  have hM : Mut g (upd bx b (.box (cells.set off (.ref n 0)))) = Mut g bx := by
    funext k; apply propext
    exact ⟨fun ⟨b', hb'⟩ => ⟨b', (alive b' k).1 hb'⟩, fun ⟨b', hb'⟩ => ⟨b', (alive b' k).2 hb'⟩⟩
  refine { h with sls := fun t => by rw [hM]; exact h.sls t, bxs := fun b' => ?_, excl := fun b1 b2 k h1 h2 => h.excl b1 b2 k ((alive b1 k).1 h1) ((alive b2 k).1 h2), own := fun b' k hk => h.own b' k ((alive b' k).1 hk) }
  rw [hM]
  by_cases e : b' = b
  · subst e
    rw [upd_same]
    have hx := h.bxs b'
    rw [hb] at hx
    obtain ⟨h1, k, cur, e, h2, h3, h4⟩ := hx
    refine ⟨h1, k, cur, e, h2, h3, ?_⟩
    have hlen := h4.length
    have hlt : off < cells.length := (List.getElem?_eq_some_iff.1 ho).1
    have hu : cur.toList[off]? = some (cur.toList[off]'(by omega)) := List.getElem?_eq_getElem _
    have hr := h4.get hu
    rw [List.getD_eq_getElem?_getD, ho] at hr
    simp only [Option.getD_some, Rel] at hr
    have := h4.set off (x := .ref n 0) (u := cur.toList[off]'(by omega)) (by simp only [Rel]; rw [hr]; exact hn)
    rwa [List.set_getElem_self] at this
  · rw [upd_other _ _ e]; exact h.bxs b'

/-- The nil slices in these slots become rows (or in a variable's cell: 1000000 + 1000 * block + place). -/
def isNil : AV → Bool
  | .nil => true
  | _ => false
def cellsOfB : Bx → List AV
  | .box cs => cs
  | _ => []
/-- A row becomes a lasting view. -/
def killB : Bx → Bx
  | .row e c => .drow e c
  | x => x
def isRowB : Bx → Bool
  | .row _ _ => true
  | _ => false
def liftK (b : Nat) (s : St) : St := ⟨s.env, setB s.bx b (killB (getB s.bx b))⟩
def okLiftK (b : Nat) (s : St) : Bool := decide (b < s.bx.length) && isRowB (getB s.bx b)
def liftC (d : Nat) (e : TypeId) (c : SC) (s : St) : St :=
  ⟨s.env, setB s.bx ((d - 1000000) / 1000) (.box ((cellsOfB (getB s.bx ((d - 1000000) / 1000))).set ((d - 1000000) % 1000) (.ref s.bx.length 0))) ++ [.row e c]⟩
def okLiftC (d : Nat) (s : St) : Bool :=
  decide ((d - 1000000) / 1000 < s.bx.length) && (match getB s.bx ((d - 1000000) / 1000) with | .box cs => (match cs[(d - 1000000) % 1000]? with | some x => isNil x | none => false) | _ => false)
def liftOne (d : Nat) (e : TypeId) (c : SC) (s : St) : St :=
  if d < 1000000 then ⟨putE s.env d (.ref s.bx.length 0), s.bx ++ [.row e c]⟩
  else if d < 3000000 then liftC d e c s
  else liftK (d - 3000000) s
def okLift1 (d : Nat) (s : St) : Bool :=
  if d < 1000000 then isNil (getE s.env d)
  else if d < 3000000 then okLiftC d s
  else okLiftK (d - 3000000) s
def lifts : List (Nat × TypeId × SC) → St → St
  | [], s => s
  | (d, e, c) :: r, s => lifts r (liftOne d e c s)
def okLifts : List (Nat × TypeId × SC) → St → Bool
  | [], _ => true
  | (d, e, c) :: r, s => okLift1 d s && c.len == 0 && okLifts r (liftOne d e c s)
theorem isNil_eq {x : AV} (h : isNil x = true) : x = .nil := by cases x <;> first | rfl | simp [isNil] at h

theorem getB_snoc (l : List Bx) (x : Bx) (k : Nat) : getB (l ++ [x]) k = if k = l.length then x else getB l k := by
  induction l generalizing k with
  | nil => cases k <;> simp [getB]
  | cons y r ih =>
    cases k with
    | zero => simp [getB]
    | succ k => simp only [List.cons_append, getB, ih, List.length_cons]; by_cases h : k = r.length <;> simp [h]

theorem Holds.lift1 {C : Cx} {s : St} {a : Act} {w : World} {d : Nat} {e : TypeId} {c : SC} (h : Holds C s a w) (hd : getE s.env d = .nil) (hc : c.len = 0) :
    Holds C ⟨putE s.env d (.ref s.bx.length 0), s.bx ++ [.row e c]⟩ a w := by
  obtain ⟨g, h⟩ := h
  have hn : s.bf s.bx.length = .none := getB_none (Nat.le_refl _)
  obtain ⟨h', hle⟩ := h.nilRow hn c hc e
  have hb : upd s.bf s.bx.length (.row e c) = (St.mk (putE s.env d (.ref s.bx.length 0)) (s.bx ++ [.row e c])).bf := by
    funext k
    simp only [St.bf, upd, getB_snoc]
  rw [hb] at h'
  refine ⟨_, { h' with sls := fun t => ?_ }⟩
  have ht := h'.sls t
  simp only [St.sl] at ht ⊢
  rw [getE_put]
  by_cases e : t = d
  · subst e
    rw [hd] at ht
    simp only [Rel] at ht
    rw [if_pos rfl, ht]
    simp [Rel, Gh.setR]
  · rw [if_neg e]; exact ht

theorem setB_len : ∀ (l : List Bx) (n : Nat) (x : Bx), n < l.length → (setB l n x).length = l.length
  | [], n, _, h => by simp at h
  | _ :: r, 0, _, _ => rfl
  | _ :: r, n + 1, x, h => by simp only [setB, List.length_cons]; rw [setB_len r n x (by simpa using h)]

theorem Holds.liftC {C : Cx} {s : St} {a : Act} {w : World} {b off : Nat} {e : TypeId} {c : SC} {cs : List AV} (h : Holds C s a w) (hlt : b < s.bx.length) (hb : getB s.bx b = .box cs) (ho : cs[off]? = some .nil) (hc : c.len = 0) :
    Holds C ⟨s.env, setB s.bx b (.box (cs.set off (.ref s.bx.length 0))) ++ [.row e c]⟩ a w := by
  obtain ⟨g, h⟩ := h
  have hn : s.bf s.bx.length = .none := getB_none (Nat.le_refl _)
  obtain ⟨h', hle⟩ := h.nilRow hn c hc e
  have hb' : upd s.bf s.bx.length (.row e c) b = .box cs := by rw [upd_other _ _ (by omega)]; exact hb
  have h2 := h'.nilCell hb' ho (n := s.bx.length) (by simp [Gh.setR])
  have e2 : upd (upd s.bf s.bx.length (.row e c)) b (.box (cs.set off (.ref s.bx.length 0))) = (St.mk s.env (setB s.bx b (.box (cs.set off (.ref s.bx.length 0))) ++ [.row e c])).bf := by
    funext k
    simp only [St.bf, getB_snoc, setB_len _ _ _ hlt, upd, getB_set]
    by_cases e1 : k = b
    · rw [if_pos e1, if_neg (by omega), if_pos e1]
    · rw [if_neg e1, if_neg e1]
  rw [e2] at h2
  exact ⟨_, h2⟩

theorem Holds.liftK {C : Cx} {s : St} {a : Act} {w : World} {b : Nat} (h : Holds C s a w) (hk : okLiftK b s = true) : Holds C (liftK b s) a w := by
  simp only [okLiftK, Bool.and_eq_true, decide_eq_true_eq] at hk
  obtain ⟨hlt, hr⟩ := hk
  unfold AM.liftK
  cases hb : getB s.bx b with
  | row e' c' =>
    obtain ⟨g, h⟩ := h
    have h2 := h.kill (b := b) (e := e') (c := c') hb
    refine ⟨g, ?_⟩
    have e2 : upd s.bf b (.drow e' c') = (St.mk s.env (setB s.bx b (killB (.row e' c')))).bf := by
      funext k
      simp only [St.bf, killB, getB_set, upd]
    rw [← e2]
    exact h2
  | _ => rw [hb] at hr; cases hr

theorem Holds.liftCell {C : Cx} {s : St} {a : Act} {w : World} {d : Nat} {e : TypeId} {c : SC} (h : Holds C s a w) (h1 : okLiftC d s = true) (hc : c.len = 0) : Holds C (AM.liftC d e c s) a w := by
  simp only [okLiftC, Bool.and_eq_true, decide_eq_true_eq] at h1
  obtain ⟨hlt, h1⟩ := h1
  unfold AM.liftC
  split at h1
  · rename_i cs hb
    split at h1
    · rename_i x hx
      have := isNil_eq h1
      subst this
      rw [hb]
      exact h.liftC hlt hb hx hc
    · cases h1
  · cases h1

theorem Holds.lifts {C : Cx} {a : Act} {w : World} : ∀ (ls : List (Nat × TypeId × SC)) {s : St}, Holds C s a w → okLifts ls s = true → Holds C (lifts ls s) a w
  | [], s, h, _ => h
  | (d, e, c) :: r, s, h, ho => by
    simp only [okLifts, Bool.and_eq_true, beq_iff_eq] at ho
    refine Holds.lifts r ?_ ho.2
    have h1 := ho.1.1
    unfold okLift1 at h1
    unfold liftOne
    split at h1
    · rename_i hd
      rw [if_pos hd]
      exact h.lift1 (isNil_eq h1) ho.1.2
    · rename_i hd
      rw [if_neg hd]
      split at h1
      · rename_i hk
        rw [if_pos hk]
        exact h.liftCell h1 ho.1.2
      · rename_i hk
        rw [if_neg hk]
        exact h.liftK h1

end AM
end Go.Proofs.YtbookhehpebcmaaGreatDoor
