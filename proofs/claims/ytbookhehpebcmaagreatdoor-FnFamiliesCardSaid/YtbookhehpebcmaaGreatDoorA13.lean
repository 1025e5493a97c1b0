/-
  An abstract machine over the kit's Code.wp, and its soundness: part 13, what comes back from a call.
-/
import Derived.Test.YtbookhehpebcmaaGreatDoorA12
namespace Go.Proofs.YtbookhehpebcmaaGreatDoor
namespace AM
set_option linter.unusedVariables false
set_option linter.unusedSimpArgs false

def inv (sel : List Nat) (c m : Nat) (b : Nat) : Option Nat := (List.range m).find? fun i => mp sel c i == b

theorem inv_some {sel : List Nat} {c m b i : Nat} (h : inv sel c m b = some i) : i < m ∧ mp sel c i = b := by
  unfold inv at h
  refine ⟨by simpa using List.mem_of_find?_eq_some h, by simpa using List.find?_some h⟩

theorem inv_none {sel : List Nat} {c m b : Nat} (h : inv sel c m b = none) : ∀ i, i < m → mp sel c i ≠ b := by
  unfold inv at h
  intro i hi
  simpa using List.find?_eq_none.1 h i (by simpa using hi)

/-- The ghost behind a call. -/
def outGh (g g' : Gh) (sel : List Nat) (c m : Nat) : Gh where
  gh b n := match inv sel c m b with | some i => g'.gh i n | none => g.gh b n
  bb b := match inv sel c m b with | some i => g'.bb i | none => g.bb b
  gi b k := match inv sel c m b with | some i => g'.gi i k | none => g.gi b k
  one b n v h := by
    split at h
    · exact g'.one _ _ _ h
    · exact g.one _ _ _ h

theorem mp_lt {sel : List Nat} {c i : Nat} (h : i < sel.length) : sel[i]? = some (mp sel c i) := by
  unfold mp; rw [if_pos h, List.getD_eq_getElem?_getD, List.getElem?_eq_getElem h]; rfl
theorem mp_ge {sel : List Nat} {c i : Nat} (h : sel.length ≤ i) : mp sel c i = c + (i - sel.length) := by
  unfold mp; rw [if_neg (by omega)]

theorem mp_inj {sel : List Nat} {c : Nat} (hn : sel.Nodup) (hlt : ∀ b ∈ sel, b < c) {i j : Nat} (h : mp sel c i = mp sel c j) : i = j := by
  by_cases hi : i < sel.length <;> by_cases hj : j < sel.length
  · have h1 := mp_lt (c := c) hi
    have h2 := mp_lt (c := c) hj
    rw [h] at h1
    rw [List.getElem?_eq_getElem hi] at h1
    rw [List.getElem?_eq_getElem hj] at h2
    have : sel[i] = sel[j] := by rw [Option.some.injEq] at h1 h2; rw [h1, h2]
    have hp := List.pairwise_iff_getElem.1 hn
    rcases Nat.lt_trichotomy i j with hlt | heq | hgt
    · exact absurd this (hp i j hi hj hlt)
    · exact heq
    · exact absurd this.symm (hp j i hj hi hgt)
  · have h1 := List.mem_of_getElem? (mp_lt (c := c) hi)
    have := hlt _ h1
    rw [h, mp_ge (by omega)] at this; omega
  · have h1 := List.mem_of_getElem? (mp_lt (c := c) hj)
    have := hlt _ h1
    rw [← h, mp_ge (by omega)] at this; omega
  · rw [mp_ge (by omega), mp_ge (by omega)] at h; omega

theorem updsF_outU {sel : List Nat} {c : Nat} {avs : List AV} (hinj : ∀ i j, mp sel c i = mp sel c j → i = j) : ∀ (outs : List Bx) (i0 : Nat) (bx : Nat → Bx),
    (∀ j x, outs[j]? = some x → updsF bx (outU sel c avs i0 outs) (mp sel c (i0 + j)) = outB sel c avs x) ∧ ∀ b, (∀ j, j < outs.length → mp sel c (i0 + j) ≠ b) → updsF bx (outU sel c avs i0 outs) b = bx b
  | [], i0, bx => ⟨by simp, fun _ _ => rfl⟩
  | x :: r, i0, bx => by
    obtain ⟨h1, h2⟩ := updsF_outU hinj r (i0 + 1) (upd bx (mp sel c i0) (outB sel c avs x))
    simp only [outU, updsF]
    refine ⟨fun j y hy => ?_, fun b hb => ?_⟩
    · cases j with
      | zero =>
        simp at hy; subst hy
        rw [show i0 + 0 = i0 from rfl, h2 _ (fun j hj e => by have := hinj _ _ e; omega), upd_same]
      | succ j =>
        have := h1 j y (by simpa using hy)
        rwa [show i0 + 1 + j = i0 + (j + 1) from by omega] at this
    · rw [h2 b (fun j hj => by have := hb (j + 1) (by simpa using hj); rwa [show i0 + (j + 1) = i0 + 1 + j from by omega] at this)]
      exact upd_other _ _ (fun e => hb 0 (by simp) (by rw [Nat.add_zero]; exact e.symm))

theorem getB_some {l : List Bx} {i : Nat} {x : Bx} (h : l[i]? = some x) : getB l i = x := by
  induction l generalizing i with
  | nil => simp at h
  | cons y r ih => cases i with
    | zero => simp at h; simp [getB, h]
    | succ i => simp at h; simp only [getB]; exact ih h

theorem getB_none {l : List Bx} {i : Nat} (h : l.length ≤ i) : getB l i = .none := by
  induction l generalizing i with
  | nil => rfl
  | cons y r ih => cases i with
    | zero => simp at h
    | succ i => simp only [getB]; exact ih (by simpa using h)

section
variable {w w' : World} {M1 F1 M2 F2 : Nat → Prop} {g' g2 : Gh} {vals args2 : List Value} {sel : List Nat} {c m : Nat} {avs : List AV}

theorem Shape.out (hkey : ∀ k, F1 k → ¬ M1 k → ¬ M2 k ∧ F2 k) {e : TypeId} {v : Value} (h : Shape w' M1 F1 e v) : Shape w' M2 F2 e v := by
  rcases h with h | ⟨k, n, cap, cur, h1, h2, h3, h4, h5⟩
  · exact .inl h
  · exact .inr ⟨k, n, cap, cur, h1, h2, h3, (hkey k h4 h5).2, (hkey k h4 h5).1⟩

theorem CellIs.out (hkey : ∀ k, F1 k → ¬ M1 k → ¬ M2 k ∧ F2 k) {e : TypeId} {a : Option Addr} {n cap i : Nat} {u : Value} (hs : Shape w' M1 F1 e (.slice a n cap)) (h : CellIs w' M1 a i u) : CellIs w' M2 a i u := by
  obtain ⟨ad, rfl, hsp, hm, hc⟩ := h
  rcases hs with h | ⟨k, n, cap, cur, h1, h2, h3, h4, h5⟩
  · cases h
  · cases h1; exact ⟨_, rfl, rfl, (hkey k h4 h5).1, hc⟩

theorem ElR.out (hkey : ∀ k, F1 k → ¬ M1 k → ¬ M2 k ∧ F2 k) {c : SC} (hc : okC c = true) {i : Nat} {u : Value} (h : ElR w' M1 F1 c i u) : ElR w' M2 F2 c i u := by
  cases c
  case ints => exact h
  case strs => exact h
  case rows fr xss =>
    cases fr
    case none => simp [okC] at hc
    case some e =>
      simp only [ElR] at h ⊢
      obtain ⟨⟨a, cap, rfl, h1, h2, h3⟩, hs⟩ := h
      exact ⟨⟨a, cap, rfl, h1, h2, fun i hi => CellIs.out hkey hs (h3 i hi)⟩, Shape.out hkey hs⟩

theorem Vw.out (hkey : ∀ k, F1 k → ¬ M1 k → ¬ M2 k ∧ F2 k) {e : TypeId} {c : SC} (hc : okC c = true) {v : Value} (h : Vw w' M1 F1 (some e) v c) : Vw w' M2 F2 (some e) v c := by
  obtain ⟨⟨a, cap, rfl, h1, h2, h3⟩, hs⟩ := h
  refine ⟨⟨a, cap, rfl, h1, h2, fun i hi => ?_⟩, Shape.out hkey hs⟩
  obtain ⟨u, hc', he⟩ := h3 i hi
  exact ⟨u, CellIs.out hkey hs hc', ElR.out hkey hc he⟩

mutual
theorem out_rel (hkey : ∀ k, F1 k → ¬ M1 k → ¬ M2 k ∧ F2 k) (hgh : ∀ i n v, g'.gh i n = some v → g2.gh (mp sel c i) n = some v) (hbb : ∀ i k, g'.bb i = some k → g2.bb (mp sel c i) = some k)
    (havs : ∀ k v, vals[k]? = some v → Rel w' M2 F2 g2 args2 (avs.getD k .undef) v) : ∀ (x : AV) (v : Value), okA x = true → Rel w' M1 F1 g' vals x v → Rel w' M2 F2 g2 args2 (outA sel c avs x) v
  | .sl fr d, v, hok, h => by
    cases fr
    case none => simp [okA] at hok
    case some e =>
      simp only [okA] at hok; simp only [Rel] at h; simp only [outA, Rel]
      exact Vw.out hkey hok h
  | .prm k d, v, hok, h => by simp only [Rel] at h; simp only [outA]; exact havs k v h.2
  | .ref i n, v, hok, h => by simp only [Rel] at h; simp only [outA, Rel]; exact hgh i n v h
  | .ptr i off, v, hok, h => by simp only [Rel] at h; obtain ⟨k, hk, rfl⟩ := h; simp only [outA, Rel]; exact ⟨k, hbb i k hk, rfl⟩
  | .agg xs, v, hok, h => by
    simp only [okA] at hok; simp only [Rel] at h; simp only [outA, Rel]
    obtain ⟨us, rfl, hr⟩ := h
    exact ⟨us, rfl, outL_rel hkey hgh hbb havs xs us hok hr⟩
  | .tup xs, v, hok, h => by
    simp only [okA] at hok; simp only [Rel] at h; simp only [outA, Rel]
    obtain ⟨us, rfl, hr⟩ := h
    exact ⟨us, rfl, outL_rel hkey hgh hbb havs xs us hok hr⟩
  | .int k n, v, hok, h => by simp only [Rel] at h; simp only [outA, Rel]; exact h
  | .bool b, v, hok, h => by simp only [Rel] at h; simp only [outA, Rel]; exact h
  | .tt, v, hok, h => by simp only [Rel] at h; simp only [outA, Rel]; exact h
  | .ff, v, hok, h => by simp only [Rel] at h; simp only [outA, Rel]; exact h
  | .str s, v, hok, h => by simp only [Rel] at h; simp only [outA, Rel]; exact h
  | .nil, v, hok, h => by simp only [Rel] at h; simp only [outA, Rel]; exact h
  | .undef, v, hok, h => by simp [okA] at hok
  | .skip, v, hok, h => by simp [okA] at hok
  | .rp b n i, v, hok, h => by simp [okA] at hok
  | .ep x, v, hok, h => by simp [okA] at hok
  | .pv cs off, v, hok, h => by simp [okA] at hok
  | .clo f caps, v, hok, h => by
    simp only [okA] at hok; simp only [Rel] at h; simp only [outA, Rel]
    obtain ⟨us, rfl, hr⟩ := h
    exact ⟨us, rfl, outL_rel hkey hgh hbb havs caps us hok hr⟩
theorem outL_rel (hkey : ∀ k, F1 k → ¬ M1 k → ¬ M2 k ∧ F2 k) (hgh : ∀ i n v, g'.gh i n = some v → g2.gh (mp sel c i) n = some v) (hbb : ∀ i k, g'.bb i = some k → g2.bb (mp sel c i) = some k)
    (havs : ∀ k v, vals[k]? = some v → Rel w' M2 F2 g2 args2 (avs.getD k .undef) v) : ∀ (xs : List AV) (us : List Value), okL xs = true → RelL w' M1 F1 g' vals xs us → RelL w' M2 F2 g2 args2 (outL sel c avs xs) us
  | [], us, hok, h => by simp only [RelL] at h; simp only [outL, RelL]; exact h
  | x :: r, us, hok, h => by
    simp only [okL, Bool.and_eq_true] at hok
    simp only [RelL] at h
    obtain ⟨u, us', rfl, hx, hr⟩ := h
    simp only [outL]
    exact RelL.cons (out_rel hkey hgh hbb havs x u hok.1 hx) (outL_rel hkey hgh hbb havs r us' hok.2 hr)
end

theorem outB_rel (hkey : ∀ k, F1 k → ¬ M1 k → ¬ M2 k ∧ F2 k) (hgh : ∀ i n v, g'.gh i n = some v → g2.gh (mp sel c i) n = some v) (hbb : ∀ i k, g'.bb i = some k → g2.bb (mp sel c i) = some k)
    (havs : ∀ k v, vals[k]? = some v → Rel w' M2 F2 g2 args2 (avs.getD k .undef) v) {i : Nat} (hgh' : ∀ n, g2.gh (mp sel c i) n = g'.gh i n) (hbb' : g2.bb (mp sel c i) = g'.bb i) {x : Bx} (hok : okBx x = true)
    (hgi' : ∀ k, g2.gi (mp sel c i) k ↔ g'.gi i k) (hF : ∀ k, AliveX g' i x k → F1 k → F2 k) (h : BxR w' M1 F1 g' vals i x) : BxR w' M2 F2 g2 args2 (mp sel c i) (outB sel c avs x) := by
  cases x
  case none => simp [okBx] at hok
  case dbox => simp [okBx] at hok
  case drow => simp [okBx] at hok
  case gone => trivial
  case grid e t xss =>
    obtain ⟨h1, h2, h3, v, hv, h4⟩ := h
    have e1 : g2.gi (mp sel c i) = g'.gi i := funext fun k => propext (hgi' k)
    refine ⟨by rw [hbb']; exact h1, fun n hn => by rw [hgh']; exact h2 n hn, fun k hk => ?_, v, by rw [hgh']; exact hv, ?_⟩
    · rw [e1] at hk; exact ⟨(h3 k hk).1, hF k hk (h3 k hk).2⟩
    · rw [e1]; exact h4
  case box cells =>
    simp only [okBx] at hok
    obtain ⟨h1, k, cur, e, hk, hh, hr⟩ := h
    exact ⟨fun n => by rw [hgh']; exact h1 n, k, cur, e, by rw [hbb']; exact hk, hh, outL_rel hkey hgh hbb havs cells _ hok hr⟩
  case row e d =>
    simp only [okBx] at hok
    obtain ⟨h1, h2, h3⟩ := h
    refine ⟨by rw [hbb']; exact h1, fun n hn => by rw [hgh']; exact h2 n hn, ?_⟩
    rcases h3 with ⟨h0, hn⟩ | ⟨k, cap, cur, hv, hh, a1, a2, a3, a4, a5⟩
    · exact .inl ⟨h0, by rw [hgh']; exact hn⟩
    · exact .inr ⟨k, cap, cur, by rw [hgh']; exact hv, hh, a1, a2, a3, hF k ⟨cap, hv⟩ a4, fun j hj => let ⟨u, hu, he⟩ := a5 j hj; ⟨u, hu, ElR.out hkey hok he⟩⟩
end

end AM
end Go.Proofs.YtbookhehpebcmaaGreatDoor
