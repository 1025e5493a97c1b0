/-
  An abstract machine over the kit's Code.wp, and its soundness: part 16, regions in the text's order, and code.
-/
import Derived.Test.YtbookhehpebcmaaGreatDoorA15
namespace Go.Proofs.YtbookhehpebcmaaGreatDoor
namespace AM
set_option linter.unusedVariables false
set_option linter.unusedSimpArgs false

def St.sl (s : St) : Nat → AV := getE s.env
def St.bf (s : St) : Nat → Bx := getB s.bx

theorem getE_put (l : List (Nat × AV)) (n : Nat) (x : AV) (k : Nat) : getE (putE l n x) k = if k = n then x else getE l k := by
  induction l with
  | nil =>
    simp only [putE, getE]
    by_cases h : k = n
    · simp [h]
    · rw [if_neg (fun e => h e.symm), if_neg h]
  | cons p r ih =>
    obtain ⟨j, v⟩ := p
    simp only [putE]
    by_cases h : j = n
    · rw [if_pos h]; simp only [getE]
      by_cases h2 : k = n
      · rw [if_pos h2, if_pos h2.symm]
      · rw [if_neg h2, if_neg (fun e => h2 e.symm), if_neg (fun e => h2 (e.symm.trans h))]
    · rw [if_neg h]; simp only [getE]
      by_cases h2 : j = k
      · rw [if_pos h2, if_pos h2, if_neg (fun e => h (h2.trans e))]
      · rw [if_neg h2, if_neg h2, ih]

theorem getB_set (l : List Bx) (n : Nat) (x : Bx) (k : Nat) : getB (setB l n x) k = if k = n then x else getB l k := by
  induction l generalizing n k with
  | nil =>
    induction n generalizing k with
    | zero => cases k <;> simp [setB, getB]
    | succ n ih =>
      cases k with
      | zero => simp [setB, getB]
      | succ k => simp only [setB, getB, ih]; by_cases h : k = n <;> simp [h, getB]
  | cons y r ih =>
    cases n with
    | zero => cases k <;> simp [setB, getB]
    | succ n => cases k with
      | zero => simp [setB, getB]
      | succ k => simp only [setB, getB, ih]; by_cases h : k = n <;> simp [h]

theorem getB_sets (l : List Bx) (u : List (Nat × Bx)) : getB (setsB l u) = updsF (getB l) u := by
  induction u generalizing l with
  | nil => rfl
  | cons p r ih =>
    obtain ⟨b, x⟩ := p
    simp only [setsB, updsF, ih]
    congr 1
    funext k
    rw [getB_set]; rfl

theorem St.put_sl (s : St) (d : Option Nat) (v : AV) (u : List (Nat × Bx)) : (s.put d v u).sl = putS s.sl d v := by
  cases d with
  | none => rfl
  | some d => funext k; simp only [St.sl, St.put, putS, upd]; rw [getE_put]

theorem St.put_bf (s : St) (d : Option Nat) (v : AV) (u : List (Nat × Bx)) : (s.put d v u).bf = updsF s.bf u := getB_sets _ _

theorem evalE_eq (env : List (Nat × AV)) : evalE env = evF (getE env) := by funext x; cases x <;> rfl

/-- A state of the abstract machine holds of the real one. -/
def Holds (C : Cx) (s : St) (a : Act) (w : World) : Prop := ∃ g, Gam C s.sl s.bf g a w

section
variable {P : Program} {C : Cx} {a : Act} {w : World}

theorem Holds.skip {s : St} (h : Holds C s a w) (d : Option Nat) (hd : ∀ i, d = some i → i < C.N) : Holds C (s.put d .skip []) (a.put d undef) w := by
  obtain ⟨g, h⟩ := h
  exact ⟨g, by rw [St.put_sl, St.put_bf]; exact h.put d hd (by simp only [Rel])⟩

theorem Holds.lit {s : St} {d : Nat} {b : Bool} (h : Holds C s a w) (hs : getE s.env d = .bool b) : Holds C ⟨putE s.env d (if b then .tt else .ff), s.bx⟩ a w := by
  obtain ⟨g, h⟩ := h
  refine ⟨g, { h with sls := fun t => ?_ }⟩
  have ht := h.sls t
  simp only [St.sl] at ht ⊢
  rw [getE_put]
  by_cases e : t = d
  · subst e
    rw [hs] at ht
    simp only [Rel] at ht
    rw [if_pos rfl, ht]
    cases b <;> simp only [Bool.false_eq_true, if_false, if_true, Rel]
  · rw [if_neg e]; exact ht

theorem yielded_nth {all : List Oper} {j : Nat} {d : Nat} (h : nth all j = some d) (tmps : Array Value) : yielded all.toArray tmps j = match tmps[d]? with | some (.bool b) => some b | _ => none := by
  have : ((all.toArray[j]?).bind fun x => x.dst) = some d := by
    simp only [List.getElem?_toArray]
    induction all generalizing j with
    | nil => simp [nth] at h
    | cons o r ih => cases j with
      | zero => simp only [nth] at h; simp [h]
      | succ j => simp only [nth] at h; simpa using ih h
  unfold yielded
  rw [this]
  rfl

/-- What a guard's temporary says. -/
theorem guard_slot {s : St} (h : Holds C s a w) (d : Nat) : (∀ b, (getE s.env d).boolV = some b → (a.tmps[d]? = some (.bool b))) ∧ (getE s.env d = .skip → (match a.tmps[d]? with | some (.bool b) => some b | _ => (none : Option Bool)) = none) := by
  obtain ⟨g, h⟩ := h
  have ht := h.sls d
  simp only [St.sl] at ht
  have hg : a.tmps.getD d undef = (a.tmps[d]?).getD undef := by simp [Array.getD_eq_getD_getElem?]
  rw [hg] at ht
  refine ⟨fun b hb => ?_, fun hb => ?_⟩
  · have := boolV_eq hb ht
    cases hx : a.tmps[d]? with
    | none => rw [hx] at this; cases this
    | some v => rw [hx] at this; simp at this; rw [this]
  · rw [hb] at ht
    simp only [Rel] at ht
    cases hx : a.tmps[d]? with
    | none => rfl
    | some v => rw [hx] at ht; simp at ht; subst ht; rfl

theorem ops_list {Γ : Gm} (hΓ : Γ.ok P) (all : List Oper) {Q : Exit → Act → World → Prop} {K : St → List (List Nat) → Prop} (hQ : ∀ s ac, K s ac → ∀ a w, Holds C s a w → Q .normal a w) :
    ∀ (l : List Oper) (s : St) (ac : List (List Nat)) (a : Act) (w : World), (∀ o ∈ l, ∀ d, o.dst = some d → d < C.N) → Holds C s a w → aops P Γ all l s ac K → wpList P all.toArray Q l a w
  | [], s, ac, a, w, _, h, hk => wpList_nil (hQ s ac hk a w h)
  | o :: rest, s, ac, a, w, hd, h, hk => by
    have hdo := hd o List.mem_cons_self
    have hdr : ∀ o ∈ rest, ∀ d, o.dst = some d → d < C.N := fun o ho => hd o (List.mem_cons_of_mem _ ho)
    -- carried out
    have run : ∀ s : St, Holds C s a w → aop P Γ s.bx.length (evalE s.env) (getB s.bx) o.op (fun v u a => aops P Γ all rest (s.put o.dst v u) (ac ++ [a]) K) → Region.wanted o (yielded all.toArray a.tmps) = true → wpList P all.toArray Q (o :: rest) a w := by
      intro s ⟨g, h⟩ hk hw
      rw [evalE_eq] at hk
      obtain ⟨v, us, ac', hk', hsim⟩ := op_sim hΓ h o hdo hk
      have hnone : ∀ p ∈ us, s.bx.length ≤ p.1 → s.bf p.1 = .none := fun p _ hp => getB_none hp
      refine wpList_step fun K' hK' => ?_
      rw [if_pos hw]
      refine hsim hnone K' Q fun a' w' g' hG => hK' _ _ ?_
      exact ops_list hΓ all hQ rest _ _ a' w' hdr ⟨g', by rw [St.put_sl, St.put_bf]; exact hG⟩ hk'
    -- passed over
    have pass : ∀ s : St, Holds C s a w → aops P Γ all rest (s.put o.dst .skip []) (ac ++ [[]]) K → Region.wanted o (yielded all.toArray a.tmps) = false → wpList P all.toArray Q (o :: rest) a w := by
      intro s h hk hw
      refine wpList_step fun K' hK' => ?_
      rw [if_neg (by rw [hw]; exact Bool.false_ne_true)]
      exact hK' _ _ (ops_list hΓ all hQ rest _ _ _ _ hdr (h.skip o.dst hdo) hk)
    simp only [aops] at hk
    split at hk
    · rename_i hg
      exact run s h hk (by simp [Region.wanted, hg])
    · rename_i gd hg
      obtain ⟨j, want⟩ := gd
      simp only at hk
      cases hn : nth all j with
      | none => rw [hn] at hk; exact hk.elim
      | some d =>
        rw [hn] at hk
        simp only [aGuardO] at hk
        obtain ⟨hb, hs⟩ := guard_slot h d
        have hwant : ∀ b, (getE s.env d).boolV = some b → Region.wanted o (yielded all.toArray a.tmps) = (b == want) := fun b he => by
          simp only [Region.wanted, hg, yielded_nth hn, hb b he]
          cases b <;> cases want <;> rfl
        generalize hv : getE s.env d = v at hk
        have lit : ∀ b, v = .bool b → Holds C ⟨putE s.env d (if b then .tt else .ff), s.bx⟩ a w := fun b e => h.lit (by rw [hv, e])
        unfold aGuard at hk
        split at hk
        · exact run s h hk (by rw [hwant true (by rw [hv]; rfl)]; rfl)
        · exact pass s h hk (by rw [hwant false (by rw [hv]; rfl)]; rfl)
        · exact pass s h hk (by rw [hwant true (by rw [hv]; rfl)]; rfl)
        · exact run s h hk (by rw [hwant false (by rw [hv]; rfl)]; rfl)
        · rename_i b
          cases b with
          | true => exact run _ (lit true rfl) (hk.1 rfl) (by rw [hwant true (by rw [hv]; rfl)]; rfl)
          | false => exact pass _ (lit false rfl) (hk.2 rfl) (by rw [hwant false (by rw [hv]; rfl)]; rfl)
        · rename_i b
          cases b with
          | true => exact pass _ (lit true rfl) (hk.1 rfl) (by rw [hwant true (by rw [hv]; rfl)]; rfl)
          | false => exact run _ (lit false rfl) (hk.2 rfl) (by rw [hwant false (by rw [hv]; rfl)]; rfl)
        · refine pass s h hk ?_
          simp only [Region.wanted, hg, yielded_nth hn, hs hv]
          cases want <;> rfl
        · exact hk.elim
end

end AM
end Go.Proofs.YtbookhehpebcmaaGreatDoor
