/-
  An abstract machine over the kit's Code.wp, and its soundness: part 24, regions in any order: what an operation's effect hangs on, and the static check.
-/
import Derived.Test.YtbookhehpebcmaaGreatDoorA23
namespace Go.Proofs.YtbookhehpebcmaaGreatDoor
namespace AM
set_option linter.unusedVariables false
set_option linter.unusedSimpArgs false

theorem aop_ev {P : Program} {Γ : Gm} {c : Nat} {ev ev' : Operand → AV} {bx : Nat → Bx} {op : Op} {K : Kt} (h : ∀ x ∈ op.operands, ev x = ev' x) (hk : aop P Γ c ev bx op K) : aop P Γ c ev' bx op K := by
  have pairs : ∀ ps : Array (Nat × Operand), (∀ x ∈ (ps.toList.map (·.2)).toArray, ev x = ev' x) → (ps.toList.map fun p => (p.1, ev p.2)) = ps.toList.map fun p => (p.1, ev' p.2) := fun ps hp =>
    List.map_congr_left fun p hm => by rw [hp p.2 (by simpa using ⟨p.1, by simpa using hm⟩)]
  cases op
  case call c' =>
    obtain ⟨callee, args, ts⟩ := c'
    cases callee
    case value f =>
      simp only [Op.operands, Call.operands] at h
      have e1 : args.toList.map ev = args.toList.map ev' := List.map_congr_left fun x hx => h x (by
        have : x ∈ args := by simpa using hx
        simp [this])
      change acall Γ c bx (ev f) (args.toList.map ev) _ K at hk
      change acall Γ c bx (ev' f) (args.toList.map ev') _ K
      rw [h f (by simp), e1] at hk; exact hk
    case builtin b =>
      simp only [Op.operands, Call.operands] at h
      have hm : ∀ x, x ∈ args.toList → ev x = ev' x := fun x hx => h x (by
        have : x ∈ args := by simpa using hx
        simp [this])
      cases b
      case len =>
        simp only [aop] at hk ⊢
        generalize args.toList = al at hk hm ⊢
        split at hk
        · rw [hm _ (by simp)] at hk; exact hk
        · exact hk.elim
      case append =>
        simp only [aop] at hk ⊢
        generalize args.toList = al at hk hm ⊢
        split at hk
        · rename_i x y
          rw [hm x (by simp), hm y (by simp)] at hk; exact hk
        · exact hk.elim
      case max =>
        simp only [aop] at hk ⊢
        generalize args.toList = al at hk hm ⊢
        split at hk
        · rename_i x y
          rw [hm x (by simp), hm y (by simp)] at hk; exact hk
        · exact hk.elim
      case min =>
        simp only [aop] at hk ⊢
        generalize args.toList = al at hk hm ⊢
        split at hk
        · rename_i x y
          rw [hm x (by simp), hm y (by simp)] at hk; exact hk
        · exact hk.elim
      all_goals exact hk.elim
    all_goals exact hk.elim
  all_goals simp only [Op.operands] at h
  case makeFunc fn first captured =>
    have e : captured.toList.map ev = captured.toList.map ev' := List.map_congr_left fun x hx => h x (by
      have : x ∈ captured := by simpa using hx
      simp [this])
    simp only [aop] at hk ⊢
    rw [e] at hk; exact hk
  case build t ps => simp only [aop] at hk ⊢; rw [pairs ps h] at hk; exact hk
  case buildSlice t n ps => simp only [aop] at hk ⊢; rw [pairs ps h] at hk; exact hk
  case slice t x lo hi mx =>
    have e1 : lo.map ev = lo.map ev' := by cases lo with | none => rfl | some y => simp [h y (by simp)]
    have e2 : hi.map ev = hi.map ev' := by cases hi with | none => rfl | some y => simp [h y (by simp)]
    have e3 : mx.map ev = mx.map ev' := by cases mx with | none => rfl | some y => simp [h y (by simp)]
    cases mx with
    | none =>
      rw [aop_slice] at hk ⊢
      rw [h x (by simp), e1, e2] at hk; exact hk
    | some m =>
      rw [aop_slice3] at hk ⊢
      have e4 : ev m = ev' m := h m (by simp)
      rw [h x (by simp), e1, e2, e4] at hk; exact hk
  all_goals first
    | exact hk.elim
    | exact hk
    | (simp only [List.mem_toArray, List.mem_cons, List.not_mem_nil, or_false, forall_eq_or_imp, forall_eq] at h
       simp only [aop] at hk ⊢
       first
        | (obtain ⟨h1, h2, h3⟩ := h; rw [h1, h2, h3] at hk; exact hk)
        | (obtain ⟨h1, h2⟩ := h; rw [h1, h2] at hk; exact hk)
        | (rw [h] at hk; exact hk))

def tmpsOf : List Operand → List Nat
  | [] => []
  | .tmp t :: r => t :: tmpsOf r
  | _ :: r => tmpsOf r

theorem mem_tmpsOf {t : Nat} : ∀ {l : List Operand}, Operand.tmp t ∈ l → t ∈ tmpsOf l
  | [], h => by cases h
  | x :: r, h => by
    rcases List.mem_cons.1 h with rfl | h
    · simp [tmpsOf]
    · have ih := mem_tmpsOf h
      cases x <;> simp only [tmpsOf] <;> first | exact List.mem_cons_of_mem _ ih | exact ih

/-- The slots that an operation looks at. -/
def looks (all : List Oper) (o : Oper) : List Nat :=
  tmpsOf o.op.operands.toList ++ (match o.guard with | some g => (match nth all g.1 with | some d => [d] | none => []) | none => [])

theorem gOk_loc {all : List Oper} {o : Oper} {sl sl' : Nat → AV} {run : Bool} (h : gOk all o sl run) (hs : ∀ t ∈ looks all o, sl' t = sl t) : gOk all o sl' run := by
  unfold gOk at h ⊢
  split
  · rename_i hg; rw [hg] at h; exact h
  · rename_i g hg
    rw [hg] at h
    obtain ⟨d, hd, h⟩ := h
    refine ⟨d, hd, ?_⟩
    rw [hs d (by simp [looks, hg, hd])]; exact h

theorem Fact.loc {P : Program} {l : FuncId → List Nat} {all : List Oper} {o : Oper} {e : Eff} {σ σ' : Sg} (h : Fact P l all o e σ) (hs : ∀ t ∈ looks all o, σ'.1 t = σ.1 t) (hb : ∀ b ∈ e.ac, σ'.2 b = σ.2 b) :
    Fact P l all o e σ' := by
  refine ⟨gOk_loc h.1 hs, ?_⟩
  rcases h.2 with ⟨hr, hop, hl, hu, hn⟩ | h2
  · refine .inl ⟨hr, fun K hK => ?_, hl, hu, fun p hp hc => (hb _ (hu p hp)).trans (hn p hp hc)⟩
    obtain ⟨v, u, ac, ⟨rfl, rfl, rfl⟩, h1, h2⟩ := aop_loc (hop (fun v u ac => v = e.v0 ∧ u = e.u ∧ ac = e.ac) ⟨rfl, rfl, rfl⟩)
    refine aop_ev (fun x hx => ?_) (h2 σ'.2 hb K hK)
    cases x with
    | tmp t => exact (hs t (List.mem_append_left _ (mem_tmpsOf (by simpa using hx)))).symm
    | _ => rfl
  · exact .inr h2

/-! ### The order that binds -/

/-- The rows of what comes before, as bits. -/
def rowOf (T : List Nat) : List Edge → Nat
  | [] => 0
  | e :: r => if Region.binds .any e then (2 ^ e.on ||| T.getD e.on 0) ||| rowOf T r else rowOf T r

def preT : List Oper → List Nat → List Nat
  | [], T => T
  | o :: r, T => preT r (T ++ [rowOf T o.after.toList])

def ordB (l : List Oper) (i j : Nat) : Bool := if i < j then ((preT l []).getD j 0).testBit i else ((preT l []).getD i 0).testBit j

def apartB (all : List Oper) (x y : Oper) : Bool :=
  (match x.dst with | some d => !(looks all y).contains d && !(y.dst == some d) | none => true) && (match y.dst with | some d => !(looks all x).contains d | none => true)

def stQ (all : List Oper) (row : Nat) (o : Oper) : Nat → List Oper → Bool
  | _, [] => true
  | i, x :: r => (row.testBit i || apartB all x o) && stQ all row o (i + 1) r

def stP (all : List Oper) (T : List Nat) : Nat → List Oper → Bool
  | _, [] => true
  | j, o :: r => stQ all (T.getD j 0) o 0 (all.take j) && (o.after.toList.all fun e => !Region.binds .any e || decide (e.on < j)) && stP all T (j + 1) r

/-- The static check of a region that draws its order. -/
def regSt (l : List Oper) : Bool := stP l (preT l []) 0 l

theorem stQ_spec {all : List Oper} {row : Nat} {o : Oper} : ∀ {l : List Oper} {i : Nat}, stQ all row o i l = true → ∀ k x, l[k]? = some x → row.testBit (i + k) = true ∨ apartB all x o = true
  | [], i, _, k, x, hx => by simp at hx
  | y :: r, i, h, k, x, hx => by
    simp only [stQ, Bool.and_eq_true, Bool.or_eq_true] at h
    cases k with
    | zero => simp at hx; subst hx; exact h.1
    | succ k =>
      have := stQ_spec h.2 k x (by simpa using hx)
      rwa [show i + 1 + k = i + (k + 1) by omega] at this

theorem stP_spec {all : List Oper} {T : List Nat} : ∀ {l : List Oper} {j : Nat}, stP all T j l = true → ∀ k o, l[k]? = some o →
    (∀ i x, i < j + k → all[i]? = some x → (T.getD (j + k) 0).testBit i = true ∨ apartB all x o = true) ∧ ∀ e ∈ o.after.toList, Region.binds .any e = true → e.on < j + k
  | [], j, _, k, o, ho => by simp at ho
  | y :: r, j, h, k, o, ho => by
    simp only [stP, Bool.and_eq_true] at h
    cases k with
    | zero =>
      simp at ho; subst ho
      refine ⟨fun i x hi hx => ?_, fun e he hb => ?_⟩
      · have := stQ_spec h.1.1 i x (by rw [List.getElem?_take]; simp only [Nat.add_zero] at hi; rw [if_pos hi]; exact hx)
        simpa using this
      · have := List.all_eq_true.1 h.1.2 e he
        simpa [hb] using this
    | succ k =>
      have := stP_spec h.2 k o (by simpa using ho)
      rwa [show j + 1 + k = j + (k + 1) by omega] at this

theorem rowOf_spec {T : List Nat} {i : Nat} : ∀ {es : List Edge}, (rowOf T es).testBit i = true → ∃ e ∈ es, Region.binds .any e = true ∧ (i = e.on ∨ (T.getD e.on 0).testBit i = true)
  | [], h => by simp [rowOf] at h
  | e :: r, h => by
    simp only [rowOf] at h
    split at h
    · rename_i hb
      simp only [Nat.testBit_or, Bool.or_eq_true] at h
      rcases h with (h | h) | h
      · rw [Nat.testBit_two_pow] at h
        exact ⟨e, by simp, hb, .inl (by simpa [eq_comm] using h)⟩
      · exact ⟨e, by simp, hb, .inr h⟩
      · obtain ⟨e', he', h⟩ := rowOf_spec h
        exact ⟨e', by simp [he'], h⟩
    · obtain ⟨e', he', h⟩ := rowOf_spec h
      exact ⟨e', by simp [he'], h⟩

/-- What is listed with everything ahead of it. -/
def Down (l : List Oper) (L : Nat → Bool) : Prop := ∀ j o, l[j]? = some o → L j = true → ∀ e ∈ o.after.toList, Region.binds .any e = true → L e.on = true

theorem preT_down {L : Nat → Bool} : ∀ {l : List Oper} {T : List Nat}, (∀ j o, l[j]? = some o → L (T.length + j) = true → ∀ e ∈ o.after.toList, Region.binds .any e = true → L e.on = true) →
    (∀ j i, (T.getD j 0).testBit i = true → L j = true → L i = true) → ∀ j i, ((preT l T).getD j 0).testBit i = true → L j = true → L i = true
  | [], T, _, h2, j, i, hb, hj => h2 j i hb hj
  | o :: r, T, h1, h2, j, i, hb, hj => by
    refine preT_down (l := r) (T := T ++ [rowOf T o.after.toList]) (fun j' o' ho' hj' => h1 (j' + 1) o' (by simpa using ho') ?_) (fun j' i' hb' hj' => ?_) j i hb hj
    · simp only [List.length_append, List.length_singleton] at hj'
      rwa [show T.length + (j' + 1) = T.length + 1 + j' by omega]
    · rw [List.getD_eq_getElem?_getD, List.getElem?_append] at hb'
      split at hb'
      · rename_i hlt; exact h2 j' i' (by rw [List.getD_eq_getElem?_getD]; exact hb') hj'
      · rename_i hlt
        by_cases e : j' = T.length
        · subst e
          simp only [Nat.sub_self, List.getElem?_cons_zero, Option.getD_some] at hb'
          obtain ⟨ed, hed, hbi, h⟩ := rowOf_spec hb'
          have hL : L ed.on = true := h1 0 o rfl (by simpa using hj') ed hed hbi
          rcases h with rfl | h
          · exact hL
          · exact h2 _ _ h hL
        · rw [List.getElem?_eq_none (by simp; omega)] at hb'
          simp at hb'

theorem down_bit {l : List Oper} {L : Nat → Bool} (h : Down l L) {i j : Nat} (hb : ((preT l []).getD j 0).testBit i = true) (hj : L j = true) : L i = true :=
  preT_down (T := []) (fun j o ho hj => h j o ho (by simpa using hj)) (fun j i hb => by simp at hb) j i hb hj

theorem apartB_spec {all : List Oper} {x y : Oper} (h : apartB all x y = true) :
    (∀ d, x.dst = some d → d ∉ looks all y) ∧ (∀ d, x.dst = some d → y.dst ≠ some d) ∧ (∀ d, y.dst = some d → d ∉ looks all x) := by
  refine ⟨fun d hd => ?_, fun d hd => ?_, fun d hd => ?_⟩ <;> simp [apartB, hd] at h
  · exact h.1.1
  · exact h.1.2
  · exact h.2

end AM
end Go.Proofs.YtbookhehpebcmaaGreatDoor
