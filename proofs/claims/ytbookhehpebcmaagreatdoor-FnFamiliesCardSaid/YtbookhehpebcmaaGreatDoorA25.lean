/-
  An abstract machine over the kit's Code.wp, and its soundness: part 25, regions in any order: what is listed, in the text's order.
-/
import Derived.Test.YtbookhehpebcmaaGreatDoorA24
namespace Go.Proofs.YtbookhehpebcmaaGreatDoor
namespace AM
set_option linter.unusedVariables false
set_option linter.unusedSimpArgs false

abbrev Tr := List (Oper × Eff)

/-- The effects of those that are listed, in the text's order. -/
def foldA : Tr → (Nat → Bool) → Nat → Sg → Sg
  | [], _, _, σ => σ
  | p :: r, L, n, σ => foldA r L (n + 1) (if L n then appE p.1 p.2 σ else σ)

def Facts (P : Program) (l : FuncId → List Nat) (all : List Oper) : Tr → Sg → Prop
  | [], _ => True
  | p :: r, σ => Fact P l all p.1 p.2 σ ∧ Facts P l all r (appE p.1 p.2 σ)

theorem updsF_in {u : List (Nat × Bx)} {b : Nat} : ∀ {f g : Nat → Bx}, b ∈ u.map (·.1) → updsF f u b = updsF g u b := by
  induction u with
  | nil => intro f g h; cases h
  | cons p r ih =>
    intro f g h
    obtain ⟨c, x⟩ := p
    by_cases hr : b ∈ r.map (·.1)
    · simp only [updsF]; exact ih hr
    · have hb : b = c := by simpa [hr] using h
      subst hb
      have key : ∀ (f : Nat → Bx), updsF f r b = f b := by
        intro f
        clear ih h
        induction r generalizing f with
        | nil => rfl
        | cons q r ih =>
          obtain ⟨d, y⟩ := q
          simp only [List.map_cons, List.mem_cons, not_or] at hr
          simp only [updsF]
          rw [ih hr.2, upd_other _ _ hr.1]
      simp only [updsF]
      rw [key, key, upd_same, upd_same]

theorem updsF_out {u : List (Nat × Bx)} {b : Nat} (h : b ∉ u.map (·.1)) : ∀ (f : Nat → Bx), updsF f u b = f b := by
  induction u with
  | nil => intro f; rfl
  | cons q r ih =>
    intro f
    obtain ⟨d, y⟩ := q
    simp only [List.map_cons, List.mem_cons, not_or] at h
    simp only [updsF]
    rw [ih h.2, upd_other _ _ h.1]

theorem appE_slot {o : Oper} {e : Eff} {σ : Sg} {t : Nat} (h : o.dst ≠ some t) : (appE o e σ).1 t = σ.1 t := by
  simp only [appE]
  cases hd : o.dst with
  | none => rfl
  | some d => simp only [putS]; exact upd_other _ _ fun e => h (by rw [hd, e])
theorem appE_dst {o : Oper} {e : Eff} {σ : Sg} {t : Nat} (h : o.dst = some t) : (appE o e σ).1 t = e.v := by
  simp only [appE, h, putS, upd_same]
theorem appE_blk {o : Oper} {e : Eff} {σ : Sg} {b : Nat} (h : b ∉ e.u.map (·.1)) : (appE o e σ).2 b = σ.2 b := updsF_out h _
theorem appE_in {o : Oper} {e : Eff} {σ σ' : Sg} {b : Nat} (h : b ∈ e.u.map (·.1)) : (appE o e σ).2 b = (appE o e σ').2 b := updsF_in h

theorem fold_slot {t : Nat} {L L' : Nat → Bool} : ∀ {ps : Tr} {n : Nat} {σ σ' : Sg}, (∀ k p, ps[k]? = some p → p.1.dst = some t → L (n + k) = L' (n + k)) → σ.1 t = σ'.1 t → (foldA ps L n σ).1 t = (foldA ps L' n σ').1 t
  | [], n, σ, σ', _, h => h
  | p :: r, n, σ, σ', hl, h => by
    simp only [foldA]
    refine fold_slot (fun k q hq hd => ?_) ?_
    · have := hl (k + 1) q (by simpa using hq) hd
      rwa [show n + (k + 1) = n + 1 + k by omega] at this
    · by_cases hd : p.1.dst = some t
      · have := hl 0 p rfl hd
        simp only [Nat.add_zero] at this
        rw [← this]
        cases L n
        · simpa using h
        · simp only [if_true]; rw [appE_dst hd, appE_dst hd]
      · have e1 : (if L n = true then appE p.1 p.2 σ else σ).1 t = σ.1 t := by split; exact appE_slot hd; rfl
        have e2 : (if L' n = true then appE p.1 p.2 σ' else σ').1 t = σ'.1 t := by split; exact appE_slot hd; rfl
        rw [e1, e2, h]

theorem fold_blk {b : Nat} {L L' : Nat → Bool} : ∀ {ps : Tr} {n : Nat} {σ σ' : Sg}, (∀ k p, ps[k]? = some p → b ∈ p.2.u.map (·.1) → L (n + k) = L' (n + k)) → σ.2 b = σ'.2 b → (foldA ps L n σ).2 b = (foldA ps L' n σ').2 b
  | [], n, σ, σ', _, h => h
  | p :: r, n, σ, σ', hl, h => by
    simp only [foldA]
    refine fold_blk (fun k q hq hd => ?_) ?_
    · have := hl (k + 1) q (by simpa using hq) hd
      rwa [show n + (k + 1) = n + 1 + k by omega] at this
    · by_cases hd : b ∈ p.2.u.map (·.1)
      · have := hl 0 p rfl hd
        simp only [Nat.add_zero] at this
        rw [← this]
        cases L n
        · simpa using h
        · simp only [if_true]; exact appE_in hd
      · have e1 : (if L n = true then appE p.1 p.2 σ else σ).2 b = σ.2 b := by split; exact appE_blk hd; rfl
        have e2 : (if L' n = true then appE p.1 p.2 σ' else σ').2 b = σ'.2 b := by split; exact appE_blk hd; rfl
        rw [e1, e2, h]

/-- The last one that writes a slot. -/
theorem fold_last {t : Nat} {L : Nat → Bool} : ∀ {ps : Tr} {n j : Nat} {σ : Sg} {p : Oper × Eff}, ps[j]? = some p → p.1.dst = some t → L (n + j) = true →
    (∀ k q, j < k → ps[k]? = some q → q.1.dst = some t → L (n + k) = false) → (foldA ps L n σ).1 t = p.2.v
  | [], n, j, σ, p, hp, _, _, _ => by simp at hp
  | q :: r, n, 0, σ, p, hp, hd, hL, hk => by
    simp at hp; subst hp
    simp only [foldA]
    simp only [Nat.add_zero] at hL
    rw [hL, if_pos rfl]
    have := fold_slot (t := t) (L := L) (L' := fun _ => false) (ps := r) (n := n + 1) (σ := appE q.1 q.2 σ) (σ' := appE q.1 q.2 σ) (fun k p' hp' hd' => by
      have := hk (k + 1) p' (by omega) (by simpa using hp') hd'
      rwa [show n + (k + 1) = n + 1 + k by omega] at this) rfl
    rw [this]
    have none : ∀ (ps : Tr) (n : Nat) (σ : Sg), foldA ps (fun _ => false) n σ = σ := by
      intro ps; induction ps with
      | nil => intros; rfl
      | cons a r ih => intro n σ; simp only [foldA, Bool.false_eq_true, if_false]; exact ih _ _
    rw [none, appE_dst hd]
  | q :: r, n, j + 1, σ, p, hp, hd, hL, hk => by
    simp only [foldA]
    refine fold_last (j := j) (by simpa using hp) hd (by rwa [show n + 1 + j = n + (j + 1) by omega]) fun k q' hj hq' hd' => ?_
    have := hk (k + 1) q' (by omega) (by simpa using hq') hd'
    rwa [show n + (k + 1) = n + 1 + k by omega] at this

theorem fold_lastB {b : Nat} {L : Nat → Bool} : ∀ {ps : Tr} {n j : Nat} {σ σ' : Sg} {p : Oper × Eff}, ps[j]? = some p → b ∈ p.2.u.map (·.1) → L (n + j) = true →
    (∀ k q, j < k → ps[k]? = some q → b ∈ q.2.u.map (·.1) → L (n + k) = false) → (foldA ps L n σ).2 b = (appE p.1 p.2 σ').2 b
  | [], n, j, σ, σ', p, hp, _, _, _ => by simp at hp
  | q :: r, n, 0, σ, σ', p, hp, hd, hL, hk => by
    simp at hp; subst hp
    simp only [foldA]
    simp only [Nat.add_zero] at hL
    rw [hL, if_pos rfl]
    have := fold_blk (b := b) (L := L) (L' := fun _ => false) (ps := r) (n := n + 1) (σ := appE q.1 q.2 σ) (σ' := appE q.1 q.2 σ') (fun k p' hp' hd' => by
      have := hk (k + 1) p' (by omega) (by simpa using hp') hd'
      rwa [show n + (k + 1) = n + 1 + k by omega] at this) (appE_in hd)
    rw [this]
    have none : ∀ (ps : Tr) (n : Nat) (σ : Sg), foldA ps (fun _ => false) n σ = σ := by
      intro ps; induction ps with
      | nil => intros; rfl
      | cons a r ih => intro n σ; simp only [foldA, Bool.false_eq_true, if_false]; exact ih _ _
    rw [none]
  | q :: r, n, j + 1, σ, σ', p, hp, hd, hL, hk => by
    simp only [foldA]
    refine fold_lastB (j := j) (by simpa using hp) hd (by rwa [show n + 1 + j = n + (j + 1) by omega]) fun k q' hj hq' hd' => ?_
    have := hk (k + 1) q' (by omega) (by simpa using hq') hd'
    rwa [show n + (k + 1) = n + 1 + k by omega] at this

/-- One more is listed: its effect, whatever behind it is listed already, as long as that writes nothing of its own. -/
theorem fold_more {ps : Tr} {L : Nat → Bool} {j : Nat} {p : Oper × Eff} {σ : Sg} (hp : ps[j]? = some p) (hj : L j = false)
    (hs : ∀ k q d, j < k → ps[k]? = some q → p.1.dst = some d → q.1.dst = some d → L k = false) (hb : ∀ k q b, j < k → ps[k]? = some q → b ∈ p.2.u.map (·.1) → b ∈ q.2.u.map (·.1) → L k = false) :
    appE p.1 p.2 (foldA ps L 0 σ) = foldA ps (fun i => if i = j then true else L i) 0 σ := by
  refine Prod.ext ?_ ?_ <;> funext t
  · by_cases hd : p.1.dst = some t
    · rw [appE_dst hd]
      refine (fold_last (j := j) hp hd (by simp) fun k q hk hq hd' => ?_).symm
      rw [if_neg (by omega)]
      simpa using hs k q t hk hq hd hd'
    · rw [appE_slot hd]
      refine fold_slot (fun k q hq hd' => ?_) rfl
      simp only [Nat.zero_add]
      by_cases e : k = j
      · subst e; rw [hp] at hq; cases hq; exact absurd hd' hd
      · rw [if_neg e]
  · by_cases hd : t ∈ p.2.u.map (·.1)
    · refine (fold_lastB (j := j) hp hd (by simp) fun k q hk hq hd' => ?_).symm
      rw [if_neg (by omega)]
      simpa using hb k q t hk hq hd hd'
    · rw [appE_blk hd]
      refine fold_blk (fun k q hq hd' => ?_) rfl
      simp only [Nat.zero_add]
      by_cases e : k = j
      · subst e; rw [hp] at hq; cases hq; exact absurd hd' hd
      · rw [if_neg e]

theorem fold_none {L : Nat → Bool} : ∀ {ps : Tr} {n : Nat} {σ : Sg}, (∀ k, n ≤ k → L k = false) → foldA ps L n σ = σ
  | [], _, _, _ => rfl
  | p :: r, n, σ, h => by
    simp only [foldA, h n (Nat.le_refl _), Bool.false_eq_true, if_false]
    exact fold_none fun k hk => h k (by omega)

theorem facts_at {P : Program} {l : FuncId → List Nat} {all : List Oper} : ∀ {ps : Tr} {n j : Nat} {σ : Sg} {p : Oper × Eff}, Facts P l all ps σ → ps[j]? = some p → Fact P l all p.1 p.2 (foldA ps (fun k => decide (k < n + j)) n σ)
  | [], n, j, σ, p, _, hp => by simp at hp
  | q :: r, n, 0, σ, p, h, hp => by
    simp at hp; subst hp
    rw [fold_none fun k hk => by simp; omega]
    exact h.1
  | q :: r, n, j + 1, σ, p, h, hp => by
    simp only [foldA]
    rw [if_pos (decide_eq_true (by omega))]
    have := facts_at (n := n + 1) (j := j) h.2 (by simpa using hp)
    rwa [show n + 1 + j = n + (j + 1) by omega] at this

/-- The operations that do not lie in the order that binds do not meet. -/
def Indep (ps : Tr) (l : List Oper) : Prop := ∀ i j p q, ps[i]? = some p → ps[j]? = some q → i ≠ j → ∀ b ∈ p.2.u.map (·.1), b ∈ q.2.ac → ordB l i j = true

section
variable {P : Program} {lnd : FuncId → List Nat} {ps : Tr} {l : List Oper} {σ : Sg} {C : Cx} {L : Nat → Bool}

/-- A ready one sees what it sees in the text's order. -/
theorem fact_listed (hl : l = ps.map (·.1)) (hst : regSt l = true) (hi : Indep ps l) (hf : Facts P lnd l ps σ) (hu : ∀ p ∈ ps, ∀ b ∈ p.2.u.map (·.1), b ∈ p.2.ac) (hd : Down l L) {j : Nat} {p : Oper × Eff} (hp : ps[j]? = some p) (hj : L j = false)
    (hr : ∀ e ∈ p.1.after.toList, Region.binds .any e = true → L e.on = true) :
    Fact P lnd l p.1 p.2 (foldA ps L 0 σ) ∧ appE p.1 p.2 (foldA ps L 0 σ) = foldA ps (fun i => if i = j then true else L i) 0 σ ∧ Down l (fun i => if i = j then true else L i) := by
  have at_l : ∀ {k : Nat} {q : Oper × Eff}, ps[k]? = some q → l[k]? = some q.1 := fun {k q} hq => by rw [hl]; simp [hq]
  have hD : Down l (fun i => if i = j then true else L i) := by
    intro k o ho hk e he hb
    by_cases e1 : e.on = j
    · simp [e1]
    · simp only [if_neg e1]
      by_cases ek : k = j
      · subst ek; rw [at_l hp] at ho; cases ho; exact hr e he hb
      · simp only [if_neg ek] at hk; exact hd k o ho hk e he hb
  have st : ∀ k o, l[k]? = some o → (∀ i x, i < k → l[i]? = some x → ((preT l []).getD k 0).testBit i = true ∨ apartB l x o = true) := fun k o ho i x hik hx => by
    have := (stP_spec hst k o ho).1 i x (by omega) hx
    simpa using this
  -- whoever is ahead in the text and in the order is listed; whoever is behind in both is not
  have ahead : ∀ k, k < j → ((preT l []).getD j 0).testBit k = true → L k = true := fun k hk hb => by
    have := down_bit hD hb (by simp)
    simpa [show k ≠ j by omega] using this
  have behind : ∀ k, j < k → ((preT l []).getD k 0).testBit j = true → L k = false := fun k hk hb => by
    cases h : L k with
    | false => rfl
    | true => have := down_bit hd hb h; rw [hj] at this; cases this
  have view : ∀ k q, ps[k]? = some q → ((∃ t, q.1.dst = some t ∧ t ∈ looks l p.1) ∨ ∃ b, b ∈ q.2.u.map (·.1) ∧ b ∈ p.2.ac) → L k = decide (k < j) := by
    intro k q hq ht
    rcases Nat.lt_trichotomy k j with hk | hk | hk
    · rw [decide_eq_true hk]
      rcases ht with ⟨t, h1, h2⟩ | ⟨b, h1, h2⟩
      · rcases st j p.1 (at_l hp) k q.1 hk (at_l hq) with h | h
        · exact ahead k hk h
        · exact absurd h2 ((apartB_spec h).1 t h1)
      · have := hi k j q p hq hp (by omega) b h1 h2
        rw [ordB, if_pos hk] at this
        exact ahead k hk this
    · subst hk; rw [hj]; simp
    · rw [decide_eq_false (by omega)]
      rcases ht with ⟨t, h1, h2⟩ | ⟨b, h1, h2⟩
      · rcases st k q.1 (at_l hq) j p.1 hk (at_l hp) with h | h
        · exact behind k hk h
        · exact absurd h2 ((apartB_spec h).2.2 t h1)
      · have := hi k j q p hq hp (by omega) b h1 h2
        rw [ordB, if_neg (by omega)] at this
        exact behind k hk this
  refine ⟨?_, fold_more hp hj (fun k q d hk hq h1 h2 => ?_) (fun k q b hk hq h1 h2 => ?_), hD⟩
  · have := facts_at (n := 0) hf hp
    simp only [Nat.zero_add] at this
    refine this.loc (fun t ht => fold_slot (fun k q hq hqd => ?_) rfl) (fun b hb => fold_blk (fun k q hq hqd => ?_) rfl)
    · simpa using view k q hq (.inl ⟨t, hqd, ht⟩)
    · simpa using view k q hq (.inr ⟨b, hqd, hb⟩)
  · rcases st k q.1 (at_l hq) j p.1 hk (at_l hp) with h | h
    · exact behind k hk h
    · exact absurd h2 ((apartB_spec h).2.1 d h1)
  · have := hi k j q p hq hp (by omega) b h2 (hu p (List.mem_of_getElem? hp) b h1)
    rw [ordB, if_neg (by omega)] at this
    exact behind k hk this

/-- How many are not listed yet. -/
def cnt (L : Nat → Bool) : Nat → Nat
  | 0 => 0
  | n + 1 => cnt L n + (if L n then 0 else 1)
theorem cnt_more {j : Nat} (hj : L j = false) : ∀ n, cnt (fun i => if i = j then true else L i) n + (if j < n then 1 else 0) = cnt L n
  | 0 => by simp [cnt]
  | n + 1 => by
    have ih := cnt_more hj n
    simp only [cnt]
    by_cases e : n = j
    · subst e; simp [hj] at ih ⊢; omega
    · simp only [if_neg e]
      by_cases h : j < n
      · rw [if_pos h] at ih; rw [if_pos (show j < n + 1 by omega)]; omega
      · rw [if_neg h] at ih; rw [if_neg (show ¬ j < n + 1 by omega)]; omega
theorem cnt_zero : ∀ {n : Nat}, cnt L n = 0 → ∀ i, i < n → L i = true
  | 0, _, i, h => by omega
  | n + 1, h, i, hi => by
    simp only [cnt] at h
    by_cases e : i = n
    · subst e; cases hl : L i with
      | true => rfl
      | false => rw [hl] at h; simp at h
    · have h' : cnt L n = 0 := by omega
      exact cnt_zero h' i (by omega)

theorem reg_any {ops : Array Oper} (hl : ops.toList = ps.map (·.1)) (hst : regSt ops.toList = true) (hi : Indep ps ops.toList) (hf : Facts P lnd ops.toList ps σ) (hu : ∀ p ∈ ps, ∀ b ∈ p.2.u.map (·.1), b ∈ p.2.ac)
    (hdst : ∀ o ∈ ops.toList, ∀ d, o.dst = some d → d < C.N) {Q : Exit → Act → World → Prop} (hQ : ∀ a w, HoldsF C (foldA ps (fun _ => true) 0 σ) a w → Q .normal a w) :
    ∀ (fuel : Nat) (listed : Array Bool), listed.size = ops.size → Down ops.toList (fun i => listed.getD i false) → cnt (fun i => listed.getD i false) ops.size ≤ fuel →
      ∀ a w, HoldsF C (foldA ps (fun i => listed.getD i false) 0 σ) a w → wpAny P .any ops Q fuel listed a w := by
  have len : ps.length = ops.size := by rw [← Array.length_toList, hl]; simp
  have done : ∀ (listed : Array Bool), (∀ i, i < ops.size → listed.getD i false = true) → ∀ a w, HoldsF C (foldA ps (fun i => listed.getD i false) 0 σ) a w → Q .normal a w := by
    intro listed hall a w h
    refine hQ a w ?_
    have : foldA ps (fun i => listed.getD i false) 0 σ = foldA ps (fun _ => true) 0 σ := by
      refine Prod.ext ?_ ?_ <;> funext t
      · refine fold_slot (fun k q hq _ => ?_) rfl
        have := (List.getElem?_eq_some_iff.1 hq).1
        simpa using hall k (by omega)
      · refine fold_blk (fun k q hq _ => ?_) rfl
        have := (List.getElem?_eq_some_iff.1 hq).1
        simpa using hall k (by omega)
    rw [← this]; exact h
  have mem : ∀ {listed : Array Bool}, listed.size = ops.size → ∀ i, i ∈ Region.ready .any ops listed ↔ ∃ o, ops.toList[i]? = some o ∧ listed.getD i false = false ∧ ∀ e ∈ o.after.toList, Region.binds .any e = true → listed.getD e.on false = true := by
    intro listed hs i
    unfold Region.ready
    rw [List.mem_filter, List.mem_range]
    constructor
    · rintro ⟨h1, h2⟩
      simp only [Bool.and_eq_true, Bool.not_eq_true'] at h2
      have ho : ops[i]? = some ops[i] := by simp [h1]
      rw [ho] at h2
      refine ⟨ops[i], by simp [h1], ?_, fun e he hb => ?_⟩
      · have := h2.1; simp only [Array.getD_eq_getD_getElem?] at this ⊢
        rw [show listed[i]? = some listed[i] by simp [hs, h1]] at this ⊢; simpa using this
      · have := h2.2
        simp only [Option.map_some, Option.getD_some, Array.all_eq_true_iff_forall_mem] at this
        have := this e (by simpa using he)
        simpa [hb] using this
    · rintro ⟨o, ho, h2, h3⟩
      have h1 : i < ops.size := by have := (List.getElem?_eq_some_iff.1 ho).1; simpa using this
      have ho' : ops[i]? = some o := by simpa using ho
      refine ⟨h1, ?_⟩
      rw [ho']
      simp only [Bool.and_eq_true, Bool.not_eq_true', Option.map_some, Option.getD_some, Array.all_eq_true_iff_forall_mem]
      refine ⟨?_, fun e he => ?_⟩
      · simp only [Array.getD_eq_getD_getElem?] at h2 ⊢
        rw [show listed[i]? = some listed[i] by simp [hs, h1]] at h2 ⊢; simpa using h2
      · cases hb : Region.binds .any e with
        | false => rfl
        | true => simpa using h3 e (by simpa using he) hb
  have all_of : ∀ {listed : Array Bool}, listed.size = ops.size → Region.ready .any ops listed = [] → ∀ i, i < ops.size → listed.getD i false = true := by
    intro listed hs hr i
    induction i using Nat.strongRecOn with
    | _ i ih =>
      intro hi
      cases h : listed.getD i false with
      | true => rfl
      | false =>
        exfalso
        have : i ∈ Region.ready .any ops listed := (mem hs i).2 ⟨ops[i], by simp [hi], h, fun e he hb => by
          have := (stP_spec hst i ops[i] (by simp [hi])).2 e he hb
          simp only [Nat.zero_add] at this
          exact ih e.on this (by omega)⟩
        rw [hr] at this; cases this
  intro fuel
  induction fuel with
  | zero =>
    intro listed hs hD hc a w h
    have hall := cnt_zero (Nat.le_zero.1 hc)
    refine ⟨?_, done listed hall a w h⟩
    cases hr : Region.ready .any ops listed with
    | nil => rfl
    | cons x xs =>
      obtain ⟨o, ho, h2, _⟩ := (mem hs x).1 (by rw [hr]; simp)
      have h1 : x < ops.size := by have := (List.getElem?_eq_some_iff.1 ho).1; simpa using this
      rw [hall x h1] at h2; cases h2
  | succ fuel ih =>
    intro listed hs hD hc a w h
    refine ⟨fun hr => done listed (all_of hs hr) a w h, fun j hj => ?_⟩
    obtain ⟨o, ho, hjL, hr⟩ := (mem hs j).1 hj
    have hjs : j < ops.size := by have := (List.getElem?_eq_some_iff.1 ho).1; simpa using this
    have hp : ps[j]? = some (ps[j]'(by omega)) := by simp
    generalize ps[j]'(by omega) = p at hp
    have hpo : p.1 = o := by
      have : ops.toList[j]? = some p.1 := by rw [hl]; simp [hp]
      rw [ho] at this; exact (Option.some.inj this).symm
    subst hpo
    obtain ⟨hF, hE, hD'⟩ := fact_listed hl hst hi hf hu hD hp hjL hr
    have hset : (fun i => (listed.setIfInBounds j true).getD i false) = fun i => if i = j then true else listed.getD i false := by
      funext i
      simp only [Array.getD_eq_getD_getElem?, Array.getElem?_setIfInBounds]
      by_cases e : j = i
      · subst e; simp [hs, hjs]
      · rw [if_neg e, if_neg (fun x => e x.symm)]
    have hopj : ops[j]? = some p.1 := by simpa using ho
    have next : ∀ a' w', HoldsF C (appE p.1 p.2 (foldA ps (fun i => listed.getD i false) 0 σ)) a' w' → wpAny P .any ops Q fuel (listed.setIfInBounds j true) a' w' := by
      intro a' w' h'
      refine ih _ (by simp [hs]) (by rw [hset]; exact hD') ?_ a' w' (by rw [hset, ← hE]; exact h')
      rw [hset]
      have := cnt_more (L := fun i => listed.getD i false) hjL ops.size
      rw [if_pos hjs] at this
      omega
    have := fact_sim (next := wpAny P .any ops Q fuel (listed.setIfInBounds j true)) (Q := Q) hF h (hdst p.1 (List.mem_of_getElem? ho)) next
    simp only [wpOp, hopj]
    simp only [Array.toArray_toList] at this
    split
    · rename_i hw; rw [if_pos hw] at this; exact .inl this
    · rename_i hw; rw [if_neg hw] at this; exact this
end

end AM
end Go.Proofs.YtbookhehpebcmaaGreatDoor
