import Derived.Test.YtbookhehpebcmaaGreatDoorM0
namespace Go.Proofs.YtbookhehpebcmaaGreatDoor
open AM
set_option linter.unusedSimpArgs false
set_option linter.unusedVariables false

/-- How many sets that t does not meet have the element e. -/
def gnF (xs : List Int) (t : Int) (e : Nat) : Nat → Int
  | 0 => 0
  | i + 1 => gnF xs t e i + if band .i64 (xs.getD i 0) t = 0 then band .i64 (xs.getD i 0 / 2 ^ e) 1 else 0
def gnI (xs : List Int) (t : Int) (e : Nat) : Int := gnF xs t e xs.length
def gbF (xs : List Int) (t : Int) : Nat → Int × Int
  | 0 => (0, 0)
  | e + 1 => if (gbF xs t e).2 < gnI xs t e then ((e : Int), gnI xs t e) else gbF xs t e
def gnx (xs : List Int) (n : Int) (t : Int) : Int := bor .i64 t (1 * 2 ^ (gbF xs t n.toNat).1.toNat)
/-- How many sets are not met. -/
def unmN (xs : List Int) (t : Int) : Nat := (xs.filter fun s => decide (band .i64 s t = 0)).length
def grd (xs : List Int) (n : Int) (t : Int) : Int := if h : meetsB xs t = false ∧ unmN xs (gnx xs n t) < unmN xs t then grd xs n (gnx xs n t) else t
termination_by unmN xs t
decreasing_by exact h.2
theorem gnF_bd {xs : List Int} {t : Int} {e : Nat} (hs : Small xs) : ∀ {i : Nat}, i ≤ xs.length → 0 ≤ gnF xs t e i ∧ gnF xs t e i ≤ i
  | 0, _ => by simp [gnF]
  | i + 1, hi => by
    have h1 := gnF_bd (t := t) (e := e) hs (i := i) (by omega)
    have h2 := hs i (by omega)
    have h3 := bit_bd (x := xs.getD i 0) (e := (e : Int)) (by omega)
    rw [Int.toNat_natCast] at h3
    simp only [gnF]; split <;> omega
theorem gnI_bd {xs : List Int} {t : Int} {e : Nat} (hs : Small xs) : 0 ≤ gnI xs t e ∧ gnI xs t e ≤ xs.length := gnF_bd hs (Nat.le_refl _)
theorem gbF_bd {xs : List Int} {t : Int} (hs : Small xs) : ∀ {e : Nat}, 0 ≤ (gbF xs t e).1 ∧ (gbF xs t e).1 ≤ e ∧ ((gbF xs t e).1 = 0 ∨ (gbF xs t e).1 < e) ∧ 0 ≤ (gbF xs t e).2 ∧ (gbF xs t e).2 ≤ xs.length
  | 0 => by simp [gbF]
  | e + 1 => by
    have h1 := gbF_bd (t := t) hs (e := e)
    have h2 := gnI_bd (t := t) (e := e) hs
    simp only [gbF]; split
    · simp only; omega
    · omega
theorem gbF_max {xs : List Int} {t : Int} : ∀ {e j : Nat}, j < e → gnI xs t j ≤ (gbF xs t e).2
  | 0, j, h => by omega
  | e + 1, j, h => by
    simp only [gbF]
    by_cases hj : j = e
    · subst hj; split
      · exact Int.le_refl _
      · omega
    · have := gbF_max (xs := xs) (t := t) (e := e) (j := j) (by omega)
      split
      · simp only; omega
      · exact this
theorem gbF_is {xs : List Int} {t : Int} : ∀ {e : Nat}, 0 < (gbF xs t e).2 → ∃ j, j < e ∧ (gbF xs t e).1 = (j : Int) ∧ gnI xs t j = (gbF xs t e).2
  | 0, h => by simp [gbF] at h
  | e + 1, h => by
    simp only [gbF] at h ⊢
    split at h
    · rename_i hh; rw [if_pos hh]; exact ⟨e, by omega, rfl, rfl⟩
    · rename_i hh
      rw [if_neg hh]
      obtain ⟨j, h1, h2, h3⟩ := gbF_is h
      exact ⟨j, by omega, h2, h3⟩
theorem gnF_mono {xs : List Int} {t : Int} {e : Nat} (hs : Small xs) {m : Nat} : ∀ {i : Nat}, m ≤ i → i ≤ xs.length → gnF xs t e m ≤ gnF xs t e i
  | 0, h, _ => by have : m = 0 := by omega
                  subst this; exact Int.le_refl _
  | i + 1, h, hi => by
    by_cases e1 : m = i + 1
    · subst e1; exact Int.le_refl _
    · have ih := gnF_mono (t := t) (e := e) hs (m := m) (i := i) (by omega) (by omega)
      have h2 := hs i (by omega)
      have h3 := bit_bd (x := xs.getD i 0) (e := (e : Int)) (by omega)
      rw [Int.toNat_natCast] at h3
      simp only [gnF]; split <;> omega
theorem gnI_pos {xs : List Int} {t : Int} {e : Nat} (hs : Small xs) {i : Nat} (hi : i < xs.length) (h1 : band .i64 (xs.getD i 0) t = 0) (h2 : band .i64 (xs.getD i 0 / 2 ^ e) 1 = 1) : 0 < gnI xs t e := by
  have a := gnF_mono (t := t) (e := e) hs (m := i + 1) (i := xs.length) (by omega) (by omega)
  have b := (gnF_bd (t := t) (e := e) hs (i := i) (by omega)).1
  simp only [gnF] at a
  rw [if_pos h1, h2] at a
  unfold gnI; omega
theorem gnI_has {xs : List Int} {t : Int} {e : Nat} (hs : Small xs) : ∀ {k : Nat}, k ≤ xs.length → 0 < gnF xs t e k → ∃ i, i < k ∧ band .i64 (xs.getD i 0) t = 0 ∧ band .i64 (xs.getD i 0 / 2 ^ e) 1 = 1
  | 0, _, h => by simp [gnF] at h
  | k + 1, hk, h => by
    have h2 := hs k (by omega)
    have h3 := bit_bd (x := xs.getD k 0) (e := (e : Int)) (by omega)
    rw [Int.toNat_natCast] at h3
    simp only [gnF] at h
    by_cases hp : 0 < gnF xs t e k
    · obtain ⟨i, h4, h5⟩ := gnI_has hs (by omega) hp
      exact ⟨i, by omega, h5⟩
    · have h0 := (gnF_bd (t := t) (e := e) hs (i := k) (by omega)).1
      by_cases hb : band .i64 (xs.getD k 0) t = 0
      · rw [if_pos hb] at h
        exact ⟨k, by omega, hb, by omega⟩
      · rw [if_neg hb] at h; omega
theorem meets_nat {xs : List Int} {s : Int} : meetsB xs s = true ↔ ∀ i, i < xs.length → ¬ band .i64 (xs.getD i 0) s = 0 := by
  rw [meetsB, allN_iff]
  constructor
  · intro h i hi; have := h i hi; simpa [meetN] using this
  · intro h i hi; have := h i hi; simpa [meetN] using this
theorem gnx_nat {n : Int} {xs : List Int} (hf : famB n xs = true) {T : Nat} (hT : T < 64) : ∃ j : Nat, gnx xs n T = ((T ||| 2 ^ j : Nat) : Int) ∧ (gbF xs T n.toNat).1 = j ∧ j ≤ 6 := by
  have hb := (famB_bd hf).1
  have h1 := gbF_bd (t := (T : Int)) (fam_smallL hf) (e := n.toNat)
  refine ⟨(gbF xs T n.toNat).1.toNat, ?_, by omega, by omega⟩
  have e : (1 : Int) * 2 ^ (gbF xs T n.toNat).1.toNat = ((2 ^ (gbF xs T n.toNat).1.toNat : Nat) : Int) := by simp
  have hp : 2 ^ (gbF xs T n.toNat).1.toNat ≤ 2 ^ 6 := Nat.pow_le_pow_right (by omega) (by omega)
  rw [gnx, e, bor_nat (by omega) (by omega)]
theorem gnx_step {n : Int} {xs : List Int} (hf : famB n xs = true) (h0 : ¬ (0 : Int) ∈ xs) {T : Nat} (hT : T < 2 ^ n.toNat) (hm : meetsB xs T = false) : ∃ T' : Nat, gnx xs n T = T' ∧ T' < 2 ^ n.toNat ∧ unmN xs T' < unmN xs T := by
  have hb := (famB_bd hf).1
  have h64 := pow6 hb
  have hs := fam_smallL hf
  have hex : ∃ i, i < xs.length ∧ band .i64 (xs.getD i 0) T = 0 := by
    by_cases hc : ∃ i, i < xs.length ∧ band .i64 (xs.getD i 0) T = 0
    · exact hc
    · exfalso
      have : meetsB xs T = true := meets_nat.2 fun i hi hz => hc ⟨i, hi, hz⟩
      rw [hm] at this; cases this
  obtain ⟨i, hi, hz⟩ := hex
  obtain ⟨X, hX, hX1, hX2⟩ := fam_nat hf hi
  have hX0 : ¬ X = 0 := fun e => h0 (mem_getD.2 ⟨i, hi, by rw [hX, e]; rfl⟩)
  obtain ⟨e, he⟩ := Nat.exists_testBit_of_ne_zero hX0
  have hlt := bit_lt he hX1
  have hpos := gnI_pos (t := (T : Int)) (e := e) hs hi hz (by rw [hX]; exact bit_one hX2 he)
  have hmx := gbF_max (xs := xs) (t := (T : Int)) hlt
  obtain ⟨j, hj1, hj2, hj3⟩ := gbF_is (xs := xs) (t := (T : Int)) (e := n.toNat) (by omega)
  obtain ⟨j', g1, g2, g3⟩ := gnx_nat hf (T := T) (by omega)
  have : j' = j := by omega
  subst this
  have hp : 2 ^ j' < 2 ^ n.toNat := Nat.pow_lt_pow_right (by omega) hj1
  have hor := Nat.or_lt_two_pow hT hp
  refine ⟨T ||| 2 ^ j', g1, hor, ?_⟩
  obtain ⟨k, k1, k2, k3⟩ := gnI_has (t := (T : Int)) (e := j') hs (Nat.le_refl _) (by unfold gnI at hj3; omega)
  obtain ⟨Y, hY, hY1, hY2⟩ := fam_nat hf k1
  have hbit : Y.testBit j' = true := by
    rw [hY] at k3
    have e1 : (Y : Int) / 2 ^ j' = ((Y / 2 ^ j' : Nat) : Int) := by simp
    have h0' : Y / 2 ^ j' ≤ Y := Nat.div_le_self _ _
    rw [e1] at k3
    rw [Nat.testBit_eq_decide_div_mod_eq, decide_eq_true_eq]
    clear e1
    generalize Y / 2 ^ j' = q at *
    rw [band_one (by omega)] at k3
    omega
  have hsub : ∀ s, s ∈ xs → band .i64 s ((T ||| 2 ^ j' : Nat) : Int) = 0 → band .i64 s T = 0 := fun s hsx hz => by
    obtain ⟨m, hm1, rfl⟩ := mem_getD.1 hsx
    obtain ⟨Z, hZ, hZ1, hZ2⟩ := fam_nat hf hm1
    rw [hZ, band_nat (by omega) (by omega)] at hz
    rw [hZ, band_nat (by omega) (by omega)]
    have : Z &&& (T ||| 2 ^ j') = 0 := by omega
    rw [Nat.and_or_distrib_left] at this
    have := (Nat.or_eq_zero_iff.1 this).1
    omega
  unfold unmN
  have e1 : (xs.filter fun s => decide (band .i64 s ((T ||| 2 ^ j' : Nat) : Int) = 0)) = (xs.filter fun s => decide (band .i64 s T = 0)).filter fun s => decide (band .i64 s ((T ||| 2 ^ j' : Nat) : Int) = 0) := by
    rw [List.filter_filter]
    refine List.filter_congr fun s hsx => ?_
    by_cases h : band .i64 s ((T ||| 2 ^ j' : Nat) : Int) = 0
    · rw [decide_eq_true h, decide_eq_true (hsub s hsx h)]; rfl
    · rw [decide_eq_false h]; rfl
  rw [e1, List.length_filter_lt_length_iff_exists]
  refine ⟨xs.getD k 0, List.mem_filter.2 ⟨mem_getD.2 ⟨k, k1, rfl⟩, by rw [decide_eq_true k2]⟩, ?_⟩
  rw [hY, band_nat (by omega) (by omega)]
  intro hc
  rw [decide_eq_true_eq] at hc
  have hc : Y &&& (T ||| 2 ^ j') = 0 := by omega
  have hc2 : (Y &&& (T ||| 2 ^ j')).testBit j' = true := by
    rw [Nat.testBit_and, Nat.testBit_or, hbit, Nat.testBit_two_pow_self, Bool.or_true]; rfl
  rw [hc] at hc2
  simp at hc2
theorem grd_f {n : Int} {xs : List Int} (hf : famB n xs = true) (h0 : ¬ (0 : Int) ∈ xs) {T : Nat} (hT : T < 2 ^ n.toNat) (hm : meetsB xs T = false) : grd xs n T = grd xs n (gnx xs n T) := by
  obtain ⟨T', h1, _, h2⟩ := gnx_step hf h0 hT hm
  rw [grd, dif_pos ⟨hm, by rw [h1]; exact h2⟩]
theorem grd_t {n : Int} {xs : List Int} {t : Int} (hm : meetsB xs t = true) : grd xs n t = t := by
  rw [grd, dif_neg]; rw [hm]; simp
theorem grd_tr {n : Int} {xs : List Int} (hf : famB n xs = true) (h0 : ¬ (0 : Int) ∈ xs) : ∀ (k T : Nat), T < 2 ^ n.toNat → unmN xs T = k → ∃ T' : Nat, grd xs n T = T' ∧ T' < 2 ^ n.toNat ∧ meetsB xs T' = true := by
  intro k
  induction k using Nat.strongRecOn with
  | _ k ih =>
    intro T hT hk
    cases hm : meetsB xs T with
    | true => exact ⟨T, grd_t hm, hT, hm⟩
    | false =>
      obtain ⟨T', h1, h2, h3⟩ := gnx_step hf h0 hT hm
      rw [grd_f hf h0 hT hm, h1]
      exact ih _ (hk ▸ h3) T' h2 rfl
def gtB (n : Int) (xs : List Int) : Bool := famB n xs && !decide ((0 : Int) ∈ xs)
def gtI (n : Int) (xs : List Int) : Int := if gtB n xs = true then grd xs n 0 else 0
theorem gt_t {n : Int} {xs : List Int} (h : gtB n xs = true) : gtI n xs = grd xs n 0 ∧ famB n xs = true ∧ ¬ (0 : Int) ∈ xs := by
  refine ⟨by simp [gtI, h], ?_⟩
  simpa [gtB] using h
theorem gt_f {n : Int} {xs : List Int} (h : gtB n xs = false) : gtI n xs = 0 := by simp [gtI, h]
theorem zero_first {n : Int} {xs : List Int} (hf : famB n xs = true) : (0 : Int) ∈ xs ↔ 0 < xs.length ∧ xs.getD 0 0 = 0 := by
  constructor
  · intro h
    obtain ⟨i, hi, e⟩ := mem_getD.1 h
    refine ⟨by omega, ?_⟩
    by_cases h0 : i = 0
    · subst h0; exact e
    · have := asc_get (asc_fam hf) (i := 0) (j := i) (by omega) hi
      have := (famB_bd hf).2 0 (by omega)
      omega
  · rintro ⟨h1, h2⟩
    exact mem_getD.2 ⟨0, h1, h2⟩
def gbI (xs : List Int) (t : Int) (e : Nat) : Int := if e = 0 then -1 else (gbF xs t e).2
theorem gb_t {xs : List Int} {t : Int} {e : Nat} (hs : Small xs) (h : gbI xs t e < gnI xs t e) : gbF xs t (e + 1) = ((e : Int), gnI xs t e) := by
  simp only [gbF]
  unfold gbI at h
  split at h
  · rename_i h0
    subst h0
    have := (gnI_bd (t := t) (e := 0) hs).1
    split
    · rfl
    · rename_i h2
      simp only [gbF] at h2 ⊢
      have : gnI xs t 0 = 0 := by omega
      rw [this]; rfl
  · rw [if_pos h]
theorem gb_f {xs : List Int} {t : Int} {e : Nat} (hs : Small xs) (h : ¬ gbI xs t e < gnI xs t e) : gbF xs t (e + 1) = gbF xs t e ∧ e ≠ 0 := by
  unfold gbI at h
  split at h
  · have := (gnI_bd (t := t) (e := e) hs).1
    omega
  · rename_i h0
    exact ⟨by simp only [gbF]; rw [if_neg h], h0⟩
theorem gbI_succ {xs : List Int} {t : Int} {e : Nat} : gbI xs t (e + 1) = (gbF xs t (e + 1)).2 := if_neg (by omega)
theorem gbI_ne {xs : List Int} {t : Int} {e : Nat} (h : e ≠ 0) : gbI xs t e = (gbF xs t e).2 := if_neg h

def lamAt (xs : List Int) (i k : Nat) : Bool := decide (band .i64 (xs.getD i 0) (xs.getD k 0) = 0 ∨ band .i64 (xs.getD i 0) (xs.getD k 0) = xs.getD i 0 ∨ band .i64 (xs.getD i 0) (xs.getD k 0) = xs.getD k 0)
theorem lamAt_iff {xs : List Int} {i k : Nat} : lamAt xs i k = true ↔ (band .i64 (xs.getD i 0) (xs.getD k 0) = 0 ∨ band .i64 (xs.getD i 0) (xs.getD k 0) = xs.getD i 0 ∨ band .i64 (xs.getD i 0) (xs.getD k 0) = xs.getD k 0) := by unfold lamAt; exact decide_eq_true_iff
theorem lamAt_f {xs : List Int} {i k : Nat} (h : ¬ (band .i64 (xs.getD i 0) (xs.getD k 0) = 0 ∨ band .i64 (xs.getD i 0) (xs.getD k 0) = xs.getD i 0 ∨ band .i64 (xs.getD i 0) (xs.getD k 0) = xs.getD k 0)) : lamAt xs i k = false := by unfold lamAt; exact decide_eq_false h
def lamB (xs : List Int) : Bool := allN xs.length fun i => allN i (lamAt xs i)

def inq (S : Nat) (x : Int) : Bool := S.testBit x.toNat
theorem hit_iff {q : List Int} {S i : Nat} (hS : S < 64) : hitAt q (S : Int) i ↔ inq S (q.getD i 0) = true := by
  unfold hitAt inq
  rw [band_shr_one (by omega), Nat.testBit_eq_decide_div_mod_eq, decide_eq_true_eq]
  omega
theorem pop_count : ∀ {n S : Nat}, S < 2 ^ n → n ≤ 62 → pop S = (List.range n).countP fun e => S.testBit e
  | 0, S, h, _ => by
    have : S = 0 := by simpa using h
    subst this; simp [pop_zero]
  | n + 1, S, h, hn => by
    have h1 : S / 2 < 2 ^ n := by rw [Nat.pow_succ] at h; omega
    have h2 : (2 : Nat) ^ (n + 1) ≤ 2 ^ 63 := Nat.pow_le_pow_right (by omega) (by omega)
    have ih := pop_count h1 (by omega)
    rw [pop_step (by omega), ih, List.range_succ_eq_map, List.countP_cons, List.countP_map]
    have e : ((fun e => S.testBit e) ∘ Nat.succ) = fun e => (S / 2).testBit e := by
      funext e; simp [Nat.testBit_succ]
    rw [e, Nat.testBit_zero]
    rcases Nat.mod_two_eq_zero_or_one S with h | h <;> rw [h] <;> simp <;> omega
def IsOrd (n : Nat) (q : List Int) : Prop := q.length = n ∧ Dist n q
theorem ord_iter {n : Nat} {q : List Int} (h : q ∈ iterF n n) : IsOrd n q := iterF_dist h
theorem ord_perm {n : Nat} {q : List Int} (hn : n ≤ 6) (h : IsOrd n q) : permB q.length q = true := dist_perm hn h.1 h.2
theorem ord_has {n : Nat} {q : List Int} (hn : n ≤ 6) (h : IsOrd n q) {e : Nat} (he : e < n) : ∃ i, i < q.length ∧ q.getD i 0 = (e : Int) := by
  have h1 := h.1
  exact perm_mem (ord_perm hn h) (by omega) (by omega)
theorem ord_get {n : Nat} {q : List Int} (h : IsOrd n q) {i : Nat} (hi : i < q.length) : 0 ≤ q.getD i 0 ∧ q.getD i 0 < n := h.2.2 _ (mem_getD.2 ⟨i, hi, rfl⟩)
theorem ord_ne {n : Nat} {q : List Int} (h : IsOrd n q) {i j : Nat} (hi : i < q.length) (hj : j < q.length) (he : q.getD i 0 = q.getD j 0) : i = j := by
  rw [getD_get hi, getD_get hj] at he
  rcases Nat.lt_trichotomy i j with h1 | h1 | h1
  · exact absurd he (List.pairwise_iff_getElem.1 h.2.1 i j hi hj h1)
  · exact h1
  · exact absurd he.symm (List.pairwise_iff_getElem.1 h.2.1 j i hj hi h1)
theorem ord_count {n : Nat} {q : List Int} (hn : n ≤ 6) (h : IsOrd n q) {S : Nat} (hS : S < 2 ^ n) : q.countP (inq S) = pop S := by
  have hp : q.Perm ((List.range n).map fun e : Nat => (e : Int)) := by
    rw [List.perm_ext_iff_of_nodup h.2.1 (by
      rw [List.Nodup, List.pairwise_map]
      exact List.Pairwise.imp (fun h e => h (by omega)) (List.nodup_range (n := n)))]
    intro x
    constructor
    · intro hx
      have := h.2.2 x hx
      exact List.mem_map.2 ⟨x.toNat, List.mem_range.2 (by omega), by omega⟩
    · intro hx
      obtain ⟨e, he, rfl⟩ := List.mem_map.1 hx
      obtain ⟨i, hi, hie⟩ := ord_has hn h (List.mem_range.1 he)
      exact mem_getD.2 ⟨i, hi, hie⟩
  rw [hp.countP_eq, List.countP_map, pop_count hS (by omega)]
  rfl
/-- How many of the first k are in S. -/
def cntQ (q : List Int) (S : Nat) : Nat → Nat
  | 0 => 0
  | k + 1 => cntQ q S k + if inq S (q.getD k 0) = true then 1 else 0
theorem cntQ_take {q : List Int} {S : Nat} : ∀ {k : Nat}, k ≤ q.length → cntQ q S k = (q.take k).countP (inq S)
  | 0, _ => rfl
  | k + 1, h => by
    rw [take_succ_getD (by omega), List.countP_append, ← cntQ_take (by omega), cntQ, List.countP_cons, List.countP_nil, Nat.zero_add]
theorem cntQ_pop {n : Nat} {q : List Int} (hn : n ≤ 6) (h : IsOrd n q) {S : Nat} (hS : S < 2 ^ n) : cntQ q S q.length = pop S := by
  rw [cntQ_take (Nat.le_refl _), List.take_length, ord_count hn h hS]
theorem cntQ_le {q : List Int} {S f : Nat} : ∀ {d : Nat}, cntQ q S (f + d) ≤ cntQ q S f + d ∧ (cntQ q S (f + d) = cntQ q S f + d → ∀ i, f ≤ i → i < f + d → inq S (q.getD i 0) = true)
  | 0 => ⟨Nat.le_refl _, fun _ i h1 h2 => absurd h2 (by omega)⟩
  | d + 1 => by
    obtain ⟨h1, h2⟩ := cntQ_le (q := q) (S := S) (f := f) (d := d)
    rw [← Nat.add_assoc]
    simp only [cntQ]
    refine ⟨by split <;> omega, fun he i hi1 hi2 => ?_⟩
    split at he
    · rename_i hh
      by_cases e : i = f + d
      · subst e; exact hh
      · exact h2 (by omega) i hi1 (by omega)
    · omega
theorem cntQ_all {q : List Int} {S f : Nat} : ∀ {d : Nat}, (∀ i, f ≤ i → i < f + d → inq S (q.getD i 0) = true) → cntQ q S (f + d) = cntQ q S f + d
  | 0, _ => rfl
  | d + 1, h => by
    rw [← Nat.add_assoc]
    simp only [cntQ]
    rw [cntQ_all fun i h1 h2 => h i h1 (by omega), if_pos (h (f + d) (by omega) (by omega))]; omega
theorem cntQ_none {q : List Int} {S f : Nat} : ∀ {d : Nat}, (∀ i, f ≤ i → i < f + d → ¬ inq S (q.getD i 0) = true) → cntQ q S (f + d) = cntQ q S f
  | 0, _ => rfl
  | d + 1, h => by
    rw [← Nat.add_assoc]
    simp only [cntQ]
    rw [cntQ_none fun i h1 h2 => h i h1 (by omega), if_neg (h (f + d) (by omega) (by omega))]; omega
theorem first_spec {q : List Int} {s : Int} : ∀ {k : Nat}, (∃ i, i < k ∧ hitAt q s i) → ∃ i : Nat, i < k ∧ hitAt q s i ∧ (∀ j, j < i → ¬ hitAt q s j) ∧ firstF q s k = i
  | 0, ⟨i, h, _⟩ => absurd h (by omega)
  | k + 1, ⟨i, h, hh⟩ => by
    by_cases hp : ∃ i, i < k ∧ hitAt q s i
    · obtain ⟨j, h1, h2, h3, h4⟩ := first_spec hp
      refine ⟨j, by omega, h2, h3, ?_⟩
      simp only [firstF]; rw [h4]
      split
      · rw [if_neg (by omega)]
      · rfl
    · have e : i = k := by
        by_cases e : i = k
        · exact e
        · exact absurd ⟨i, by omega, hh⟩ hp
      subst e
      refine ⟨i, by omega, hh, fun j hj hjh => hp ⟨j, hj, hjh⟩, ?_⟩
      have hn : firstF q s i = -1 := first_none fun j hj hjh => hp ⟨j, hj, hjh⟩
      simp only [firstF]; rw [if_pos hh, hn]; rfl
where first_none {q : List Int} {s : Int} : ∀ {k : Nat}, (∀ j, j < k → ¬ hitAt q s j) → firstF q s k = -1
  | 0, _ => rfl
  | k + 1, h => by
    simp only [firstF]; rw [if_neg (h k (by omega))]; exact first_none fun j hj => h j (by omega)
theorem last_spec {q : List Int} {s : Int} : ∀ {k : Nat}, (∃ i, i < k ∧ hitAt q s i) → ∃ i : Nat, i < k ∧ hitAt q s i ∧ (∀ j, i < j → j < k → ¬ hitAt q s j) ∧ lastF q s k = i
  | 0, ⟨i, h, _⟩ => absurd h (by omega)
  | k + 1, ⟨i, h, hh⟩ => by
    simp only [lastF]
    by_cases hk : hitAt q s k
    · exact ⟨k, by omega, hk, fun j h1 h2 => absurd h2 (by omega), if_pos hk⟩
    · have e : i ≠ k := fun e => hk (e ▸ hh)
      obtain ⟨j, h1, h2, h3, h4⟩ := last_spec (q := q) (s := s) (k := k) ⟨i, by omega, hh⟩
      refine ⟨j, by omega, h2, fun m hm1 hm2 => ?_, by rw [if_neg hk]; exact h4⟩
      by_cases e2 : m = k
      · subst e2; exact hk
      · exact h3 m hm1 (by omega)
theorem ord_hit {n : Nat} {q : List Int} (hn : n ≤ 6) (h : IsOrd n q) {S : Nat} (hS : S < 2 ^ n) (h0 : ¬ S = 0) : ∃ i, i < q.length ∧ hitAt q (S : Int) i := by
  have h6 : (2 : Nat) ^ n ≤ 2 ^ 6 := Nat.pow_le_pow_right (by omega) hn
  obtain ⟨e, he⟩ := Nat.exists_testBit_of_ne_zero h0
  have hlt : e < n := by
    by_cases hc : e < n
    · exact hc
    · rw [Nat.testBit_lt_two_pow (Nat.lt_of_lt_of_le hS (Nat.pow_le_pow_right (by omega) (by omega)))] at he; cases he
  obtain ⟨i, hi, hie⟩ := ord_has hn h hlt
  exact ⟨i, hi, (hit_iff (by omega)).2 (by rw [inq, hie, Int.toNat_natCast]; exact he)⟩
/-- A set is an interval: it has all that is between its first and its last one. -/
theorem wide_iff {n : Nat} {q : List Int} (hn : n ≤ 6) (h : IsOrd n q) {S : Nat} (hS : S < 2 ^ n) (h0 : ¬ S = 0) : ∃ f l : Nat, firstF q S q.length = f ∧ lastF q S q.length = l ∧ f ≤ l ∧ l < q.length ∧ hitAt q S f ∧ hitAt q S l ∧
    (∀ j, j < f → ¬ hitAt q S j) ∧ (∀ j, l < j → j < q.length → ¬ hitAt q S j) ∧ (wide q S = true ↔ ∀ i, f ≤ i → i ≤ l → hitAt q S i) := by
  have h6 : (2 : Nat) ^ n ≤ 2 ^ 6 := Nat.pow_le_pow_right (by omega) hn
  have hS6 : S < 64 := by omega
  obtain ⟨f, f1, f2, f3, f4⟩ := first_spec (ord_hit hn h hS h0)
  obtain ⟨l, l1, l2, l3, l4⟩ := last_spec (ord_hit hn h hS h0)
  have hfl : f ≤ l := by
    by_cases hc : f ≤ l
    · exact hc
    · exact absurd l2 (f3 l (by omega))
  refine ⟨f, l, f4, l4, hfl, l1, f2, l2, f3, l3, ?_⟩
  have c1 : cntQ q S f = 0 := by
    have := cntQ_none (q := q) (S := S) (f := 0) (d := f) fun i _ hi => fun hh => f3 i (by omega) ((hit_iff hS6).2 hh)
    rw [Nat.zero_add] at this; exact this
  have c3 := cntQ_none (q := q) (S := S) (f := l + 1) (d := q.length - (l + 1)) fun i hi1 hi2 => fun hh => l3 i (by omega) (by omega) ((hit_iff hS6).2 hh)
  have c2 := cntQ_le (q := q) (S := S) (f := f) (d := l + 1 - f)
  rw [show f + (l + 1 - f) = l + 1 by omega] at c2
  rw [show l + 1 + (q.length - (l + 1)) = q.length by omega, cntQ_pop hn h hS] at c3
  unfold wide
  rw [decide_eq_true_eq, f4, l4, popI, Int.toNat_natCast, c3]
  constructor
  · intro he i h1 h2
    exact (hit_iff hS6).2 (c2.2 (by omega) i h1 (by omega))
  · intro he
    have := cntQ_all (q := q) (S := S) (f := f) (d := l + 1 - f) fun i h1 h2 => (hit_iff hS6).1 (he i h1 (by omega))
    rw [show f + (l + 1 - f) = l + 1 by omega] at this
    omega
/-! Intervals are read back. -/
theorem seen_slice {n : Nat} {q : List Int} (hn : n ≤ 6) (h : IsOrd n q) {S : Nat} (hS : S < 2 ^ n) (h0 : ¬ S = 0) (hw : wide q S = true) : seen ((q.take (lastF q S q.length + 1).toNat).drop (firstF q S q.length).toNat) = S := by
  have h6 : (2 : Nat) ^ n ≤ 2 ^ 6 := Nat.pow_le_pow_right (by omega) hn
  obtain ⟨f, l, f4, l4, hfl, l1, f2, l2, f3, l3, hiff⟩ := wide_iff hn h hS h0
  have hall := hiff.1 hw
  rw [f4, l4, show ((l : Int) + 1).toNat = l + 1 by omega, Int.toNat_natCast]
  have hlen : ((q.take (l + 1)).drop f).length = l + 1 - f := by rw [List.length_drop, List.length_take]; omega
  have hget : ∀ j, j < l + 1 - f → ((q.take (l + 1)).drop f).getD j 0 = q.getD (f + j) 0 := fun j hj => by
    rw [List.getD_eq_getElem?_getD, List.getElem?_drop, List.getElem?_take, if_pos (by omega), List.getD_eq_getElem?_getD]
  obtain ⟨T, e1, e2, e3⟩ := seen_bits (xs := (q.take (l + 1)).drop f) (fun i hi => by
    rw [hget i (by omega)]
    have := ord_get h (i := f + i) (by omega)
    omega) (Nat.le_refl _)
  rw [List.take_length] at e1
  rw [e1]
  congr 1
  apply Nat.eq_of_testBit_eq
  intro e
  rw [Bool.eq_iff_iff, e3, hlen]
  constructor
  · rintro ⟨j, hj, hje⟩
    rw [hget j hj] at hje
    have := (hit_iff (by omega)).1 (hall (f + j) (by omega) (by omega))
    rw [inq, hje, Int.toNat_natCast] at this
    exact this
  · intro he
    have hlt : e < n := by
      by_cases hc : e < n
      · exact hc
      · rw [Nat.testBit_lt_two_pow (Nat.lt_of_lt_of_le hS (Nat.pow_le_pow_right (by omega) (by omega)))] at he; cases he
    obtain ⟨i, hi, hie⟩ := ord_has hn h hlt
    have hh : hitAt q S i := (hit_iff (by omega)).2 (by rw [inq, hie, Int.toNat_natCast]; exact he)
    have i1 : f ≤ i := by
      by_cases hc : f ≤ i
      · exact hc
      · exact absurd hh (f3 i (by omega))
    have i2 : i ≤ l := by
      by_cases hc : i ≤ l
      · exact hc
      · exact absurd hh (l3 i (by omega) hi)
    exact ⟨i - f, by omega, by rw [hget _ (by omega), show f + (i - f) = i by omega]; exact hie⟩
/-! All orders, each once. -/
theorem iter_mem {n : Nat} : ∀ {k : Nat} {q : List Int}, q.length = k → Dist n q → q ∈ iterF n k
  | 0, q, hl, _ => by
    have : q = [] := List.length_eq_zero_iff.1 hl
    subst this; simp [iterF]
  | k + 1, q, hl, hd => by
    have e : q = q.take k ++ [q.getD k 0] := by rw [← take_succ_getD (by omega), List.take_of_length_le (by omega)]
    have hnd := hd.1
    rw [e, List.nodup_append] at hnd
    have hb := hd.2 (q.getD k 0) (mem_getD.2 ⟨k, by omega, rfl⟩)
    have ih := iter_mem (n := n) (k := k) (q := q.take k) (by rw [List.length_take]; omega) ⟨hnd.1, fun x hx => hd.2 x (List.mem_of_mem_take hx)⟩
    rw [iterF, stepF, List.mem_flatMap]
    refine ⟨q.take k, ih, extF_mem.2 ⟨(q.getD k 0).toNat, by omega, ?_, ?_⟩⟩
    · intro hm
      rw [show (((q.getD k 0).toNat : Nat) : Int) = q.getD k 0 by omega] at hm
      exact hnd.2.2 _ hm (q.getD k 0) (by simp) rfl
    · rw [show (((q.getD k 0).toNat : Nat) : Int) = q.getD k 0 by omega]; exact e
theorem ext_nodup {p : List Int} : ∀ {n : Nat}, (extF p n).Nodup
  | 0 => List.nodup_nil
  | n + 1 => by
    simp only [extF]
    split
    · exact ext_nodup
    · rw [List.nodup_append]
      refine ⟨ext_nodup, by simp, fun a ha b hb e => ?_⟩
      simp only [List.mem_singleton] at hb
      subst hb; subst e
      obtain ⟨m, hm, _, he⟩ := extF_mem.1 ha
      have := List.append_cancel_left he
      simp at this
      omega
theorem iter_nodup {n : Nat} : ∀ {k : Nat}, (iterF n k).Nodup
  | 0 => by simp [iterF]
  | k + 1 => by
    rw [iterF, stepF, List.Nodup, List.pairwise_flatMap]
    refine ⟨fun a _ => ext_nodup, List.Pairwise.imp_of_mem (fun {a b} ha hb hne x hx y hy e => ?_) (iter_nodup (k := k))⟩
    subst e
    obtain ⟨m, _, _, h1⟩ := extF_mem.1 hx
    obtain ⟨m', _, _, h2⟩ := extF_mem.1 hy
    have la := (iterF_dist ha).1
    have lb := (iterF_dist hb).1
    rw [h1] at h2
    exact hne (List.append_inj h2 (by omega)).1
/-- A list that a map without fixed points turns into itself has even length. -/
theorem even_len {α : Type} [DecidableEq α] (f : α → α) : ∀ (k : Nat) (l : List α), l.length = k → l.Nodup → (∀ x, x ∈ l → f x ∈ l ∧ f (f x) = x ∧ f x ≠ x) → l.length % 2 = 0 := by
  intro k
  induction k using Nat.strongRecOn with
  | _ k ih =>
    intro l hk hd hf
    cases l with
    | nil => rfl
    | cons a r =>
      rw [List.nodup_cons] at hd
      obtain ⟨h1, h2, h3⟩ := hf a (by simp)
      have hm : f a ∈ r := by
        rcases List.mem_cons.1 h1 with h | h
        · exact absurd h h3
        · exact h
      have hl := List.length_erase_of_mem hm
      have hpos := List.length_pos_of_mem hm
      have := ih (r.erase (f a)).length (by simp only [List.length_cons] at hk; omega) (r.erase (f a)) rfl (hd.2.erase _) fun x hx => by
        rw [hd.2.mem_erase_iff] at hx
        obtain ⟨g1, g2, g3⟩ := hf x (by simp [hx.2])
        refine ⟨?_, g2, g3⟩
        rw [hd.2.mem_erase_iff]
        refine ⟨fun e => ?_, ?_⟩
        · have : x = a := by rw [← g2, e, h2]
          exact hd.1 (this ▸ hx.2)
        · rcases List.mem_cons.1 g1 with h | h
          · exact absurd (by rw [← g2, h]) hx.1
          · exact h
      simp only [List.length_cons]
      omega
theorem rev_get {q : List Int} {i : Nat} (h : i < q.length) : q.reverse.getD i 0 = q.getD (q.length - 1 - i) 0 := by
  rw [List.getD_eq_getElem?_getD, List.getElem?_reverse h, List.getD_eq_getElem?_getD]
theorem ord_rev {n : Nat} {q : List Int} (h : IsOrd n q) : IsOrd n q.reverse := by
  refine ⟨by rw [List.length_reverse]; exact h.1, ?_, fun x hx => h.2.2 x (List.mem_reverse.1 hx)⟩
  exact ((List.reverse_perm q).nodup_iff).2 h.2.1
theorem hit_rev {q : List Int} {s : Int} {i : Nat} (h : i < q.length) : hitAt q.reverse s i ↔ hitAt q s (q.length - 1 - i) := by
  unfold hitAt; rw [rev_get h]
theorem wide_rev {n : Nat} {q : List Int} (hn : n ≤ 6) (h : IsOrd n q) {S : Nat} (hS : S < 2 ^ n) (h0 : ¬ S = 0) (hw : wide q S = true) : wide q.reverse S = true := by
  obtain ⟨f, l, f4, l4, hfl, l1, f2, l2, f3, l3, hiff⟩ := wide_iff hn h hS h0
  obtain ⟨f', l', f4', l4', hfl', l1', f2', l2', f3', l3', hiff'⟩ := wide_iff hn (ord_rev h) hS h0
  rw [List.length_reverse] at *
  have hall := hiff.1 hw
  rw [hiff']
  intro i h1 h2
  rw [hit_rev (by omega)] at f2' l2' ⊢
  refine hall _ ?_ ?_
  · by_cases hc : f ≤ q.length - 1 - l'
    · omega
    · exact absurd l2' (f3 _ (by omega))
  · by_cases hc : q.length - 1 - f' ≤ l
    · omega
    · exact absurd f2' (l3 _ (by omega) (by omega))
theorem fit_set {n : Int} {xs : List Int} (hf : famB n xs = true) {i : Nat} (hi : i < xs.length) : ∃ S : Nat, xs.getD i 0 = S ∧ S < 2 ^ n.toNat := by
  have hb := famB_bd hf
  have h := hb.2 i hi
  have e : ((2 ^ n.toNat : Nat) : Int) = 2 ^ n.toNat := by simp
  have h2 : 0 < (2 : Nat) ^ n.toNat := Nat.two_pow_pos _
  have e2 : fullI n = ((2 ^ n.toNat - 1 : Nat) : Int) := by unfold fullI; omega
  exact ⟨(xs.getD i 0).toNat, by omega, by omega⟩
theorem fit_rev {n : Int} {xs q : List Int} (hf : famB n xs = true) (h : IsOrd n.toNat q) (hw : fitB xs q = true) : fitB xs q.reverse = true := by
  have hb := (famB_bd hf).1
  rw [fitB, allN_iff] at hw ⊢
  intro i hi
  have h1 := hw i hi
  obtain ⟨S, hS, hlt⟩ := fit_set hf hi
  rw [fitAt, Bool.or_eq_true, decide_eq_true_eq] at h1 ⊢
  rcases h1 with h1 | h1
  · exact .inl h1
  · by_cases h0 : S = 0
    · left; rw [hS, h0]; rfl
    · right; rw [hS] at h1 ⊢; exact wide_rev (by omega) h hlt h0 h1
theorem cio_even {n : Int} {xs : List Int} (h1 : 1 < cioI n xs) (h2 : 1 < n) : (cioI n xs).tmod 2 = 0 := by
  unfold cioI at h1 ⊢
  split at h1
  · rename_i hf
    rw [if_pos hf]
    have hb := (famB_bd hf).1
    have := even_len List.reverse _ ((iterF n.toNat n.toNat).filter fun p => fitB xs p) rfl (List.Pairwise.filter _ iter_nodup) fun q hq => by
      rw [List.mem_filter] at hq ⊢
      have ho := ord_iter hq.1
      refine ⟨⟨iter_mem (ord_rev ho).1 (ord_rev ho).2, fit_rev hf ho hq.2⟩, List.reverse_reverse q, fun e => ?_⟩
      have hl := ho.1
      have := rev_get (q := q) (i := 0) (by omega)
      rw [e] at this
      have := ord_ne ho (by omega) (by omega) this
      omega
    have hc : cntO xs (iterF n.toNat n.toNat) = ((iterF n.toNat n.toNat).filter fun p => fitB xs p).length := rfl
    rw [hc]
    rw [Int.tmod_eq_emod_of_nonneg (by omega)]
    omega
  · omega
theorem cio_io {n : Int} {xs : List Int} : decide (0 < cioI n xs) = opB' (ioO n xs) := by
  unfold cioI ioO
  split
  · rename_i hf
    cases hq : (iterF n.toNat n.toNat).find? (fun p => fitB xs p) with
    | none =>
      rw [List.find?_eq_none] at hq
      have : cntO xs (iterF n.toNat n.toNat) = 0 := by
        rw [cntO, List.length_eq_zero_iff, List.filter_eq_nil_iff]
        exact hq
      rw [this]; rfl
    | some q =>
      have h1 := List.mem_of_find?_eq_some hq
      have h2 := List.find?_some hq
      have : 0 < cntO xs (iterF n.toNat n.toNat) := List.length_filter_pos_iff.2 ⟨q, h1, h2⟩
      simp only [opB', decide_eq_true_eq]; omega
  · rfl
theorem io_some {n : Int} {xs q : List Int} (h : ioO n xs = some q) : famB n xs = true ∧ IsOrd n.toNat q ∧ fitB xs q = true := by
  unfold ioO at h
  split at h
  · rename_i hf
    exact ⟨hf, ord_iter (List.mem_of_find?_eq_some h), List.find?_some h⟩
  · cases h
theorem io_perm {n : Int} {xs q : List Int} (h : ioO n xs = some q) : permB n q = true ∧ q.length ≤ 6 ∧ (q.length : Int) = n := by
  obtain ⟨hf, ho, _⟩ := io_some h
  have hb := (famB_bd hf).1
  have h1 := ord_perm (by omega) ho
  have h2 := ho.1
  have e : (q.length : Int) = n := by omega
  rw [e] at h1
  exact ⟨h1, by omega, e⟩
theorem io_back {n : Int} {xs q : List Int} (h : ioO n xs = some q) {i : Nat} (hi : i < xs.length) (h0 : ¬ xs.getD i 0 = 0) :
    ivlOk q (xs.getD i 0) = true ∧ soiOk q (ivlA q (xs.getD i 0)) (ivlB q (xs.getD i 0)) = true ∧ soi q (ivlA q (xs.getD i 0)) (ivlB q (xs.getD i 0)) = xs.getD i 0 := by
  obtain ⟨hf, ho, hw⟩ := io_some h
  obtain ⟨hp, hl6, hln⟩ := io_perm h
  have hb := famB_bd hf
  obtain ⟨S, hS, hlt⟩ := fit_set hf hi
  have hbi := hb.2 i hi
  rw [fitB, allN_iff] at hw
  have hwi := hw i hi
  rw [fitAt, Bool.or_eq_true, decide_eq_true_eq] at hwi
  have hwi := hwi.resolve_left h0
  rw [hS] at hwi h0 hbi ⊢
  have hS0 : ¬ S = 0 := by omega
  have hpl : permB q.length q = true := by rw [hln]; exact hp
  have ho6 : ord6 q = true := by rw [ord6, hpl, decide_eq_true hl6]; rfl
  have hin : ivlIn q S = true := by
    rw [ivlIn, ho6, Bool.true_and, inB_t, hln]; omega
  have hok : ivlOk q S = true := by rw [ivlOk, hin, hwi]; rfl
  obtain ⟨e1, e2⟩ := ivl_t hok
  obtain ⟨f, l, f4, l4, hfl, l1, _⟩ := wide_iff (by omega) ho hlt hS0
  have hsl := seen_slice (by omega) ho hlt hS0 hwi
  rw [e1, e2]
  have hso : ord6 q = true ∧ inB (firstF q S q.length) 0 (q.length - 1) = true ∧ inB (lastF q S q.length) (firstF q S q.length) (q.length - 1) = true := by
    rw [f4, l4, inB_t, inB_t]
    exact ⟨ho6, by omega, by omega⟩
  obtain ⟨g1, g2⟩ := soi_t hso
  exact ⟨hok, g1, by rw [g2]; exact hsl⟩

def chkU (a b : Nat) : Bool := decide (a &&& b = 0 → popF 6 (a ||| b) = popF 6 a + popF 6 b)
def chkM (a b : Nat) : Bool := decide (popF 6 (a &&& b) ≤ popF 6 a)
theorem chkU_all : ((List.range 64).all fun a => (List.range 64).all fun b => chkU a b && chkM a b) = true := by decide +kernel
theorem pop_or {a b : Nat} (ha : a < 64) (hb : b < 64) (h : a &&& b = 0) : popF 6 (a ||| b) = popF 6 a + popF 6 b := by
  have := List.all_eq_true.1 (List.all_eq_true.1 chkU_all a (List.mem_range.2 ha)) b (List.mem_range.2 hb)
  simp only [chkU, Bool.and_eq_true, decide_eq_true_eq] at this
  exact this.1 h
theorem pop_and_le {a b : Nat} (ha : a < 64) (hb : b < 64) : popF 6 (a &&& b) ≤ popF 6 a := by
  have := List.all_eq_true.1 (List.all_eq_true.1 chkU_all a (List.mem_range.2 ha)) b (List.mem_range.2 hb)
  simp only [chkM, Bool.and_eq_true, decide_eq_true_eq] at this
  exact this.2
theorem popI_six {a : Nat} (h : a < 64) : popI (a : Int) = popF 6 a := by rw [popI, Int.toNat_natCast, pop_six h]
theorem pop6_pos {a : Nat} (h : a < 64) (h0 : a ≠ 0) : 1 ≤ popF 6 a := by
  have hall : ((List.range 64).all fun a => decide (a ≠ 0 → 1 ≤ popF 6 a)) = true := by decide +kernel
  have := List.all_eq_true.1 hall a (List.mem_range.2 h)
  simp only [decide_eq_true_eq] at this
  exact this h0
/-- Parts of sets. -/
theorem sub_iff {s t : Nat} (hs : s < 64) (ht : t < 64) : subP (s : Int) (t : Int) = true ↔ t ≠ s ∧ t &&& s = t := by
  rw [subP_iff, bandn_zero (by omega) (by omega), band_nat (by omega) (by omega)]
  omega
theorem sm_nat {xs : List Int} (hs : Small xs) {y : Int} (hy : y ∈ xs) : ∃ Y : Nat, y = Y ∧ Y < 64 := by
  have := small_mem.1 hs y hy
  exact ⟨y.toNat, by omega, by omega⟩
theorem minL_mem {xs : List Int} {y : Int} : y ∈ minL xs ↔ y ∈ xs ∧ ∀ t, t ∈ xs → subP y t = false := by
  rw [minL, List.mem_filter, loneP, Bool.not_eq_true', ← Bool.not_eq_true, List.any_eq_true]
  constructor
  · rintro ⟨h1, h2⟩
    refine ⟨h1, fun t ht => ?_⟩
    cases h : subP y t with
    | false => rfl
    | true => exact absurd ⟨t, ht, h⟩ h2
  · rintro ⟨h1, h2⟩
    refine ⟨h1, ?_⟩
    rintro ⟨t, ht, h⟩
    rw [h2 t ht] at h; cases h
theorem below_min {T : List Int} (hs : Small T) : ∀ (k t : Nat), t = k → (t : Int) ∈ T → ∃ b : Nat, (b : Int) ∈ minL T ∧ b &&& t = b := by
  intro k
  induction k using Nat.strongRecOn with
  | _ k ih =>
    intro t htk ht
    by_cases h : (t : Int) ∈ minL T
    · exact ⟨t, h, Nat.and_self t⟩
    · have : ∃ u, u ∈ T ∧ subP t u = true := by
        by_cases hc : ∃ u, u ∈ T ∧ subP t u = true
        · exact hc
        · exfalso
          apply h
          rw [minL_mem]
          refine ⟨ht, fun u hu => ?_⟩
          cases h' : subP t u with
          | false => rfl
          | true => exact absurd ⟨u, hu, h'⟩ hc
      obtain ⟨u, hu, hsub⟩ := this
      obtain ⟨U, rfl, hU⟩ := sm_nat hs hu
      obtain ⟨T', hT', hT6⟩ := sm_nat hs ht
      have : T' = t := by omega
      subst this
      obtain ⟨h1, h2⟩ := (sub_iff hT6 hU).1 hsub
      have hle := Nat.and_le_right (n := U) (m := T')
      obtain ⟨b, hb, hb2⟩ := ih U (by omega) U rfl hu
      refine ⟨b, hb, ?_⟩
      rw [← hb2, Nat.and_assoc, h2]
theorem trs_mem {n : Int} {xs : List Int} (hf : famB n xs = true) {S : Nat} : (S : Int) ∈ trsL n xs ↔ S < 2 ^ n.toNat ∧ ∀ i, i < xs.length → (xs.getD i 0).toNat &&& S ≠ 0 := by
  have h64 := pow6 (famB_bd hf).1
  rw [trsL, selF_mem, meets_nat]
  constructor
  · rintro ⟨h1, h2⟩
    refine ⟨by omega, fun i hi h => h2 i hi ?_⟩
    obtain ⟨X, hX, hX1, hX2⟩ := fam_nat hf hi
    rw [hX, Int.toNat_natCast] at h
    rw [hX, band_nat (by omega) (by omega), h]; rfl
  · rintro ⟨h1, h2⟩
    refine ⟨by omega, fun i hi h => h2 i hi ?_⟩
    obtain ⟨X, hX, hX1, hX2⟩ := fam_nat hf hi
    rw [hX, band_nat (by omega) (by omega)] at h
    rw [hX, Int.toNat_natCast]; omega
theorem trs_sm {n : Int} {xs : List Int} (hf : famB n xs = true) : Small (trsL n xs) := fam_smallL (trs_fam hf)
theorem bk_mem {n : Int} {xs : List Int} (hf : famB n xs = true) {b : Int} (hb : b ∈ bkL n xs) : ∃ B : Nat, b = B ∧ B < 64 ∧ (B : Int) ∈ trsL n xs := by
  rw [(bk_t hf).2] at hb
  have h1 := (minL_mem.1 hb).1
  obtain ⟨B, rfl, h2⟩ := sm_nat (trs_sm hf) h1
  exact ⟨B, rfl, h2, h1⟩
theorem bk_below {n : Int} {xs : List Int} (hf : famB n xs = true) {t : Nat} (ht : (t : Int) ∈ trsL n xs) : ∃ b : Nat, (b : Int) ∈ bkL n xs ∧ b &&& t = b := by
  rw [(bk_t hf).2]; exact below_min (trs_sm hf) t t rfl ht
theorem bk_meets {n : Int} {xs : List Int} (hf : famB n xs = true) {S : Nat} (hS : S < 2 ^ n.toNat) : (S : Int) ∈ trsL n (bkL n xs) ↔ ∃ i, i < xs.length ∧ (xs.getD i 0).toNat &&& S = (xs.getD i 0).toNat := by
  have h64 := pow6 (famB_bd hf).1
  rw [trs_mem (bkL_fam hf)]
  constructor
  · rintro ⟨_, h⟩
    by_cases hc : ∃ i, i < xs.length ∧ (xs.getD i 0).toNat &&& S = (xs.getD i 0).toNat
    · exact hc
    · exfalso
      have hC : ((2 ^ n.toNat - (S + 1) : Nat) : Int) ∈ trsL n xs := by
        rw [trs_mem hf]
        refine ⟨by omega, fun i hi h0 => hc ⟨i, hi, ?_⟩⟩
        obtain ⟨X, hX, hX1, hX2⟩ := fam_nat hf hi
        rw [hX, Int.toNat_natCast] at h0 ⊢
        rw [comp_and hX1 hS] at h0
        exact xor_and_zero.1 h0
      obtain ⟨b, hb, hb2⟩ := bk_below hf hC
      obtain ⟨k, hk, hke⟩ := mem_getD.1 hb
      have := h k hk
      rw [hke, Int.toNat_natCast] at this
      apply this
      have h5 : (2 ^ n.toNat - (S + 1)) &&& S = 0 := by
        apply Nat.eq_of_testBit_eq
        intro i
        rw [Nat.testBit_and, Nat.testBit_two_pow_sub_succ hS, Nat.zero_testBit]
        cases S.testBit i <;> simp
      rw [← hb2, Nat.and_assoc, h5, Nat.and_zero]
  · rintro ⟨i, hi, hs⟩
    refine ⟨hS, fun k hk h0 => ?_⟩
    obtain ⟨B, hB, _, hBt⟩ := bk_mem hf (mem_getD.2 ⟨k, hk, rfl⟩)
    rw [hB, Int.toNat_natCast] at h0
    have := ((trs_mem hf).1 hBt).2 i hi
    apply this
    rw [← hs, Nat.and_assoc, Nat.and_comm S B, h0, Nat.and_zero]
/-- The blocker's blocker. -/
theorem bk_bk {n : Int} {xs : List Int} (hf : famB n xs = true) : bkL n (bkL n xs) = minL xs := by
  have h64 := pow6 (famB_bd hf).1
  have hU := trs_fam (bkL_fam hf)
  rw [(bk_t (bkL_fam hf)).2]
  have inU : ∀ {S : Nat}, S < 2 ^ n.toNat → ((S : Int) ∈ trsL n (bkL n xs) ↔ ∃ i, i < xs.length ∧ (xs.getD i 0).toNat &&& S = (xs.getD i 0).toNat) := fun h => bk_meets hf h
  have hsm := fam_smallL hU
  have hlt : ∀ {S : Nat}, (S : Int) ∈ trsL n (bkL n xs) → S < 2 ^ n.toNat := fun h => ((trs_mem (bkL_fam hf)).1 h).1
  refine asc_ext (asc_filter (asc_fam hU) _) (asc_filter (asc_fam hf) _) fun y => ?_
  rw [minL_mem, minL_mem]
  constructor
  · rintro ⟨h1, h2⟩
    obtain ⟨Y, rfl, hY6⟩ := sm_nat hsm h1
    have hYn := hlt h1
    obtain ⟨i, hi, hs⟩ := (inU hYn).1 h1
    obtain ⟨X, hX, hX1, hX2⟩ := fam_nat hf hi
    rw [hX, Int.toNat_natCast] at hs
    have hXU : (X : Int) ∈ trsL n (bkL n xs) := (inU hX1).2 ⟨i, hi, by rw [hX, Int.toNat_natCast, Nat.and_self]⟩
    have hXY : X = Y := by
      by_cases hc : X = Y
      · exact hc
      · have := (sub_iff hY6 hX2).2 ⟨hc, hs⟩
        rw [h2 _ hXU] at this; cases this
    subst hXY
    refine ⟨mem_getD.2 ⟨i, hi, hX⟩, fun t ht => ?_⟩
    obtain ⟨k, hk, hke⟩ := mem_getD.1 ht
    obtain ⟨Z, hZ, hZ1, hZ2⟩ := fam_nat hf hk
    have et : t = (Z : Int) := by rw [← hke, hZ]
    rw [et]
    exact h2 _ ((inU hZ1).2 ⟨k, hk, by rw [hZ, Int.toNat_natCast, Nat.and_self]⟩)
  · rintro ⟨h1, h2⟩
    obtain ⟨i, hi, hie⟩ := mem_getD.1 h1
    obtain ⟨Y, hY, hY1, hY2⟩ := fam_nat hf hi
    have ey : y = (Y : Int) := by rw [← hie, hY]
    rw [ey] at h1 h2 ⊢
    refine ⟨(inU hY1).2 ⟨i, hi, by rw [hY, Int.toNat_natCast, Nat.and_self]⟩, fun t ht => ?_⟩
    obtain ⟨T, rfl, hT6⟩ := sm_nat hsm ht
    cases hst : subP (Y : Int) (T : Int) with
    | false => rfl
    | true =>
      exfalso
      obtain ⟨g1, g2⟩ := (sub_iff hY2 hT6).1 hst
      obtain ⟨k, hk, hs⟩ := (inU (hlt ht)).1 ht
      obtain ⟨Z, hZ, hZ1, hZ2⟩ := fam_nat hf hk
      rw [hZ, Int.toNat_natCast] at hs
      have hne : Z ≠ Y := fun e => by
        subst e
        have := Nat.and_le_right (n := Z) (m := T)
        have := Nat.and_le_right (n := T) (m := Z)
        omega
      have hsub : Z &&& Y = Z := by rw [← hs, Nat.and_assoc, g2]
      have := (sub_iff hY2 hZ2).2 ⟨hne, hsub⟩
      rw [h2 _ (mem_getD.2 ⟨k, hk, hZ⟩)] at this; cases this
theorem bk_law {n : Int} {xs : List Int} (hf : famB n xs = true) : (decide (bkN (bkN n xs) (bkL n xs) = msN n xs) && decide (bkL (bkN n xs) (bkL n xs) = msL n xs)) = true := by
  rw [(bk_t hf).1, (bk_t (bkL_fam hf)).1, (ms_t hf).1, (ms_t hf).2, bk_bk hf, decide_eq_true rfl, decide_eq_true rfl]; rfl
theorem full_trs {n : Int} {xs : List Int} (hf : famB n xs = true) (h0 : ¬ (0 : Int) ∈ xs) : ((2 ^ n.toNat - 1 : Nat) : Int) ∈ trsL n xs := by
  have h64 := pow6 (famB_bd hf).1
  rw [trs_mem hf]
  refine ⟨by omega, fun i hi h => h0 (mem_getD.2 ⟨i, hi, ?_⟩)⟩
  obtain ⟨X, hX, hX1, hX2⟩ := fam_nat hf hi
  rw [hX, Int.toNat_natCast, Nat.and_two_pow_sub_one_eq_mod, Nat.mod_eq_of_lt hX1] at h
  rw [hX, h]; rfl
theorem tnB_iff {n : Int} {xs : List Int} (hf : famB n xs = true) : tnB n xs = true ↔ ¬ (0 : Int) ∈ xs := by
  rw [tnB, hf, Bool.true_and, Bool.not_eq_true', decide_eq_false_iff_not]
  constructor
  · intro h hz
    have hpos : 0 < (bkL n xs).length := by omega
    obtain ⟨B, _, _, hBt⟩ := bk_mem hf (mem_getD.2 ⟨0, hpos, rfl⟩)
    obtain ⟨i, hi, hie⟩ := mem_getD.1 hz
    have := ((trs_mem hf).1 hBt).2 i hi
    rw [hie] at this
    exact this (Nat.zero_and B)
  · intro h0
    obtain ⟨b, hb, _⟩ := bk_below hf (full_trs hf h0)
    have := List.length_pos_of_mem hb
    omega
theorem ist_of {n : Int} {xs : List Int} (hf : famB n xs = true) {S : Nat} (h : (S : Int) ∈ trsL n xs) : istB n xs S = true := by
  have h64 := pow6 (famB_bd hf).1
  have hm := h
  rw [trsL, selF_mem] at hm
  have hi : inS n S = true := in_full (famB_bd hf).1.1 (by omega)
  rw [istB, hf, hi, hm.2]; rfl
theorem ist_bk {n : Int} {xs : List Int} (hf : famB n xs = true) {i : Nat} (hi : i < (bkL n xs).length) : istB n xs ((bkL n xs).getD i 0) = true := by
  obtain ⟨B, hB, _, hBt⟩ := bk_mem hf (mem_getD.2 ⟨i, hi, rfl⟩)
  rw [hB]; exact ist_of hf hBt
/-! Packings. -/
def PkOk (xs l : List Int) : Prop := ∀ i, i < l.length → ipAt xs l i = true
theorem ipU_app {l : List Int} {s : Int} : ∀ {i : Nat}, i ≤ l.length → ipU (l ++ [s]) i = ipU l i
  | 0, _ => rfl
  | i + 1, h => by
    simp only [ipU]
    rw [ipU_app (by omega), getD_left (by omega)]
theorem pk_snoc {xs l : List Int} {s : Int} (h : PkOk xs l) (hs : s ∈ xs) (hfit : fitP (ipU l l.length) s = true) : PkOk xs (l ++ [s]) ∧ ipU (l ++ [s]) (l ++ [s]).length = bor .i64 (ipU l l.length) s := by
  rw [fitP, Bool.and_eq_true, Bool.not_eq_true', decide_eq_false_iff_not, decide_eq_true_eq] at hfit
  refine ⟨fun i hi => ?_, ?_⟩
  · rw [List.length_append, List.length_singleton] at hi
    by_cases e : i = l.length
    · subst e
      rw [ipAt_iff, getD_last, ipU_app (Nat.le_refl _)]
      exact ⟨hs, hfit.2, hfit.1⟩
    · have := ipAt_iff.1 (h i (by omega))
      rw [ipAt_iff, getD_left (by omega), ipU_app (by omega)]
      exact this
  · rw [List.length_append, List.length_singleton]
    simp only [ipU]
    rw [ipU_app (Nat.le_refl _), getD_last]
theorem pgrw_ok {xs : List Int} : ∀ {r : List Int} {l b : List Int}, (∀ s, s ∈ r → s ∈ xs) → PkOk xs l → PkOk xs b → PkOk xs (pgrw r (ipU l l.length) l b)
  | [], l, b, _, _, hb => hb
  | s :: r, l, b, hr, hl, hb => by
    simp only [pgrw]
    have hr' : ∀ t, t ∈ r → t ∈ xs := fun t ht => hr t (by simp [ht])
    split
    · rename_i hf
      obtain ⟨h1, h2⟩ := pk_snoc hl (hr s (by simp)) hf
      refine pgrw_ok hr' hl ?_
      rw [← h2]
      have h3 := pgrw_ok hr' h1 h1
      unfold comb; split
      · exact h3
      · exact hb
    · exact pgrw_ok hr' hl hb
theorem pk_law {n : Int} {xs : List Int} (hf : famB n xs = true) : ipB n xs (pkL n xs) = true := by
  have h := pgrw_ok (xs := xs) (r := xs) (l := []) (b := []) (fun s hs => hs) (fun i hi => by simp at hi) (fun i hi => by simp at hi)
  rw [ipB, hf, Bool.true_and, pkL, if_pos hf]
  exact allN_t h
theorem pk_few {n : Int} {xs l : List Int} (hf : famB n xs = true) (hl : PkOk xs l) {t : Nat} (ht : (t : Int) ∈ trsL n xs) : ∀ {i : Nat}, i ≤ l.length → ∃ U : Nat, ipU l i = U ∧ U < 64 ∧ i ≤ popF 6 (t &&& U)
  | 0, _ => ⟨0, rfl, by omega, by omega⟩
  | i + 1, hi => by
    have h64 := pow6 (famB_bd hf).1
    obtain ⟨U, h1, h2, h3⟩ := pk_few hf hl ht (i := i) (by omega)
    obtain ⟨a, b, c⟩ := ipAt_iff.1 (hl i (by omega))
    obtain ⟨k, hk, hke⟩ := mem_getD.1 a
    obtain ⟨X, hX, hX1, hX2⟩ := fam_nat hf hk
    have ex : l.getD i 0 = (X : Int) := by rw [← hke, hX]
    have htn := (trs_mem hf).1 ht
    have hmeet := htn.2 k hk
    rw [hX, Int.toNat_natCast] at hmeet
    rw [ex, h1, band_nat (by omega) (by omega)] at b
    have b0 : X &&& U = 0 := by omega
    refine ⟨U ||| X, by simp only [ipU]; rw [h1, ex, bor_nat (by omega) (by omega)], Nat.or_lt_two_pow (n := 6) (by omega) (by omega), ?_⟩
    have hd : (t &&& U) &&& (t &&& X) = 0 := by
      rw [show (t &&& U) &&& (t &&& X) = (X &&& U) &&& t from by
        rw [Nat.and_comm t U, Nat.and_assoc, ← Nat.and_assoc t t X, Nat.and_self, Nat.and_comm t X, ← Nat.and_assoc, Nat.and_comm U X], b0, Nat.zero_and]
    rw [Nat.and_or_distrib_left, pop_or (and_lt64 (by omega)) (and_lt64 (by omega)) hd]
    have := pop6_pos (a := t &&& X) (and_lt64 (by omega)) (by rw [Nat.and_comm]; exact hmeet)
    omega
theorem lst_mem {l : List Int} (h : 0 < l.length) : ∀ {i : Nat}, i ≤ l.length → lstF l i ∈ l
  | 0, _ => mem_getD.2 ⟨0, h, rfl⟩
  | i + 1, hi => by
    simp only [lstF]; split
    · exact mem_getD.2 ⟨i, by omega, rfl⟩
    · exact lst_mem h (by omega)
theorem lst_least {l : List Int} : ∀ {i j : Nat}, j < i → popI (lstF l i) ≤ popI (l.getD j 0)
  | 0, j, h => by omega
  | i + 1, j, h => by
    simp only [lstF]
    by_cases e : j = i
    · subst e; split
      · exact Int.le_refl _
      · omega
    · have := lst_least (l := l) (i := i) (j := j) (by omega)
      split <;> omega
theorem elemsF_cnt {s : Nat} : ∀ {n : Nat}, (elemsF s n).length = (List.range n).countP fun e => s.testBit e
  | 0 => rfl
  | n + 1 => by
    rw [List.range_succ, List.countP_append, ← elemsF_cnt (s := s) (n := n), List.countP_cons, List.countP_nil, Nat.testBit_eq_decide_div_mod_eq]
    simp only [elemsF]
    by_cases h : s / 2 ^ n % 2 = 1
    · rw [if_pos h, if_pos (decide_eq_true h), List.length_append]; rfl
    · rw [if_neg h, if_neg (by simpa using h)]; rfl
theorem elemsL_pop {s : Nat} (h : s < 2 ^ 62) : (elemsL (s : Int)).length = pop s := by
  rw [elemsL, Int.toNat_natCast, elemsF_cnt, pop_count h (Nat.le_refl _)]
/-- What holds where there are transversals. -/
theorem tn_law {n : Int} {xs : List Int} (h : tnB n xs = true) : istB n xs (tnS n xs) = true ∧ ((pkL n xs).length : Int) ≤ tnI n xs ∧ gtB n xs = true ∧ istB n xs (gtI n xs) = true ∧
    (inB 6 0 10 && inS 6 (gtI n xs)) = true ∧ tnI n xs ≤ (elemsL (gtI n xs)).length := by
  have hf : famB n xs = true := by
    have := h; rw [tnB, Bool.and_eq_true] at this; exact this.1
  have h64 := pow6 (famB_bd hf).1
  have h0 := (tnB_iff hf).1 h
  have hlen : ¬ ((bkL n xs).length : Int) = 0 := by
    have := h; rw [tnB, Bool.and_eq_true] at this; simpa using this.2
  obtain ⟨e1, e2⟩ := tn_t h
  have hm := lst_mem (l := bkL n xs) (by omega) (Nat.le_refl _)
  have hleast := fun j hj => lst_least (l := bkL n xs) (i := (bkL n xs).length) (j := j) hj
  obtain ⟨B, hB, hB6, hBt⟩ := bk_mem hf hm
  rw [e1, e2]
  rw [hB] at hleast ⊢
  have hg : gtB n xs = true := by rw [gtB, hf, decide_eq_false h0]; rfl
  obtain ⟨T, g1, g2, g3⟩ := grd_tr hf h0 _ 0 (by omega) rfl
  have g1' : gtI n xs = T := by rw [(gt_t hg).1]; exact g1
  have hTt : (T : Int) ∈ trsL n xs := by
    rw [trsL, selF_mem]; exact ⟨by omega, g3⟩
  rw [g1']
  refine ⟨ist_of hf hBt, ?_, hg, ist_of hf hTt, ?_, ?_⟩
  · have hpk : PkOk xs (pkL n xs) := by
      have := pk_law hf
      rw [ipB, hf, Bool.true_and] at this
      exact allN_iff.1 this
    obtain ⟨U, u1, u2, u3⟩ := pk_few hf hpk hBt (Nat.le_refl _)
    have := pop_and_le hB6 u2
    rw [popI_six hB6]; omega
  · have hi : inS 6 (T : Int) = true := by
      have e : fullI 6 = 63 := rfl
      rw [inS, inB_t, e]; omega
    rw [hi]; rfl
  · obtain ⟨b, hb, hb2⟩ := bk_below hf hTt
    obtain ⟨k, hk, hke⟩ := mem_getD.1 hb
    have := hleast k hk
    rw [hke] at this
    obtain ⟨b', hb', hb6, _⟩ := bk_mem hf hb
    have : b' = b := by omega
    subst this
    have h5 := pop_and_le (a := T) (b := b') (by omega) hb6
    rw [Nat.and_comm, hb2] at h5
    rw [elemsL_pop (by omega), pop_six (by omega)]
    rw [popI_six hb6] at this
    omega

/-- A list that may be put behind l, one by one. -/
def okF (fits : List Int → Int → Bool) : List Int → List Int → Prop
  | _, [] => True
  | l, s :: ys => fits l s = true ∧ okF fits (l ++ [s]) ys
theorem grw_ge {fits : List Int → Int → Bool} : ∀ {r l b ys : List Int}, ys.Sublist r → okF fits l ys → ys ≠ [] → l.length + ys.length ≤ (grw fits r l b).length
  | [], l, b, ys, hs, _, hn => absurd (List.sublist_nil.1 hs) hn
  | s :: r, l, b, ys, hs, ho, hn => by
    have hl := hs.length_le
    rw [List.length_cons] at hl
    simp only [grw]
    split
    · omega
    · split
      · rename_i hf
        have hk := (grw_len (fits := fits) (r := r) (l := l) (b := comb b (grw fits r (l ++ [s]) (l ++ [s])))).1
        rw [comb_len] at hk
        cases hs with
        | cons _ h => exact grw_ge h ho hn
        | @cons_cons ys' _ _ h =>
          have h0 := (grw_len (fits := fits) (r := r) (l := l ++ [s]) (b := l ++ [s])).1
          rw [List.length_append, List.length_singleton] at h0
          by_cases he : ys' = []
          · subst he; simp only [List.length_cons, List.length_nil]; omega
          · have := grw_ge (b := l ++ [s]) h ho.2 he
            rw [List.length_append, List.length_singleton] at this
            rw [List.length_cons]; omega
      · rename_i hf
        cases hs with
        | cons _ h => exact grw_ge h ho hn
        | cons_cons _ h => exact absurd ho.1 hf
theorem comb_P {P : List Int → Prop} {b x : List Int} (hb : P b) (hx : P x) : P (comb b x) := by unfold comb; split <;> assumption
theorem grw_P {fits : List Int → Int → Bool} {P : List Int → Prop} : ∀ {r l b : List Int}, P b → (∀ ys, ys.Sublist r → okF fits l ys → ys ≠ [] → P (l ++ ys)) → P (grw fits r l b)
  | [], l, b, hb, _ => hb
  | s :: r, l, b, hb, h => by
    simp only [grw]
    split
    · exact hb
    · split
      · rename_i hf
        refine grw_P (comb_P hb ?_) fun ys hs ho hn => h ys (List.Sublist.cons s hs) ho hn
        refine grw_P (h [s] (List.Sublist.cons_cons s (List.nil_sublist r)) ⟨hf, trivial⟩ (by simp)) fun ys hs ho hn => ?_
        have := h (s :: ys) (List.Sublist.cons_cons s hs) ⟨hf, ho⟩ (by simp)
        rwa [List.append_assoc]
      · exact grw_P hb fun ys hs ho hn => h ys (List.Sublist.cons s hs) ho hn
theorem antiB_left : ∀ {m l : List Int}, antiB (l ++ m) = true → antiB l = true
  | [], l, h => by rwa [List.append_nil] at h
  | s :: m, l, h => by
    have e : l ++ s :: m = (l ++ [s]) ++ m := by simp
    rw [e] at h
    have := antiB_left h
    rw [antiB_snoc, Bool.and_eq_true] at this
    exact this.1
theorem okF_anti : ∀ {ys l : List Int}, antiB (l ++ ys) = true → okF fitA l ys
  | [], l, _ => trivial
  | s :: ys, l, h => by
    have e : l ++ s :: ys = (l ++ [s]) ++ ys := by simp
    rw [e] at h
    have := antiB_left h
    rw [antiB_snoc, Bool.and_eq_true] at this
    exact ⟨this.2, okF_anti h⟩
theorem anti_okF : ∀ {ys l : List Int}, antiB l = true → okF fitA l ys → antiB (l ++ ys) = true
  | [], l, h, _ => by rwa [List.append_nil]
  | s :: ys, l, h, ho => by
    have e : l ++ s :: ys = (l ++ [s]) ++ ys := by simp
    rw [e]
    exact anti_okF (by rw [antiB_snoc, h, ho.1]; rfl) ho.2
theorem antiB_nil : antiB [] = true := rfl
theorem lc_ge {n : Int} {xs ys : List Int} (h : lcOk n xs = true) (hs : ys.Sublist xs) (ha : antiB ys = true) : ys.length ≤ (lcL n xs).length := by
  rw [lcL, if_pos h]
  by_cases hn : ys = []
  · subst hn; simp
  · have := grw_ge (b := []) hs (okF_anti (l := []) ha) hn
    simpa using this
theorem lc_anti {n : Int} {xs : List Int} (h : lcOk n xs = true) : (lcL n xs).Sublist xs ∧ antiB (lcL n xs) = true := by
  rw [lcL, if_pos h]
  refine grw_P (P := fun z => z.Sublist xs ∧ antiB z = true) ⟨List.nil_sublist _, rfl⟩ fun ys hs ho _ => ?_
  exact ⟨hs, anti_okF rfl ho⟩

/-- Each below the next. -/
def chStep (xs : List Int) (i : Nat) : Bool := decide (band .i64 (xs.getD (i - 1) 0) (xs.getD i 0) = xs.getD (i - 1) 0) && !decide (xs.getD (i - 1) 0 = xs.getD i 0)
def chainB (xs : List Int) : Bool := decide (xs.length ≤ 64) && xs.all (fun n => inB n 0 1023) && (List.range xs.length).all fun i => i == 0 || chStep xs i
theorem all_getD {xs : List Int} {p : Int → Bool} : xs.all p = true ↔ ∀ i, i < xs.length → p (xs.getD i 0) = true := by
  rw [List.all_eq_true]
  constructor
  · intro h i hi; rw [getD_get hi]; exact h _ (List.getElem_mem hi)
  · intro h x hx
    obtain ⟨i, hi, rfl⟩ := List.getElem_of_mem hx
    have := h i hi
    rwa [getD_get hi] at this
theorem chainB_iff {xs : List Int} : chainB xs = true ↔ xs.length ≤ 64 ∧ (∀ i, i < xs.length → inB (xs.getD i 0) 0 1023 = true) ∧ ∀ i, 0 < i → i < xs.length → chStep xs i = true := by
  simp only [chainB, Bool.and_eq_true, decide_eq_true_eq, all_getD, and_assoc]
  refine and_congr_right fun _ => and_congr_right fun _ => ?_
  rw [List.all_eq_true]
  constructor
  · intro h i h0 hi; have := h i (by simpa using hi); simpa [show i ≠ 0 by omega] using this
  · intro h i hi; by_cases h0 : i = 0
    · simp [h0]
    · simp [h i (by omega) (by simpa using hi)]
theorem chainB_false {xs : List Int} (h : ¬ (xs.length ≤ 64 ∧ (∀ i, i < xs.length → inB (xs.getD i 0) 0 1023 = true) ∧ ∀ i, 0 < i → i < xs.length → chStep xs i = true)) : chainB xs = false := by
  rw [← chainB_iff] at h; simpa using h
theorem chStep_iff {xs : List Int} {i : Nat} : chStep xs i = true ↔ (band .i64 (xs.getD (i - 1) 0) (xs.getD i 0) = xs.getD (i - 1) 0 ∧ ¬ xs.getD (i - 1) 0 = xs.getD i 0) := by
  unfold chStep
  generalize xs.getD (i - 1) 0 = a
  generalize xs.getD i 0 = b
  simp

theorem cutL_eq {xs : List Int} : cutL xs = xs.filter (fun s => !loneP xs s) := by
  refine List.filter_congr fun s hs => ?_
  rw [cutP, Bool.eq_iff_iff, Bool.not_eq_true', Bool.not_eq_true', decide_eq_false_iff_not, minL, List.mem_filter, ← Bool.not_eq_true]
  exact ⟨fun h h2 => h ⟨hs, h2⟩, fun h h2 => h h2.2⟩
theorem filter_two {p : Int → Bool} : ∀ {xs : List Int}, (xs.filter p).length + (xs.filter fun s => !p s).length = xs.length
  | [] => rfl
  | a :: r => by
    have ih := filter_two (p := p) (xs := r)
    cases h : p a with
    | true => rw [List.filter_cons_of_pos h, List.filter_cons_of_neg (by simp [h])]; simp only [List.length_cons]; omega
    | false => rw [List.filter_cons_of_neg (by simp [h]), List.filter_cons_of_pos (by simp [h])]; simp only [List.length_cons]; omega
def rowSum (ls : LL) : Nat := (ls.map List.length).sum
theorem rowSum_cons {l : List Int} {r : LL} : rowSum (l :: r) = l.length + rowSum r := by simp [rowSum]
theorem rowSum_take {ls : LL} {i : Nat} (h : i < ls.length) : rowSum (ls.take (i + 1)) = rowSum (ls.take i) + (ls.getD i []).length := by
  rw [take_succR h]; simp [rowSum]
theorem rowSum_le {m : Nat} : ∀ {ls : LL}, (∀ l, l ∈ ls → l.length ≤ m) → rowSum ls ≤ m * ls.length
  | [], _ => by simp [rowSum]
  | l :: r, h => by
    have h1 := h l (by simp)
    have h2 := rowSum_le (m := m) (ls := r) fun x hx => h x (by simp [hx])
    rw [rowSum_cons, List.length_cons, Nat.mul_succ]; omega
/-- What holds of the levels, one by one. -/
theorem lvL_ind {P : List Int → LL → Prop} (h0 : P [] []) (h1 : ∀ xs, Asc xs → Small xs → ¬ xs.length = 0 → P (cutL xs) (lvL (cutL xs)) → P xs (minL xs :: lvL (cutL xs))) : ∀ (k : Nat) {xs : List Int}, xs.length = k → Asc xs → Small xs → P xs (lvL xs) := by
  intro k
  induction k using Nat.strongRecOn with
  | _ k ih =>
    intro xs hk ha hb
    by_cases hne : xs.length = 0
    · have : xs = [] := List.length_eq_zero_iff.1 hne
      subst this; exact h0
    · have hlt := cutL_lt ha hb (fun e => hne (by rw [e]; rfl))
      rw [lvL_cons ha hb hne]
      exact h1 xs ha hb hne (ih _ (by omega) rfl (asc_filter ha _) (small_filter hb _))
theorem lv_sum {xs : List Int} (ha : Asc xs) (hb : Small xs) : rowSum (lvL xs) = xs.length := by
  refine lvL_ind (P := fun xs ls => rowSum ls = xs.length) rfl (fun xs _ _ _ ih => ?_) _ rfl ha hb
  rw [rowSum_cons, ih, cutL_eq, minL]
  exact filter_two
theorem minL_anti {xs : List Int} (ha : Asc xs) (hb : Small xs) : antiB (minL xs) = true := by
  simp only [antiB, allN_iff, apartN_iff]
  have hA : Asc (minL xs) := asc_filter ha _
  have key : ∀ i j, i < (minL xs).length → j < (minL xs).length → i ≠ j → ¬ bandn .i64 ((minL xs).getD i 0) ((minL xs).getD j 0) = 0 := fun i j hi hj hij hz => by
    have hmi := mem_getD.2 ⟨i, hi, rfl⟩
    have hmj := mem_getD.2 ⟨j, hj, rfl⟩
    have hl := (List.mem_filter.1 hmj).2
    rw [loneP, Bool.not_eq_true', ← Bool.not_eq_true, List.any_eq_true] at hl
    exact hl ⟨_, (List.mem_filter.1 hmi).1, subP_iff.2 ⟨fun e => hij (asc_inj hA hi hj e), hz⟩⟩
  intro i hi j hj
  exact ⟨key i j hi (by omega) (by omega), key j i (by omega) hi (by omega)⟩
theorem lv_anti {xs : List Int} (ha : Asc xs) (hb : Small xs) : ∀ l, l ∈ lvL xs → l.Sublist xs ∧ antiB l = true := by
  refine lvL_ind (P := fun xs ls => ∀ l, l ∈ ls → l.Sublist xs ∧ antiB l = true) (fun l h => by cases h) (fun xs ha hb _ ih l hl => ?_) _ rfl ha hb
  rw [List.mem_cons] at hl
  rcases hl with rfl | hl
  · exact ⟨List.filter_sublist, minL_anti ha hb⟩
  · exact ⟨(ih l hl).1.trans List.filter_sublist, (ih l hl).2⟩
theorem band_trans {a b c : Int} (ha : 0 ≤ a ∧ a < 2 ^ 62) (hb : 0 ≤ b ∧ b < 2 ^ 62) (hc : 0 ≤ c ∧ c < 2 ^ 62) (h1 : band .i64 a b = a) (h2 : band .i64 b c = b) : band .i64 a c = a := by
  obtain ⟨A, rfl⟩ := Int.eq_ofNat_of_zero_le ha.1
  obtain ⟨B, rfl⟩ := Int.eq_ofNat_of_zero_le hb.1
  obtain ⟨C, rfl⟩ := Int.eq_ofNat_of_zero_le hc.1
  rw [band_nat (by omega) (by omega)] at h1 h2 ⊢
  have e1 : A &&& B = A := by omega
  have e2 : B &&& C = B := by omega
  have : A &&& C = A := by rw [← e1, Nat.and_assoc, e2]
  rw [this]
/-- Below each set there is a minimal one. -/
theorem min_below {xs : List Int} (hb : Small xs) : ∀ (k : Nat) {h : Int}, h.toNat = k → h ∈ xs → ∃ m, m ∈ minL xs ∧ band .i64 m h = m := by
  intro k
  induction k using Nat.strongRecOn with
  | _ k ih =>
    intro h hk hm
    have h6 := small_mem.1 hb h hm
    by_cases hl : loneP xs h = true
    · exact ⟨h, List.mem_filter.2 ⟨hm, hl⟩, by
        obtain ⟨S, rfl⟩ := Int.eq_ofNat_of_zero_le h6.1
        rw [band_nat (by omega) (by omega), Nat.and_self]⟩
    · rw [loneP, Bool.not_eq_true', Bool.not_eq_false, List.any_eq_true] at hl
      obtain ⟨t, ht, hs⟩ := hl
      have t6 := small_mem.1 hb t ht
      rw [subP_iff, bandn_zero (by omega) (by omega)] at hs
      have hlt : t < h := by
        obtain ⟨T, rfl⟩ := Int.eq_ofNat_of_zero_le t6.1
        obtain ⟨S, rfl⟩ := Int.eq_ofNat_of_zero_le h6.1
        have h4 := hs.2
        rw [band_nat (by omega) (by omega)] at h4
        have := Nat.and_le_right (n := T) (m := S)
        omega
      obtain ⟨m, h1, h2⟩ := ih t.toNat (by omega) rfl ht
      have m6 := small_mem.1 hb m (List.mem_filter.1 h1).1
      exact ⟨m, h1, band_trans (by omega) (by omega) (by omega) h2 hs.2⟩
def stepR (a b : Int) : Prop := band .i64 a b = a ∧ ¬ a = b
def linkR : List Int → Prop
  | [] => True
  | [_] => True
  | a :: b :: r => stepR a b ∧ linkR (b :: r)
theorem linkR_get : ∀ {l : List Int}, linkR l → ∀ i, 0 < i → i < l.length → stepR (l.getD (i - 1) 0) (l.getD i 0)
  | [], _, i, _, h => by simp at h
  | [a], _, i, h0, h => by simp at h; omega
  | a :: b :: r, hl, i, h0, h => by
    by_cases e : i = 1
    · subst e; exact hl.1
    · obtain ⟨j, rfl⟩ : ∃ j, i = j + 2 := ⟨i - 2, by omega⟩
      have := linkR_get hl.2 (j + 1) (by omega) (by simp only [List.length_cons] at h ⊢; omega)
      simpa using this
theorem ch_levels {xs : List Int} (ha : Asc xs) (hb : Small xs) : (chL (lvL xs)).length = (lvL xs).length ∧ linkR (chL (lvL xs)) ∧ ∀ s, s ∈ (chL (lvL xs)).head? → s ∈ minL xs := by
  refine lvL_ind (P := fun xs ls => (chL ls).length = ls.length ∧ linkR (chL ls) ∧ ∀ s, s ∈ (chL ls).head? → s ∈ minL xs) ⟨rfl, trivial, fun s h => by cases h⟩ (fun xs ha hb hne ih => ?_) _ rfl ha hb
  obtain ⟨i1, i2, i3⟩ := ih
  have e : chL (minL xs :: lvL (cutL xs)) = stepC (chL (lvL (cutL xs))) (minL xs) := rfl
  rw [e]
  have hfind : ∃ s, (minL xs).find? (goesP (chL (lvL (cutL xs)))) = some s := by
    rw [← Option.isSome_iff_exists, List.find?_isSome]
    cases hc : chL (lvL (cutL xs)) with
    | nil =>
      cases xs with
      | nil => exact absurd rfl hne
      | cons a r => exact ⟨a, head_min ha hb, by simp [goesP]⟩
    | cons h r =>
      have hm := i3 h (by rw [hc]; rfl)
      have hx : h ∈ xs := (List.mem_filter.1 (List.mem_filter.1 hm).1).1
      obtain ⟨m, h1, h2⟩ := min_below hb _ rfl hx
      have h6 := small_mem.1 hb h hx
      have m6 := small_mem.1 hb m (List.mem_filter.1 h1).1
      refine ⟨m, h1, ?_⟩
      rw [goesP, Bool.or_eq_true, decide_eq_true_eq, decide_eq_true_eq]
      rw [List.getD_cons_zero]
      exact .inr ((bandn_zero (by omega) (by omega)).2 h2)
  obtain ⟨s, hs⟩ := hfind
  have hmem := List.mem_of_find?_eq_some hs
  have hg := List.find?_some hs
  rw [stepC, hs]
  refine ⟨by simp only [List.length_cons]; omega, ?_, fun t ht => ?_⟩
  · cases hc : chL (lvL (cutL xs)) with
    | nil => trivial
    | cons h r =>
      have hm := i3 h (by rw [hc]; rfl)
      have hcut := (List.mem_filter.1 hm).1
      have hx : h ∈ xs := (List.mem_filter.1 hcut).1
      have hno := (List.mem_filter.1 hcut).2
      rw [cutP, Bool.not_eq_true', decide_eq_false_iff_not] at hno
      have h6 := small_mem.1 hb h hx
      have m6 := small_mem.1 hb s (List.mem_filter.1 hmem).1
      rw [hc, goesP, Bool.or_eq_true, decide_eq_true_eq, decide_eq_true_eq, List.getD_cons_zero] at hg
      refine ⟨⟨(bandn_zero (by omega) (by omega)).1 (hg.resolve_left (by simp)), fun e => hno (e ▸ hmem)⟩, hc ▸ i2⟩
  · simp only [List.head?_cons, Option.mem_def, Option.some.injEq] at ht
    subst ht; exact hmem
theorem lg_chain {n : Int} {xs : List Int} (hf : famB n xs = true) (hl : xs.length ≤ 64) : chainB (lgC n xs) = true ∧ (lgC n xs).length = (lvO n xs).length := by
  have ha := (famM.1 hf).2.1
  have hb := fam_smallL hf
  have e : lvO n xs = lvL xs := by rw [lvO, if_pos hf]
  obtain ⟨h1, h2, h3⟩ := ch_levels ha hb
  rw [lgC, e]
  refine ⟨chainB_iff.2 ⟨?_, fun i hi => ?_, fun i h0 hi => ?_⟩, h1⟩
  · have := lvL_len (xs := xs); omega
  · obtain ⟨l, hl1, hl2⟩ := chL_mem (mem_getD.2 ⟨i, hi, rfl⟩)
    have := small_mem.1 hb _ (lvF_row hl1 _ hl2)
    rw [inB_t]; omega
  · rw [chStep_iff]; exact linkR_get h2 i h0 hi
theorem lv_law {n : Int} {xs : List Int} (hf : famB n xs = true) : rowSum (lvO n xs) = xs.length ∧ (lcOk n xs = true → (∀ i, i < (lvO n xs).length → ((lvO n xs).getD i []).length ≤ (lcL n xs).length) ∧ xs.length ≤ (lcL n xs).length * (lvO n xs).length) := by
  have ha := (famM.1 hf).2.1
  have hb := fam_smallL hf
  have e : lvO n xs = lvL xs := by rw [lvO, if_pos hf]
  rw [e]
  refine ⟨lv_sum ha hb, fun hk => ?_⟩
  have hall : ∀ l, l ∈ lvL xs → l.length ≤ (lcL n xs).length := fun l hl => lc_ge hk (lv_anti ha hb l hl).1 (lv_anti ha hb l hl).2
  refine ⟨fun i hi => hall _ (getR_mem hi), ?_⟩
  have := rowSum_le hall
  rw [lv_sum ha hb] at this
  exact this
theorem lc_law {n : Int} {xs : List Int} (hk : lcOk n xs = true) : famB (lcN n xs) (lcL n xs) = true ∧ antiB (lcL n xs) = true := by
  have h := lc_anti hk
  have hf : famB n xs = true := by simp only [lcOk, Bool.and_eq_true] at hk; exact hk.1
  refine ⟨?_, h.2⟩
  rw [lcN, if_pos hk]
  exact fam_sub hf h.1
theorem rowSum_take_le : ∀ {ls : LL} {i : Nat}, rowSum (ls.take i) ≤ rowSum ls
  | [], i => by simp
  | l :: r, 0 => by simp [rowSum]
  | l :: r, i + 1 => by
    have := rowSum_take_le (ls := r) (i := i)
    rw [List.take_succ_cons, rowSum_cons, rowSum_cons]; omega

/-- Complements, the other way round. -/
theorem co_fam {n : Int} {xs : List Int} (h : famB n xs = true) : famB n (coL n xs) = true := by
  rw [(co_t h).2]; exact selF_fam' (famB_bd h).1
theorem co_map {n : Int} {xs : List Int} (h : famB n xs = true) : coL n xs = xs.reverse.map fun x => fullI n - x := by
  rw [← co_eq, cr_t h, crT_full]
theorem co_co {n : Int} {xs : List Int} (h : famB n xs = true) : coL n (coL n xs) = xs := by
  rw [co_map (co_fam h), co_map h, ← List.map_reverse, List.reverse_reverse, List.map_map]
  have e : ((fun x => fullI n - x) ∘ fun x => fullI n - x) = id := funext fun x => by show fullI n - (fullI n - x) = x; omega
  rw [e, List.map_id]
theorem co_sub {n X T : Nat} (hx : X < 2 ^ n) (ht : T < 2 ^ n) : (2 ^ n - (X + 1)) &&& (2 ^ n - (T + 1)) = 2 ^ n - (X + 1) ↔ T &&& X = T := by
  constructor
  · intro h
    apply Nat.eq_of_testBit_eq
    intro i
    have hi := congrArg (·.testBit i) h
    simp only [Nat.testBit_and, Nat.testBit_two_pow_sub_succ hx, Nat.testBit_two_pow_sub_succ ht] at hi
    rw [Nat.testBit_and]
    by_cases hin : i < n
    · rw [decide_eq_true hin] at hi
      cases hX : X.testBit i <;> cases hT : T.testBit i <;> simp_all
    · rw [Nat.testBit_lt_two_pow (Nat.lt_of_lt_of_le ht (Nat.pow_le_pow_right (by decide) (by omega)))]; rfl
  · intro h
    apply Nat.eq_of_testBit_eq
    intro i
    have hi := congrArg (·.testBit i) h
    simp only [Nat.testBit_and] at hi
    simp only [Nat.testBit_and, Nat.testBit_two_pow_sub_succ hx, Nat.testBit_two_pow_sub_succ ht]
    cases hX : X.testBit i <;> cases hT : T.testBit i <;> cases hD : decide (i < n) <;> simp_all
theorem sup_co {n x t : Int} (hn : 0 ≤ n ∧ n ≤ 6) (hx : 0 ≤ x ∧ x ≤ fullI n) (ht : 0 ≤ t ∧ t ≤ fullI n) : supP (fullI n - x) (fullI n - t) = subP x t := by
  obtain ⟨e, h1, h2⟩ := fullI_nat hn
  obtain ⟨X, rfl⟩ := Int.eq_ofNat_of_zero_le hx.1
  obtain ⟨T, rfl⟩ := Int.eq_ofNat_of_zero_le ht.1
  rw [e] at hx ht
  have hX : X < 2 ^ n.toNat := by omega
  have hT : T < 2 ^ n.toNat := by omega
  have ex : fullI n - (X : Int) = ((2 ^ n.toNat - (X + 1) : Nat) : Int) := by rw [e]; omega
  have et : fullI n - (T : Int) = ((2 ^ n.toNat - (T + 1) : Nat) : Int) := by rw [e]; omega
  have hc := co_sub hX hT
  rw [Bool.eq_iff_iff, supP_iff, subP_iff, ex, et]
  generalize 2 ^ n.toNat - (X + 1) = A at *
  generalize 2 ^ n.toNat - (T + 1) = B at *
  have hA : A ≤ 64 := by omega
  have hB : B ≤ 64 := by omega
  rw [bandn_zero (by omega) (by omega), bandn_zero (by omega) (by omega), band_nat (by omega) (by omega), band_nat (by omega) (by omega)]
  constructor
  · rintro ⟨a, b⟩
    exact ⟨by omega, Int.ofNat_inj.2 (hc.1 (Int.ofNat_inj.1 b))⟩
  · rintro ⟨a, b⟩
    exact ⟨by omega, Int.ofNat_inj.2 (hc.2 (Int.ofNat_inj.1 b))⟩
theorem any_co {n x : Int} (hn : 0 ≤ n ∧ n ≤ 6) (hx : 0 ≤ x ∧ x ≤ fullI n) {ys : List Int} (h : ∀ y ∈ ys, 0 ≤ y ∧ y ≤ fullI n) : (ys.map fun x => fullI n - x).any (supP (fullI n - x)) = ys.any (subP x) := by
  rw [List.any_map]
  have e : ∀ y ∈ ys, (supP (fullI n - x) ∘ fun x => fullI n - x) y = subP x y := fun y hy => sup_co hn hx (h y hy)
  rw [Bool.eq_iff_iff, List.any_eq_true, List.any_eq_true]
  constructor
  · rintro ⟨y, hy, h1⟩; exact ⟨y, hy, by rw [← e y hy]; exact h1⟩
  · rintro ⟨y, hy, h1⟩; exact ⟨y, hy, by rw [e y hy]; exact h1⟩
theorem filter_co {n : Int} {p q : Int → Bool} {ys : List Int} (h : ∀ y ∈ ys, p (fullI n - y) = q y) : (ys.map fun x => fullI n - x).filter p = (ys.filter q).map fun x => fullI n - x := by
  rw [List.filter_map]
  congr 1
  exact List.filter_congr fun y hy => h y hy
theorem max_co {n : Int} {xs : List Int} (h : famB n xs = true) : mxL (coL n xs) = coL n (minL xs) := by
  have hm : famB n (minL xs) = true := fam_sub h List.filter_sublist
  obtain ⟨hn, _, hx⟩ := famM.1 h
  rw [co_map h, co_map hm]
  unfold mxL
  have e1 : (minL xs).reverse = xs.reverse.filter (loneP xs) := by unfold minL; rw [List.filter_reverse]
  rw [e1]
  refine filter_co fun y hy => ?_
  rw [List.mem_reverse] at hy
  unfold loneP
  rw [any_co hn (hx y hy) fun z hz => hx z (List.mem_reverse.1 hz), List.any_reverse]
theorem mxL_fam {n : Int} {xs : List Int} (h : famB n xs = true) : famB n (mxL xs) = true := fam_sub h List.filter_sublist
theorem mxL_mem {xs : List Int} {y : Int} : y ∈ mxL xs ↔ y ∈ xs ∧ ∀ t, t ∈ xs → supP y t = false := by
  unfold mxL
  rw [List.mem_filter, Bool.not_eq_true', List.any_eq_false]
  simp only [Bool.not_eq_true]
theorem mxL_anti {xs : List Int} (ha : Asc xs) (hb : Small xs) : antiB (mxL xs) = true := by
  have hA : Asc (mxL xs) := asc_filter ha _
  have hB : Small (mxL xs) := small_filter hb _
  rw [antiB, allN_iff]
  intro i hi
  rw [allN_iff]
  intro j hj
  rw [apartN_iff]
  have mi := mxL_mem.1 (mem_getD.2 ⟨i, hi, rfl⟩)
  have mj := mxL_mem.1 (mem_getD.2 ⟨j, (by omega : j < (mxL xs).length), rfl⟩)
  have hne : ¬ (mxL xs).getD i 0 = (mxL xs).getD j 0 := fun e => by
    have := asc_inj hA hi (by omega) e; omega
  refine ⟨fun h => ?_, fun h => ?_⟩
  · have := mi.2 _ mj.1
    rw [(supP_iff).2 ⟨fun e => hne e.symm, h⟩] at this; cases this
  · have := mj.2 _ mi.1
    rw [(supP_iff).2 ⟨hne, h⟩] at this; cases this
/-- The law's sides. -/
theorem ex_back {n : Int} {xs : List Int} (h : famB n xs = true) : coN n (coL n xs) = n ∧ coL n (coL n xs) = xs := ⟨(co_t (co_fam h)).1, co_co h⟩
theorem ex_max {n : Int} {xs : List Int} (h : famB n xs = true) : xsN n (coL n xs) = coN n (minL xs) ∧ xsL n (coL n xs) = coL n (minL xs) := by
  have hm : famB n (minL xs) = true := fam_sub h List.filter_sublist
  rw [(xs_t (co_fam h)).1, (xs_t (co_fam h)).2, (co_t hm).1, max_co h]; exact ⟨rfl, rfl⟩
/-! Degrees and sizes. -/
def dgS (n : Int) (xs : List Int) : Nat → Int
  | 0 => 0
  | k + 1 => dgS n xs k + degI n xs k
def elO (n s : Int) : List Int := if (inB n 0 10 && inS n s) = true then elemsL s else []
def szS (n : Int) (xs : List Int) : Nat → Int
  | 0 => 0
  | i + 1 => szS n xs i + ((elO n (xs.getD i 0)).length : Int)
def bitS (x : Int) : Nat → Int
  | 0 => 0
  | k + 1 => bitS x k + band .i64 (x / 2 ^ k) 1
theorem bitS_el {s : Nat} (h : s < 2 ^ 63) : ∀ {k : Nat}, bitS s k = ((elemsF s k).length : Int)
  | 0 => rfl
  | k + 1 => by
    have ih := bitS_el h (k := k)
    have hs : (s : Int) / 2 ^ k = ((s / 2 ^ k : Nat) : Int) := by simp
    have hle : s / 2 ^ k ≤ s := Nat.div_le_self _ _
    have hb : band .i64 ((s / 2 ^ k : Nat) : Int) 1 = ((s / 2 ^ k : Nat) : Int) % 2 := by
      generalize s / 2 ^ k = q at hle
      exact band_one (by omega)
    rw [bitS, ih, hs, hb]
    by_cases hc : s / 2 ^ k % 2 = 1
    · rw [elemsF_t hc, List.length_append, List.length_singleton]
      generalize s / 2 ^ k = q at hc
      omega
    · rw [elemsF_f hc]
      generalize s / 2 ^ k = q at hc
      omega
def sumD (xs : List Int) (i : Nat) : Nat → Int
  | 0 => 0
  | k + 1 => sumD xs i k + degF xs k i
theorem sumD_0 {xs : List Int} : ∀ {k : Nat}, sumD xs 0 k = 0
  | 0 => rfl
  | k + 1 => by rw [sumD, sumD_0]; rfl
theorem sumD_s {xs : List Int} {i : Nat} : ∀ {k : Nat}, sumD xs (i + 1) k = sumD xs i k + bitS (xs.getD i 0) k
  | 0 => rfl
  | k + 1 => by
    have ih := sumD_s (xs := xs) (i := i) (k := k)
    simp only [sumD, bitS, degF, Int.toNat_natCast, ih]; omega
theorem dgS_sum {n : Int} {xs : List Int} (h : famB n xs = true) : ∀ {k : Nat}, (k : Int) ≤ n → dgS n xs k = sumD xs xs.length k
  | 0, _ => rfl
  | k + 1, hk => by
    rw [dgS, sumD, dgS_sum h (by omega), degI_t h (by rw [inB_t]; omega)]
theorem elO_at {n : Int} {xs : List Int} (h : famB n xs = true) {i : Nat} (hi : i < xs.length) : ((elO n (xs.getD i 0)).length : Int) = bitS (xs.getD i 0) n.toNat := by
  have hb := famB_bd h
  have hx := hb.2 i hi
  obtain ⟨e, h1, h2⟩ := fullI_nat hb.1
  have hin : (inB n 0 10 && inS n (xs.getD i 0)) = true := by
    have a : inB n 0 10 = true := by rw [inB_t]; omega
    have b : inS n (xs.getD i 0) = true := by
      show inB _ 0 (fullI n) = true
      rw [inB_t]; omega
    rw [a, b]; rfl
  unfold elO
  rw [if_pos hin]
  obtain ⟨X, hX⟩ := Int.eq_ofNat_of_zero_le hx.1
  rw [hX] at hx ⊢
  rw [bitS_el (by omega), elems_at (s := X) (i := n.toNat) (Nat.div_eq_of_lt (by omega)) (by omega)]
theorem szS_sum {n : Int} {xs : List Int} (h : famB n xs = true) : ∀ {i : Nat}, i ≤ xs.length → szS n xs i = sumD xs i n.toNat
  | 0, _ => by rw [sumD_0]; rfl
  | i + 1, hi => by rw [szS, sumD_s, szS_sum h (by omega), elO_at h (by omega)]
theorem dg_sz {n : Int} {xs : List Int} (h : famB n xs = true) : dgS n xs n.toNat = szS n xs xs.length := by
  have := (famB_bd h).1
  rw [dgS_sum h (by omega), szS_sum h (Nat.le_refl _)]
theorem degI_bd {n : Int} {xs : List Int} {e : Int} : -1 ≤ degI n xs e ∧ degI n xs e ≤ xs.length := by
  unfold degI
  split
  · rename_i h
    rw [Bool.and_eq_true] at h
    have hb := famB_bd h.1
    have := degF_bd (xs := xs) (e := e) (n := xs.length) fun i hi => by have := hb.2 i hi; omega
    omega
  · omega
theorem dgS_bd {n : Int} {xs : List Int} : ∀ {k : Nat}, -(k : Int) ≤ dgS n xs k ∧ dgS n xs k ≤ k * xs.length
  | 0 => by simp [dgS]
  | k + 1 => by
    have ih := dgS_bd (n := n) (xs := xs) (k := k)
    have := @degI_bd n xs k
    rw [dgS]
    have e : ((k + 1 : Nat) : Int) * xs.length = k * xs.length + xs.length := by
      rw [Int.natCast_add, Int.add_mul]; simp
    rw [e]; omega
theorem szS_bd {n : Int} {xs : List Int} : ∀ {i : Nat}, 0 ≤ szS n xs i ∧ szS n xs i ≤ i * 62
  | 0 => by simp [szS]
  | i + 1 => by
    have ih := szS_bd (n := n) (xs := xs) (i := i)
    have h1 : (elO n (xs.getD i 0)).length ≤ 62 := by
      unfold elO; split
      · exact elemsL_len
      · simp
    rw [szS]; omega

/-- Texts that the reference draws. -/
def txB (st b : Int) : Int := if st = 1 then b.tmod 2 else if st = 2 then 97 + b.tmod 4 else b
def txC (bs : List Int) (c : Cu) : Nat → Cu
  | 0 => c
  | n + 1 => byteC bs (txC bs c n)
def txL (bs : List Int) (st : Int) (c : Cu) : Nat → List Int
  | 0 => []
  | n + 1 => txL bs st c n ++ [txB st (byteV bs (txC bs c n))]
theorem txL_len {bs : List Int} {st : Int} {c : Cu} : ∀ {n : Nat}, (txL bs st c n).length = n
  | 0 => rfl
  | n + 1 => by simp [txL, txL_len]
theorem txC_nn {bs : List Int} {c : Cu} (h : 0 ≤ c.1) : ∀ {n : Nat}, 0 ≤ (txC bs c n).1
  | 0 => h
  | n + 1 => byteC_nn (txC_nn h)
def toB (xs : List Int) : List UInt8 := xs.map fun n => UInt8.ofNat n.toNat
def textK (bs : List Int) (c : Cu) (m : Int) : Int := belowV bs (belowC bs c 4) (m + 1)
def textD (bs : List Int) (c : Cu) (m : Int) : Cu := belowC bs (belowC bs c 4) (m + 1)
def textV (bs : List Int) (c : Cu) (m : Int) : List UInt8 := toB (txL bs (belowV bs c 4) (textD bs c m) (textK bs c m).toNat)
def textC (bs : List Int) (c : Cu) (m : Int) : Cu := txC bs (textD bs c m) (textK bs c m).toNat
theorem textK_bd {bs : List Int} {c : Cu} {m : Int} (h : 0 ≤ m) : 0 ≤ textK bs c m ∧ textK bs c m ≤ m := by
  have := @belowV_bd bs (belowC bs c 4) (m + 1) (by omega)
  unfold textK; omega
theorem textC_nn {bs : List Int} {c : Cu} {m : Int} (h : 0 ≤ c.1) : 0 ≤ (textC bs c m).1 := txC_nn (belowC_nn (belowC_nn h))
theorem textV_len {bs : List Int} {c : Cu} {m : Int} (h : 0 ≤ m) : (textV bs c m).length ≤ m.toNat := by
  have := @textK_bd bs c m h
  unfold textV toB
  rw [List.length_map, txL_len]; omega
theorem bxor_bd {a b : Int} (ha : 0 ≤ a ∧ a ≤ 255) (hb : 0 ≤ b ∧ b ≤ 255) : 0 ≤ bxor .i64 a b ∧ bxor .i64 a b ≤ 255 := by
  obtain ⟨x, rfl⟩ := Int.eq_ofNat_of_zero_le ha.1
  obtain ⟨y, rfl⟩ := Int.eq_ofNat_of_zero_le hb.1
  have hx : x ^^^ y < 2 ^ 8 := Nat.xor_lt_two_pow (by omega) (by omega)
  have e : bxor .i64 (x : Int) (y : Int) = ((x ^^^ y : Nat) : Int) := by
    unfold bxor
    have e1 : (BitVec.ofInt IntKind.i64.bits (x : Int) ^^^ BitVec.ofInt IntKind.i64.bits (y : Int)).toNat = x ^^^ y := by
      show (BitVec.ofInt 64 (x : Int) ^^^ BitVec.ofInt 64 (y : Int)).toNat = _
      rw [BitVec.toNat_xor, ofInt_nat, ofInt_nat, BitVec.toNat_ofNat, BitVec.toNat_ofNat, Nat.mod_eq_of_lt (by omega), Nat.mod_eq_of_lt (by omega)]
    rw [e1, wrap64]
    omega
  rw [e]; omega
def spK (bs : List Int) (c : Cu) (s : List UInt8) : Int := belowV bs c s.length
def spS (bs : List Int) (c : Cu) (s : List UInt8) : Int := belowV bs (belowC bs c s.length) 4
def spD (bs : List Int) (c : Cu) (s : List UInt8) : Cu := belowC bs (belowC bs c s.length) 4
def spoilV (bs : List Int) (c : Cu) (s : List UInt8) : List UInt8 :=
  if s.length = 0 then textV bs c 3 else
  if spS bs c s = 0 then s.take (spK bs c s).toNat ++ s.drop (spK bs c s + 1).toNat else
  if spS bs c s = 1 then (s.take (spK bs c s).toNat ++ [UInt8.ofNat (byteV bs (spD bs c s)).toNat]) ++ s.drop (spK bs c s).toNat else
  if spS bs c s = 2 then s.take (spK bs c s).toNat else
  (s.take (spK bs c s).toNat ++ [UInt8.ofNat (bxor .i64 ((s.getD (spK bs c s).toNat 0).toNat : Int) (1 + belowV bs (spD bs c s) 255)).toNat]) ++ s.drop (spK bs c s + 1).toNat
def spoilC (bs : List Int) (c : Cu) (s : List UInt8) : Cu :=
  if s.length = 0 then textC bs c 3 else
  if spS bs c s = 0 then spD bs c s else
  if spS bs c s = 1 then byteC bs (spD bs c s) else
  if spS bs c s = 2 then spD bs c s else belowC bs (spD bs c s) 255
theorem spoilC_nn {bs : List Int} {c : Cu} {s : List UInt8} (h : 0 ≤ c.1) : 0 ≤ (spoilC bs c s).1 := by
  have hd : 0 ≤ (spD bs c s).1 := belowC_nn (belowC_nn h)
  unfold spoilC
  split
  · exact textC_nn h
  split
  · exact hd
  split
  · exact byteC_nn hd
  split
  · exact hd
  · exact belowC_nn hd
theorem spoilV_len {bs : List Int} {c : Cu} {s : List UInt8} : (spoilV bs c s).length ≤ s.length + 3 := by
  unfold spoilV
  split
  · have := @textV_len bs c 3 (by omega); omega
  have hb := @belowV_bd bs c s.length (by omega)
  have hk : 0 ≤ spK bs c s ∧ spK bs c s < s.length := hb
  split
  · simp; omega
  split
  · simp; omega
  split
  · simp; omega
  · simp; omega
def pickS (bs : List Int) (c : Cu) (ss : List ByteArray) : ByteArray := ss.getD (belowV bs c ss.length).toNat ⟨#[]⟩

/-- The reference's families: some sets, put in one by one. -/
def drF (bs : List Int) (n : Int) : Nat → Cu → List Int → List Int × Cu
  | 0, c, l => (l, c)
  | k + 1, c, l => drF bs n k (belowC bs c (1 * 2 ^ n.toNat)) (putL l (belowV bs c (1 * 2 ^ n.toNat)))
theorem drF_succ {bs : List Int} {n : Int} {k : Nat} {c : Cu} {l : List Int} : drF bs n (k + 1) c l = drF bs n k (belowC bs c (1 * 2 ^ n.toNat)) (putL l (belowV bs c (1 * 2 ^ n.toNat))) := rfl
def drN (bs : List Int) (c : Cu) (most : Int) : Int := belowV bs c (most + 1)
def drK (bs : List Int) (c : Cu) (most : Int) : Nat := (belowV bs (belowC bs c (most + 1)) 7).toNat
def drA (bs : List Int) (c : Cu) (most : Int) : List Int × Cu := drF bs (drN bs c most) (drK bs c most) (belowC bs (belowC bs c (most + 1)) 7) []
def drL (bs : List Int) (c : Cu) (most : Int) : List Int := (drA bs c most).1
def drC (bs : List Int) (c : Cu) (most : Int) : Cu := (drA bs c most).2
theorem drF_len {bs : List Int} {n : Int} : ∀ {k : Nat} {c : Cu} {l : List Int}, (drF bs n k c l).1.length ≤ l.length + k
  | 0, c, l => by simp [drF]
  | k + 1, c, l => by
    have h1 := drF_len (bs := bs) (n := n) (k := k) (c := belowC bs c (1 * 2 ^ n.toNat)) (l := putL l (belowV bs c (1 * 2 ^ n.toNat)))
    have h2 := putL_len (xs := l) (x := belowV bs c (1 * 2 ^ n.toNat))
    rw [drF_succ]; omega
theorem drF_nn {bs : List Int} {n : Int} : ∀ {k : Nat} {c : Cu} {l : List Int}, 0 ≤ c.1 → 0 ≤ (drF bs n k c l).2.1
  | 0, c, l, h => h
  | k + 1, c, l, h => by rw [drF_succ]; exact drF_nn (belowC_nn h)
theorem drK_le {bs : List Int} {c : Cu} {most : Int} : drK bs c most ≤ 6 := by
  have := @belowV_bd bs (belowC bs c (most + 1)) 7 (by omega)
  unfold drK; omega
theorem drL_len {bs : List Int} {c : Cu} {most : Int} : (drL bs c most).length ≤ 6 := by
  have h1 := drF_len (bs := bs) (n := drN bs c most) (k := drK bs c most) (c := belowC bs (belowC bs c (most + 1)) 7) (l := [])
  have := @drK_le bs c most
  simp only [List.length_nil] at h1
  unfold drL drA; omega
theorem drC_nn {bs : List Int} {c : Cu} {most : Int} (h : 0 ≤ c.1) : 0 ≤ (drC bs c most).1 := drF_nn (belowC_nn (belowC_nn h))
/-- Some family, now and then not a valid one. -/
def anyG : List Int := [-1, 7, 6, 0, 9223372036854775807]
def anyS : List Int := [0, 3, 63, 64, -1]
def anyK (bs : List Int) (c : Cu) : Int := belowV bs (drC bs c 5) 14
def anyD (bs : List Int) (c : Cu) : Cu := belowC bs (drC bs c 5) 14
def anyN (bs : List Int) (c : Cu) : Int := if anyK bs c = 0 then pickV bs (anyD bs c) anyG else drN bs c 5
def anyL (bs : List Int) (c : Cu) : List Int := if anyK bs c = 0 then drL bs c 5 else if anyK bs c = 1 then drL bs c 5 ++ [pickV bs (anyD bs c) anyS] else drL bs c 5
def anyC (bs : List Int) (c : Cu) : Cu := if anyK bs c = 0 then belowC bs (anyD bs c) 5 else if anyK bs c = 1 then belowC bs (anyD bs c) 5 else anyD bs c
theorem anyL_len {bs : List Int} {c : Cu} : (anyL bs c).length ≤ 7 := by
  have := @drL_len bs c 5
  unfold anyL; split
  · omega
  · split
    · simp; omega
    · omega
theorem anyC_nn {bs : List Int} {c : Cu} (h : 0 ≤ c.1) : 0 ≤ (anyC bs c).1 := by
  have h1 : 0 ≤ (anyD bs c).1 := belowC_nn (drC_nn h)
  unfold anyC; split
  · exact belowC_nn h1
  · split
    · exact belowC_nn h1
    · exact h1
theorem any_0 {bs : List Int} {c : Cu} (h : anyK bs c = 0) : anyN bs c = pickV bs (anyD bs c) anyG ∧ anyL bs c = drL bs c 5 ∧ anyC bs c = belowC bs (anyD bs c) 5 := by simp [anyN, anyL, anyC, h]
theorem any_1 {bs : List Int} {c : Cu} (h : anyK bs c = 1) : anyN bs c = drN bs c 5 ∧ anyL bs c = drL bs c 5 ++ [pickV bs (anyD bs c) anyS] ∧ anyC bs c = belowC bs (anyD bs c) 5 := by simp [anyN, anyL, anyC, h]
theorem any_2 {bs : List Int} {c : Cu} (h0 : ¬ anyK bs c = 0) (h : ¬ anyK bs c = 1) : anyN bs c = drN bs c 5 ∧ anyL bs c = drL bs c 5 ∧ anyC bs c = anyD bs c := by simp [anyN, anyL, anyC, h, h0]

/-- What the reference draws for texts of families and of sets. -/
def dfC0 (bs : List Int) : Cu := belowC bs (newC bs) 7
def dfN (bs : List Int) : Int := pickV bs (newC bs) [5, 4, 6, 3, 0, -1, 7]
def dfK (bs : List Int) : Int := belowV bs (dfC0 bs) 6
def dfC (bs : List Int) : Nat → Cu
  | 0 => belowC bs (dfC0 bs) 6
  | n + 1 => belowC bs (dfC bs n) 34
def dfL (bs : List Int) : Nat → List Int
  | 0 => []
  | n + 1 => dfL bs n ++ [belowV bs (dfC bs n) 34 - 1]
theorem dfL_len {bs : List Int} : ∀ {n : Nat}, (dfL bs n).length = n
  | 0 => rfl
  | n + 1 => by simp [dfL, dfL_len]
theorem dfC0_nn {bs : List Int} : 0 ≤ (dfC0 bs).1 := belowC_nn newC_nn
theorem dfC_nn {bs : List Int} : ∀ {n : Nat}, 0 ≤ (dfC bs n).1
  | 0 => belowC_nn dfC0_nn
  | n + 1 => belowC_nn dfC_nn
theorem dfK_bd {bs : List Int} : 0 ≤ dfK bs ∧ dfK bs < 6 := belowV_bd (by omega)
def dfX (bs : List Int) : List Int := dfL bs (dfK bs).toNat
theorem dfX_len {bs : List Int} : (dfX bs).length ≤ 5 := by
  have := @dfK_bd bs
  unfold dfX; rw [dfL_len]; omega
/-- A set's text, drawn. -/
def dsN (bs : List Int) : Int := belowV bs (newC bs) 9 - 1
def dsC1 (bs : List Int) : Cu := belowC bs (newC bs) 9
def dsC2 (bs : List Int) : Cu := belowC bs (dsC1 bs) 32
def dsT (bs : List Int) : List UInt8 := fmtS (dsN bs) (belowV bs (dsC1 bs) 32)
def dsS (bs : List Int) : List UInt8 := if onceV bs (dsC2 bs) 3 then spoilV bs (belowC bs (dsC2 bs) 3) (dsT bs) else dsT bs
theorem dsS_len {bs : List Int} : (dsS bs).length ≤ 2000 := by
  have h := @fmtS_len (dsN bs) (belowV bs (dsC1 bs) 32)
  unfold dsS
  split
  · have := @spoilV_len bs (belowC bs (dsC2 bs) 3) (dsT bs)
    unfold dsT at *; omega
  · unfold dsT; omega
/-- A family's text, drawn. -/
def dpT (bs : List Int) : List UInt8 := fmtF (anyN bs (newC bs)) (anyL bs (newC bs))
def dpN (bs : List Int) : Int := if -1 < (if anyN bs (newC bs) < 7 then anyN bs (newC bs) else 7) then (if anyN bs (newC bs) < 7 then anyN bs (newC bs) else 7) else -1
def dpC (bs : List Int) : Cu := belowC bs (anyC bs (newC bs)) 4
def dpK (bs : List Int) : Int := belowV bs (anyC bs (newC bs)) 4
def dpW : List ByteArray := [bst [], bst [110, 111, 110, 101], bst [45], bst [45, 124, 48], bst [48, 124, 45], bst [48, 124, 48], bst [49, 44, 48], bst [48, 124], bst [124, 48], bst [57]]
def dpS (bs : List Int) : List UInt8 := if dpK bs = 0 then spoilV bs (dpC bs) (dpT bs) else if dpK bs = 1 then (pickS bs (dpC bs) dpW).data.toList else dpT bs
/-- Two families, drawn. -/
def deT (bs : List Int) : Bool := onceV bs (anyC bs (newC bs)) 2
def deC (bs : List Int) : Cu := belowC bs (anyC bs (newC bs)) 2
def deN (bs : List Int) : Int := if deT bs then anyN bs (newC bs) else anyN bs (deC bs)
def deL (bs : List Int) : List Int := if deT bs then anyL bs (newC bs) else anyL bs (deC bs)
theorem fmtF_len {n : Int} {xs : List Int} : (fmtF n xs).length ≤ xs.length * 1303 + 4 := by
  have := @famJ_len n xs
  unfold fmtF
  split
  · split
    · exact Nat.le_trans (by decide : ([110, 111, 110, 101] : List UInt8).length ≤ 4) (Nat.le_add_left 4 (xs.length * 1303))
    · exact Nat.le_trans this (Nat.le_add_right _ 4)
  · exact Nat.zero_le _
theorem dpT_len {bs : List Int} : (dpT bs).length ≤ 10000 := by
  have h := @fmtF_len (anyN bs (newC bs)) (anyL bs (newC bs))
  have := @anyL_len bs (newC bs)
  have h2 := Nat.mul_le_mul_right 1303 this
  unfold dpT; omega

theorem coL_len {n : Int} {xs : List Int} : (coL n xs).length ≤ 64 := by
  rcases Bool.eq_false_or_eq_true (famB n xs) with h | h
  · rw [(co_t h).2]
    have := @selF_len (coP n xs) (2 ^ n.toNat)
    have h2 := pow6 (famB_bd h).1
    omega
  · rw [(co_f h).2]; simp
/-- What the law compares, where the family is one. -/
theorem ff_true {n : Int} {xs : List Int} (h : famB n xs = true) (hl : xs.length ≤ 7) : ∃ L M C K : List Int,
    (msN n xs = n ∧ msL n xs = L ∧ xsN n xs = n ∧ xsL n xs = M ∧ xrL n xs = M ∧ coN n xs = n ∧ coL n xs = C ∧ coR n xs = C) ∧
    (coN n C = n ∧ coL n C = xs ∧ famB n C = true ∧ xsN n C = n ∧ xsL n C = K ∧ coN n L = n ∧ coL n L = K ∧ famB n L = true ∧ antiB L = true ∧ famB n M = true ∧ antiB M = true) ∧
    (L.length ≤ 64 ∧ M.length ≤ 64 ∧ C.length ≤ 64 ∧ K.length ≤ 64) ∧ (pfB n (fmtF n xs) = true ∧ pfL n (fmtF n xs) = xs ∧ pfN n (fmtF n xs) = n) := by
  have hm : famB n (minL xs) = true := fam_sub h List.filter_sublist
  have h1 := @minL_len xs
  have h2 : (mxL xs).length ≤ xs.length := List.length_filter_le _ _
  have hb := pf_back h
  refine ⟨minL xs, mxL xs, coL n xs, coL n (minL xs), ⟨(ms_t h).1, (ms_t h).2, (xs_t h).1, (xs_t h).2, ?_, (co_t h).1, rfl, co_eq⟩,
    ⟨(co_t (co_fam h)).1, co_co h, co_fam h, (xs_t (co_fam h)).1, (ex_max h).2, (co_t hm).1, rfl, hm, minL_anti (asc_fam h) (fam_smallL h), mxL_fam h, mxL_anti (asc_fam h) (fam_smallL h)⟩,
    ⟨by omega, by omega, coL_len, coL_len⟩, ?_, hb.1, hb.2⟩
  · rw [xr_eq, (xs_t h).2]
  · rw [pf_fmt, h]
theorem ff_false {n : Int} {xs : List Int} (h : famB n xs = false) :
    (msN n xs = 0 ∧ msL n xs = [] ∧ xsN n xs = 0 ∧ xsL n xs = [] ∧ xrL n xs = [] ∧ coN n xs = 0 ∧ coL n xs = [] ∧ coR n xs = []) ∧ (pfB n (fmtF n xs) = false ∧ pfL n (fmtF n xs) = [] ∧ pfN n (fmtF n xs) = 0) := by
  have hp : pfB n (fmtF n xs) = false := by rw [pf_fmt, h]
  exact ⟨⟨(ms_f h).1, (ms_f h).2, (xs_f h).1, (xs_f h).2, xr_f h, (co_f h).1, (co_f h).2, cr_f h⟩, hp, (pf_f hp).1, (pf_f hp).2⟩
theorem dpS_len {bs : List Int} : (dpS bs).length ≤ 20000 := by
  have h0 := @dpT_len bs
  unfold dpS
  split
  · have := @spoilV_len bs (dpC bs) (dpT bs)
    omega
  split
  · have h10 : ∀ k : Fin 10, (dpW.getD (k : Nat) ⟨#[]⟩).data.toList.length ≤ 20000 := by decide
    have h : ∀ k : Nat, (dpW.getD k ⟨#[]⟩).data.toList.length ≤ 20000 := by
      intro k
      by_cases hk : k < 10
      · exact h10 ⟨k, hk⟩
      · rw [List.getD_eq_getElem?_getD, List.getElem?_eq_none (by simp [dpW]; omega)]; simp
    exact h _
  · omega
theorem dgS_bd6 {n : Int} {xs : List Int} {k : Nat} (hk : k ≤ 6) (hl : xs.length ≤ 7) : -6 ≤ dgS n xs k ∧ dgS n xs k ≤ 42 := by
  have h1 := @dgS_bd n xs k
  have h2 : k * xs.length ≤ 6 * 7 := Nat.mul_le_mul hk hl
  have e : ((k * xs.length : Nat) : Int) = (k : Int) * xs.length := Int.natCast_mul _ _
  rw [← e] at h1
  generalize k * xs.length = q at *
  omega
theorem elO_len {n s : Int} : (elO n s).length ≤ 62 := by
  unfold elO; split
  · exact elemsL_len
  · simp

theorem klp_keep {m : Nat} {α : Type} {V : α → Prop} {I : α → St} {μ : α → Nat} {slots k1 k2 : List Nat} {x : α} (h1 : okKeep k1 m = true) (h2 : okKeep k2 m = true) : klp m V I μ slots (fun _ => k1) x = klp m V I μ slots (fun _ => k2) x := by
  funext s
  apply propext
  constructor
  · rintro ⟨ls, kp, y, h, r⟩
    refine ⟨ls, kp, y, .inr ?_, r⟩
    rcases h with rfl | h
    · exact h1
    · exact h
  · rintro ⟨ls, kp, y, h, r⟩
    refine ⟨ls, kp, y, .inr ?_, r⟩
    rcases h with rfl | h
    · exact h2
    · exact h
/-- The loop, its round proved apart, whatever blocks are kept on entering. -/
theorem bc_loopE {P : Program} {Γ : Gm} {m : Nat} {R : St → Prop} {X : List (Nat × (St → Prop))} {K : St → Prop} {s : St} {c : Code} {α : Type} (V : α → Prop) (I : α → St) (μ : α → Nat) (slots keep : List Nat) (x0 : α)
    (hk : okKeep keep m = true) (h0 : s.conv slots keep = I x0) (v0 : V x0) (hk2 : okKeep [] m = true) (step : ∀ x, V x → bc P Γ m R c X (klp m V I μ slots (fun _ => []) x) (I x)) : bc P Γ m R (.loop c) X K s :=
  bc_loop V I μ slots keep x0 hk h0 v0 fun x hx => by rw [klp_keep hk hk2]; exact step x hx
/-- What is found on the way may be proved behind. -/
structure Hold (H : Prop) : Prop where
  h : H
theorem cut_of {H G : Prop} (h1 : Hold H → G) (h2 : H) : G := h1 ⟨h2⟩
theorem lapp_nil {α : Type} {m : List α} : List.append [] m = m := id rfl
theorem lapp_cons {α : Type} {a : α} {l m : List α} : List.append (a :: l) m = a :: List.append l m := id rfl

theorem is_laws_big : FnIs Tryz.prog 4 6 [.tmp 2] (Tryz.f4.body.getD .skip) := ⟨⟨Tryz.f4, by kernel_rfl, by kernel_rfl, by kernel_rfl, by kernel_rfl⟩, by kernel_rfl, by kernel_rfl⟩
def G_laws_big : Gm := Gm.none
theorem G_laws_big_ok : G_laws_big.ok Tryz.prog := Gm.none_ok
theorem gm_laws_big {r : List Oper} {n : Nat} : splB G_laws_big r n = true := rfl
set_option maxHeartbeats 1000000 in
set_option maxRecDepth 100000 in
theorem runs_laws_big (bs : List Int) : ARuns Tryz.prog 4 [.sl none (.ints .u8 bs)] [] (.bool (decide (1048576 < (bs.length : Int)))) [] := by
  refine ARuns_bc G_laws_big_ok is_laws_big (by simp) fun hl hlB => ?_
  simp only [kcode_at, kreg_at, bc_seq, bc_ret, bc_region, afin_nil, cvE_some, resL, resV, cv, pack, entryE, inPrm, entryB, Option.getD_some, aops_nil, aops_plain, kont_at, aop_move, aop_assign, aop_binOp, aop_len, evalE, getE, putE, getB, St.put, setsB, AV.ofV, SC.len, List.length_nil, Nat.reduceEqDiff, ↓reduceIte, and_true, List.nil_append, List.cons_append, aInt_gtr, aBin_gtr, aLen_prm, aBinW_f, isW_gtr, un3, un22, Tryz.f4]

def lend_laws_big : List Nat := []
def sp_laws_big : List AV → List Bx → (AV → List Bx → Prop) → Prop
  | [.sl none (.ints .u8 bs)], [], K => K (.bool (decide (1048576 < (bs.length : Int)))) []
  | _, _, _ => False
theorem at_laws_big {bs : List Int} {K : AV → List Bx → Prop} : sp_laws_big [.sl none (.ints .u8 bs)] [] K = (K (.bool (decide (1048576 < (bs.length : Int)))) []) := id rfl
theorem ok_laws_big : ∀ args giv K, sp_laws_big args giv K → ∃ r outs, ARuns Tryz.prog 4 args giv r outs ∧ K r outs := by
  intro args giv K hk
  unfold sp_laws_big at hk
  split at hk
  · exact ⟨_, _, runs_laws_big _ , hk⟩
  · exact hk.elim
theorem is_spec_l1Byte : FnIs Tryz.prog 80 58 [.tmp 2] (Tryz.f80.body.getD .skip) := ⟨⟨Tryz.f80, by kernel_rfl, by kernel_rfl, by kernel_rfl, by kernel_rfl⟩, by kernel_rfl, by kernel_rfl⟩
def G_spec_l1Byte : Gm := Gm.none
theorem G_spec_l1Byte_ok : G_spec_l1Byte.ok Tryz.prog := Gm.none_ok
theorem gm_spec_l1Byte {r : List Oper} {n : Nat} : splB G_spec_l1Byte r n = true := rfl
set_option maxHeartbeats 1000000 in
set_option maxRecDepth 100000 in
theorem runs_spec_l1Byte (bs : List Int) (i h : Int) (hp1 : OkBs bs) (hp2 : 0 ≤ i) : ARuns Tryz.prog 80 [.ptr 0 0] [.box [.sl none (.ints .u8 bs), .int .i64 i, .int .i64 h]] (.int .i64 (byteV bs (i, h))) [.box [.prm 1 (.ints .u8 bs), .int .i64 (byteC bs (i, h)).1, .int .i64 (byteC bs (i, h)).2]] := by
  refine ARuns_bc G_spec_l1Byte_ok is_spec_l1Byte (by simp) fun hl hlB => ?_
  simp only [kcode_at, kreg_at, bc_skip, bc_seq, bc_cond, bc_ret, bc_region, acond_tmp, aCase_t, aCase_f, entryE, inPrm, entryB, inPrms, Option.getD_some, AV.bid, List.map_nil, aops_nil, aops_plain, kont_at, aop_move, aop_assign, aop_load, aop_store, aop_nilCheck, aop_binOp, aop_convert, aop_fieldAddr, aop_indexAddr, aop_len, evalE, getE, putE, getB, setB, St.put, setsB, AV.ofV, AV.blk, AV.bid, AV.one, SC.len, SC.get, List.length_nil, List.length_cons, Nat.reduceEqDiff, Nat.reduceAdd, ↓reduceIte, true_and, and_true, decide_eq_true_eq, decide_eq_false_iff_not, Option.isSome, List.nil_append, List.cons_append, aInt_add, aBin_add, aInt_and, aBin_and, aInt_xor, aBin_xor, aInt_lss, aBin_lss, aBin_shr, aShift_shr, aNil_ptr, aConv_int, aField_ptr, aIdx_prm, aLen_prm, aLoad_1b, aLoad_ep, aStore_1, aBinW_f, aWrap_mul, aWrap_add, isW_tmp, isW_mulc, isW_addc, isW_and, isW_shr, Int.reduceLT, aBinW_dF, aBinW_dT, bc_draw, kregD_at, aopsD_nil, aopsD_plain, kontD_at, splW_t, contD_at, splD_bool, splD_int, splD_prm, splD_ptr, splD_ep, addTr_nil, addTr_cons, regC_none, regR_nil, regR_cons, cont, List.getD_cons_zero, List.getD_cons_succ, List.set_cons_zero, List.set_cons_succ, Nat.reduceLT, Nat.zero_add, aConvS_int, ty3, un3, sl5, ty5, un5, sl22, ty22, un22, ty81, inR64, gm_spec_l1Byte, Tryz.f80]
  have e33 : Int.toNat 33 = 33 := rfl
  have e45 : Int.toNat 45 = 45 := rfl
  simp only [e33, e45, IntKind.bits]
  refine ⟨by omega, by omega, fun hlt => ?_, fun hge => ?_⟩
  · obtain ⟨h7, hp1⟩ := hp1
    have h5 := @curX_bd (curH h)
    have h6 := hp1 i.toNat (by omega)
    rw [(byte_t hlt).1, (byte_t hlt).2]
    unfold curX curH at *
    refine ⟨by omega, by omega, by omega, by omega, afin_of [0] rfl rfl (by simp [St.conv, St.bf, getE, putE, getB, cv, cvL, cvB, idx, still, pack, lifts, liftOne, liftC, liftK, killB, cellsOfB, setB]) (by simp [St.conv, St.bf, getE, putE, getB, cv, cvL, cvB, idx, still, pack, lifts, liftOne, liftC, liftK, killB, cellsOfB, setB])⟩
  · rw [(byte_f hge).1, (byte_f hge).2]
    exact afin_of [0] rfl rfl (by simp [St.conv, St.bf, getE, putE, getB, cv, cvL, cvB, idx, still, pack, lifts, liftOne, liftC, liftK, killB, cellsOfB, setB]; rfl) (by simp [St.conv, St.bf, getE, putE, getB, cv, cvL, cvB, idx, still, pack, lifts, liftOne, liftC, liftK, killB, cellsOfB, setB]; rfl)
def lend_spec_l1Byte : List Nat := [0]
def sp_spec_l1Byte : List AV → List Bx → (AV → List Bx → Prop) → Prop
  | [.ptr 0 0], [.box [.sl none (.ints .u8 bs), .int .i64 i, .int .i64 h]], K => (OkBs bs) ∧ (0 ≤ i) ∧ K (.int .i64 (byteV bs (i, h))) [.box [.prm 1 (.ints .u8 bs), .int .i64 (byteC bs (i, h)).1, .int .i64 (byteC bs (i, h)).2]]
  | _, _, _ => False
theorem at_spec_l1Byte {bs : List Int} {i h : Int} {K : AV → List Bx → Prop} : sp_spec_l1Byte [.ptr 0 0] [.box [.sl none (.ints .u8 bs), .int .i64 i, .int .i64 h]] K = ((OkBs bs) ∧ (0 ≤ i) ∧ K (.int .i64 (byteV bs (i, h))) [.box [.prm 1 (.ints .u8 bs), .int .i64 (byteC bs (i, h)).1, .int .i64 (byteC bs (i, h)).2]]) := id rfl
theorem ok_spec_l1Byte : ∀ args giv K, sp_spec_l1Byte args giv K → ∃ r outs, ARuns Tryz.prog 80 args giv r outs ∧ K r outs := by
  intro args giv K hk
  unfold sp_spec_l1Byte at hk
  split at hk
  · obtain ⟨hp1, hp2, hk⟩ := hk; exact ⟨_, _, runs_spec_l1Byte _ _ _ hp1 hp2, hk⟩
  · exact hk.elim
theorem is_spec_l1Below : FnIs Tryz.prog 57 37 [.tmp 4] (Tryz.f57.body.getD .skip) := ⟨⟨Tryz.f57, by kernel_rfl, by kernel_rfl, by kernel_rfl, by kernel_rfl⟩, by kernel_rfl, by kernel_rfl⟩
def G_spec_l1Below : Gm := (Gm.none.add 80 lend_spec_l1Byte sp_spec_l1Byte)
theorem G_spec_l1Below_ok : G_spec_l1Below.ok Tryz.prog := (Gm.add_ok Gm.none_ok ok_spec_l1Byte)
theorem gm_spec_l1Below {r : List Oper} {n : Nat} : splB G_spec_l1Below r n = true := rfl
theorem gs_spec_l1Below_80 : G_spec_l1Below.sp 80 = sp_spec_l1Byte ∧ G_spec_l1Below.lend 80 = lend_spec_l1Byte := ⟨rfl, rfl⟩
set_option maxHeartbeats 1000000 in
set_option maxRecDepth 100000 in
theorem runs_spec_l1Below (bs : List Int) (i h n : Int) (hp1 : OkBs bs) (hp2 : 0 ≤ i) : ARuns Tryz.prog 57 [.ptr 0 0, .int .i64 n] [.box [.sl none (.ints .u8 bs), .int .i64 i, .int .i64 h]] (.int .i64 (belowV bs (i, h) n)) [.box [.prm 2 (.ints .u8 bs), .int .i64 (belowC bs (i, h) n).1, .int .i64 (belowC bs (i, h) n).2]] := by
  refine ARuns_bc G_spec_l1Below_ok is_spec_l1Below (by simp) fun hl hlB => ?_
  simp only [kcode_at, kreg_at, bc_skip, bc_seq, bc_cond, bc_ret, bc_region, acond_tmp, aCase_b, entryE, inPrm, entryB, inPrms, bxCells, Option.getD_some, acall_clo, selOf, selA, inArgs, inA, inL, okA, okL, okBx, outA, outL, outU, outB, deep, deepL, boxIds, List.map_nil, List.map_cons, List.all_nil, List.all_cons, BEq.rfl, Bool.and_true, List.append_nil, aops_nil, aops_plain, kont_at, aop_move, aop_assign, aop_binOp, SC0, aop_call, evalE, getE, putE, getB, setB, St.put, setsB, AV.ofV, SC.len, List.length_nil, List.length_cons, Nat.reduceEqDiff, Nat.reduceAdd, ↓reduceIte, true_and, and_true, decide_eq_true_eq, decide_eq_false_iff_not, List.nil_append, List.cons_append, aInt_add, aBin_add, aInt_mul, aBin_mul, aInt_rem, aBin_rem, aInt_leq, aBin_leq, aBinW_f, isW_tmp, isW_mulc, isW_leq, Int.reduceLT, aBinW_dF, mp_one0, kcall_one, liveB_box, idx, dies, lend, lendA, lendDies, List.getD_cons_zero, List.getD_cons_succ, Nat.le_refl, Nat.reduceLT, List.flatMap_nil, List.flatMap_cons, Nat.zero_add, BEq.rfl, un3, sl51, inR64, gs_spec_l1Below_80, at_spec_l1Byte, lend_spec_l1Byte, cu_eta, Tryz.f57]
  have h1 := @byteV_bd bs (i, h)
  have h2 := @byteV_bd bs (byteC bs (i, h))
  have h3 := @byteV_bd bs (byteC bs (byteC bs (i, h)))
  have h4 := @byteV_bd bs (byteC bs (byteC bs (byteC bs (i, h))))
  have c1 := @byteC_nn bs (i, h) hp2
  have c2 := @byteC_nn bs _ c1
  have c3 := @byteC_nn bs _ c2
  refine ⟨fun hn => ?_, fun hn => ⟨fun hs => ⟨hp1, hp2, by omega, ?_⟩, fun hs => ⟨hp1, hp2, hp1, c1, hp1, c2, hp1, c3, by omega, by omega, by omega, by omega, by omega, by omega, by omega, ?_⟩⟩⟩
  · rw [(belowV_0 hn).1, (belowV_0 hn).2]
    exact afin_of [0] rfl rfl (by simp [St.conv, St.bf, getE, putE, getB, cv, cvL, cvB, idx, still, pack, lifts, liftOne, liftC, liftK, killB, cellsOfB, setB]) (by simp [St.conv, St.bf, getE, putE, getB, cv, cvL, cvB, idx, still, pack, lifts, liftOne, liftC, liftK, killB, cellsOfB, setB])
  · rw [(below_s hn hs).1, (below_s hn hs).2]
    exact afin_of [0] rfl rfl (by simp [St.conv, St.bf, getE, putE, getB, cv, cvL, cvB, idx, still, pack, lifts, liftOne, liftC, liftK, killB, cellsOfB, setB]) (by simp [St.conv, St.bf, getE, putE, getB, cv, cvL, cvB, idx, still, pack, lifts, liftOne, liftC, liftK, killB, cellsOfB, setB])
  · rw [(below_b hn hs).1, (below_b hn hs).2]
    exact afin_of [0] rfl rfl (by simp [St.conv, St.bf, getE, putE, getB, cv, cvL, cvB, idx, still, pack, lifts, liftOne, liftC, liftK, killB, cellsOfB, setB]) (by simp [St.conv, St.bf, getE, putE, getB, cv, cvL, cvB, idx, still, pack, lifts, liftOne, liftC, liftK, killB, cellsOfB, setB])
def lend_spec_l1Below : List Nat := [0]
def sp_spec_l1Below : List AV → List Bx → (AV → List Bx → Prop) → Prop
  | [.ptr 0 0, .int .i64 n], [.box [.sl none (.ints .u8 bs), .int .i64 i, .int .i64 h]], K => (OkBs bs) ∧ (0 ≤ i) ∧ K (.int .i64 (belowV bs (i, h) n)) [.box [.prm 2 (.ints .u8 bs), .int .i64 (belowC bs (i, h) n).1, .int .i64 (belowC bs (i, h) n).2]]
  | _, _, _ => False
theorem at_spec_l1Below {bs : List Int} {i h n : Int} {K : AV → List Bx → Prop} : sp_spec_l1Below [.ptr 0 0, .int .i64 n] [.box [.sl none (.ints .u8 bs), .int .i64 i, .int .i64 h]] K = ((OkBs bs) ∧ (0 ≤ i) ∧ K (.int .i64 (belowV bs (i, h) n)) [.box [.prm 2 (.ints .u8 bs), .int .i64 (belowC bs (i, h) n).1, .int .i64 (belowC bs (i, h) n).2]]) := id rfl
theorem ok_spec_l1Below : ∀ args giv K, sp_spec_l1Below args giv K → ∃ r outs, ARuns Tryz.prog 57 args giv r outs ∧ K r outs := by
  intro args giv K hk
  unfold sp_spec_l1Below at hk
  split at hk
  · obtain ⟨hp1, hp2, hk⟩ := hk; exact ⟨_, _, runs_spec_l1Below _ _ _ _ hp1 hp2, hk⟩
  · exact hk.elim
theorem is_spec_l1PickInt : FnIs Tryz.prog 56 12 [.tmp 4] (Tryz.f56.body.getD .skip) := ⟨⟨Tryz.f56, by kernel_rfl, by kernel_rfl, by kernel_rfl, by kernel_rfl⟩, by kernel_rfl, by kernel_rfl⟩
def G_spec_l1PickInt : Gm := (Gm.none.add 57 lend_spec_l1Below sp_spec_l1Below)
theorem G_spec_l1PickInt_ok : G_spec_l1PickInt.ok Tryz.prog := (Gm.add_ok Gm.none_ok ok_spec_l1Below)
theorem gm_spec_l1PickInt {r : List Oper} {n : Nat} : splB G_spec_l1PickInt r n = true := rfl
theorem gs_spec_l1PickInt_57 : G_spec_l1PickInt.sp 57 = sp_spec_l1Below ∧ G_spec_l1PickInt.lend 57 = lend_spec_l1Below := ⟨rfl, rfl⟩
set_option maxHeartbeats 1000000 in
set_option maxRecDepth 100000 in
theorem runs_spec_l1PickInt (bs : List Int) (i h : Int) (xs : List Int) (hp1 : OkBs bs) (hp2 : 0 ≤ i) (hp3 : 0 < xs.length) : ARuns Tryz.prog 56 [.ptr 0 0, .sl none (.ints .i64 xs)] [.box [.sl none (.ints .u8 bs), .int .i64 i, .int .i64 h]] (.int .i64 (pickV bs (i, h) xs)) [.box [.prm 2 (.ints .u8 bs), .int .i64 (belowC bs (i, h) xs.length).1, .int .i64 (belowC bs (i, h) xs.length).2]] := by
  refine ARuns_bc G_spec_l1PickInt_ok is_spec_l1PickInt (by simp) fun hl hlB => ?_
  simp only [kcode_at, kreg_at, bc_seq, bc_ret, bc_region, entryE, inPrm, entryB, inPrms, bxCells, Option.getD_some, acall_clo, selOf, selA, inArgs, inA, inL, okA, okL, okBx, outA, outL, outU, outB, deep, deepL, boxIds, List.map_nil, List.map_cons, List.all_nil, List.all_cons, BEq.rfl, Bool.and_true, List.append_nil, aops_nil, aops_plain, kont_at, aop_move, aop_assign, aop_load, aop_indexAddr, aop_len, SC0, aop_call, evalE, getE, putE, getB, setB, St.put, setsB, AV.ofV, AV.blk, SC.len, SC.get, List.length_nil, List.length_cons, Nat.reduceEqDiff, Nat.reduceAdd, ↓reduceIte, true_and, and_true, Option.isSome, List.nil_append, List.cons_append, aIdx_prm, aLen_prm, aLoad_ep, mp_one0, kcall_one, liveB_box, idx, dies, lend, lendA, lendDies, List.getD_cons_zero, List.getD_cons_succ, Nat.le_refl, Nat.reduceLT, List.flatMap_nil, List.flatMap_cons, Nat.zero_add, BEq.rfl, sl3, ty3, sl24, un24, sl51, gs_spec_l1PickInt_57, at_spec_l1Below, lend_spec_l1Below, Tryz.f56]
  have hb := @belowV_bd bs (i, h) xs.length (by omega)
  exact ⟨hp1, hp2, by omega, afin_of [0] rfl rfl (by simp [St.conv, St.bf, getE, putE, getB, cv, cvL, cvB, idx, still, pack, lifts, liftOne, liftC, liftK, killB, cellsOfB, setB]; rfl) (by simp [St.conv, St.bf, getE, putE, getB, cv, cvL, cvB, idx, still, pack, lifts, liftOne, liftC, liftK, killB, cellsOfB, setB])⟩
def lend_spec_l1PickInt : List Nat := [0]
def sp_spec_l1PickInt : List AV → List Bx → (AV → List Bx → Prop) → Prop
  | [.ptr 0 0, .sl none (.ints .i64 xs)], [.box [.sl none (.ints .u8 bs), .int .i64 i, .int .i64 h]], K => (OkBs bs) ∧ (0 ≤ i) ∧ (0 < xs.length) ∧ K (.int .i64 (pickV bs (i, h) xs)) [.box [.prm 2 (.ints .u8 bs), .int .i64 (belowC bs (i, h) xs.length).1, .int .i64 (belowC bs (i, h) xs.length).2]]
  | _, _, _ => False
theorem at_spec_l1PickInt {bs : List Int} {i h : Int} {xs : List Int} {K : AV → List Bx → Prop} : sp_spec_l1PickInt [.ptr 0 0, .sl none (.ints .i64 xs)] [.box [.sl none (.ints .u8 bs), .int .i64 i, .int .i64 h]] K = ((OkBs bs) ∧ (0 ≤ i) ∧ (0 < xs.length) ∧ K (.int .i64 (pickV bs (i, h) xs)) [.box [.prm 2 (.ints .u8 bs), .int .i64 (belowC bs (i, h) xs.length).1, .int .i64 (belowC bs (i, h) xs.length).2]]) := id rfl
theorem ok_spec_l1PickInt : ∀ args giv K, sp_spec_l1PickInt args giv K → ∃ r outs, ARuns Tryz.prog 56 args giv r outs ∧ K r outs := by
  intro args giv K hk
  unfold sp_spec_l1PickInt at hk
  split at hk
  · obtain ⟨hp1, hp2, hp3, hk⟩ := hk; exact ⟨_, _, runs_spec_l1PickInt _ _ _ _ hp1 hp2 hp3, hk⟩
  · exact hk.elim
theorem is_spec_l15Put : FnIs Tryz.prog 59 45 [.tmp 4] (Tryz.f59.body.getD .skip) := ⟨⟨Tryz.f59, by kernel_rfl, by kernel_rfl, by kernel_rfl, by kernel_rfl⟩, by kernel_rfl, by kernel_rfl⟩
def G_spec_l15Put : Gm := Gm.none
theorem G_spec_l15Put_ok : G_spec_l15Put.ok Tryz.prog := Gm.none_ok
theorem gm_spec_l15Put {r : List Oper} {n : Nat} : splB G_spec_l15Put r n = true := rfl
set_option maxHeartbeats 1000000 in
set_option maxRecDepth 100000 in
theorem runs_spec_l15Put_1 (xs : List Int) (x : Int) (hp1 : xs.length ≤ 1099511627000) (hc : hasP xs x = true) : ARuns Tryz.prog 59 [.sl none (.ints .i64 xs), .int .i64 x] [] (.prm 0 (.ints .i64 xs)) [] := by
  refine ARuns_bc G_spec_l15Put_ok is_spec_l15Put (by simp) fun hl hlB => ?_
  simp only [kcode_at, kreg_at, bc_seq, bc_block, bc_region, entryE, inPrm, entryB, Option.getD_some, aops_nil, aops_plain, kont_at, aop_move, aop_assign, aop_len, evalE, getE, putE, getB, St.put, setsB, AV.ofV, SC.len, List.length_nil, Nat.reduceEqDiff, ↓reduceIte, List.nil_append, List.cons_append, aLen_prm, Nat.zero_add, un24, Tryz.f59]
  refine bc_loop (fun k : Nat => k ≤ xs.length ∧ posF xs x k = posL xs x)
    (fun k => ⟨[(0, .prm 0 (.ints .i64 xs)), (1, .int .i64 x), (5, .int .i64 k)], []⟩) (fun k => k)
    [0, 1, 5] [] xs.length rfl (by simp [St.conv, St.bf, getE, putE, getB, cv, cvL, cvB, idx, still, pack, lifts, liftOne, liftC, liftK, killB, cellsOfB, setB]) ⟨Nat.le_refl _, rfl⟩ fun k ⟨h1, h2⟩ => ?_
  simp only [kcode_at, kreg_at, bc_skip, bc_seq, bc_cond, bc_block, bc_exit, bc_ret, bc_region, lkX_cons, acond_tmp, aCase_f, aCase_b, afin_nil, cvE_some, resL, resV, cv, pack, AV.bid, List.map_nil, List.map_cons, List.append_nil, aops_nil, aops_plain, aops_guard, kont_at, yes_at, no_at, aop_move, aop_assign, aop_pick, aop_buildSlice, aop_load, aop_binOp, aop_indexAddr, aop_slice, slTy2, aop_append, evalE, getE, putE, getB, setB, St.put, setsB, nth, AV.ofV, AV.blk, AV.bid, SC.len, SC.get, List.length_nil, List.length_cons, Nat.reduceEqDiff, Nat.reduceAdd, ↓reduceIte, true_and, and_true, decide_eq_true_eq, decide_eq_false_iff_not, Option.isSome, List.nil_append, List.cons_append, aGuardO_some, aGuard_tt, aGuard_tf, aGuard_tb, aPick_t, aPick_f, aInt_sub, aBin_sub, aInt_eql, aBin_eql, aInt_gtr, aBin_gtr, aIdx_prm, aBuildL_some, aBuildS_some, aLoad_ep, aApp_some, aAppend_ref, aSlice_h, aSlice_l, aBinW_f, isW_tmp, isW_sub, isW_gtr, bc_draw, kregD_at, aopsD_nil, aopsD_plain, kontD_at, splW_t, contD_at, splD_int, splD_sl, splD_prm, splD_ref, addTr_nil, addTr_cons, memQ_nil, memQ_cons, clash_nil, clash_cons, regC_nil, regC_cons, regR_nil, regR_cons, rng0, rng1, SC.take, SC.drop, idx, cont, still, dies, snocs, SC.snoc, SC.app, Nat.reduceLeDiff, Option.map_some, Option.map_none, List.flatMap_nil, List.flatMap_cons, Nat.zero_add, aCut_prm, ty3, un3, sl24, un24, inR64, gm_spec_l15Put, Int.toNat_natCast]
  have hp := hc
  simp only [hasP, Bool.and_eq_true, decide_eq_true_eq] at hp
  rcases Nat.eq_zero_or_pos k with rfl | hk0
  · refine ⟨fun h => absurd h (by omega), fun _ => ⟨fun h => absurd h (by omega), fun _ => ?_⟩⟩
    exact absurd hp.1 (by rw [← h2]; simp [posF])
  obtain ⟨j, rfl⟩ : ∃ j, k = j + 1 := ⟨k - 1, by omega⟩
  have e0 : (((j + 1 : Nat) : Int) - 1).toNat = j := by omega
  simp only [e0]
  refine ⟨fun _ => ⟨by omega, by omega, fun hlt => ⟨by omega, klp_of j (by simp [St.conv, St.bf, getE, putE, getB, cv, cvL, cvB, idx, still, pack, lifts, liftOne, liftC, liftK, killB, cellsOfB, setB]) ⟨by omega, by rw [← posF_t hlt]; exact h2⟩ (by omega)⟩, fun hge => ⟨fun _ => ⟨by omega, by omega, fun he => ?_, fun he => ?_⟩, fun h => absurd h (by omega)⟩⟩, fun h => absurd h (by omega)⟩
  · trivial
  · rw [posF_f hge] at h2
    rw [← h2] at hp
    exact absurd hp.2 (by simpa using he)
set_option maxHeartbeats 1000000 in
set_option maxRecDepth 100000 in
theorem runs_spec_l15Put_2 (xs : List Int) (x : Int) (hp1 : xs.length ≤ 1099511627000) (hc : hasP xs x = false) : ARuns Tryz.prog 59 [.sl none (.ints .i64 xs), .int .i64 x] [] (.ref 0 (putL xs x).length) [.row 3 (.ints .i64 (putL xs x))] := by
  refine ARuns_bc G_spec_l15Put_ok is_spec_l15Put (by simp) fun hl hlB => ?_
  simp only [kcode_at, kreg_at, bc_seq, bc_block, bc_region, entryE, inPrm, entryB, Option.getD_some, aops_nil, aops_plain, kont_at, aop_move, aop_assign, aop_len, evalE, getE, putE, getB, St.put, setsB, AV.ofV, SC.len, List.length_nil, Nat.reduceEqDiff, ↓reduceIte, List.nil_append, List.cons_append, aLen_prm, Nat.zero_add, un24, Tryz.f59]
  refine bc_loop (fun k : Nat => k ≤ xs.length ∧ posF xs x k = posL xs x)
    (fun k => ⟨[(0, .prm 0 (.ints .i64 xs)), (1, .int .i64 x), (5, .int .i64 k)], []⟩) (fun k => k)
    [0, 1, 5] [] xs.length rfl (by simp [St.conv, St.bf, getE, putE, getB, cv, cvL, cvB, idx, still, pack, lifts, liftOne, liftC, liftK, killB, cellsOfB, setB]) ⟨Nat.le_refl _, rfl⟩ fun k ⟨h1, h2⟩ => ?_
  simp only [kcode_at, kreg_at, bc_skip, bc_seq, bc_cond, bc_block, bc_exit, bc_ret, bc_region, lkX_cons, acond_tmp, aCase_f, aCase_b, AV.bid, List.map_nil, List.map_cons, List.append_nil, aops_nil, aops_plain, aops_guard, kont_at, yes_at, no_at, aop_move, aop_assign, aop_pick, aop_buildSlice, aop_load, aop_binOp, aop_indexAddr, aop_slice, slTy2, aop_append, evalE, getE, putE, getB, setB, St.put, setsB, nth, AV.ofV, AV.blk, AV.bid, SC.len, SC.get, List.length_nil, List.length_cons, Nat.reduceEqDiff, Nat.reduceAdd, ↓reduceIte, true_and, and_true, decide_eq_true_eq, decide_eq_false_iff_not, Option.isSome, List.nil_append, List.cons_append, aGuardO_some, aGuard_tt, aGuard_tf, aGuard_tb, aPick_t, aPick_f, aInt_sub, aBin_sub, aInt_eql, aBin_eql, aInt_gtr, aBin_gtr, aIdx_prm, aBuildL_some, aBuildS_some, aLoad_ep, aApp_some, aAppend_ref, aSlice_h, aSlice_l, aBinW_f, isW_tmp, isW_sub, isW_gtr, bc_draw, kregD_at, aopsD_nil, aopsD_plain, kontD_at, splW_t, contD_at, splD_int, splD_sl, splD_prm, splD_ref, addTr_nil, addTr_cons, memQ_nil, memQ_cons, clash_nil, clash_cons, regC_nil, regC_cons, regR_nil, regR_cons, rng0, rng1, SC.take, SC.drop, cont, still, dies, snocs, SC.snoc, SC.app, Nat.reduceLeDiff, Option.map_some, Option.map_none, List.flatMap_nil, List.flatMap_cons, Nat.zero_add, aCut_prm, ty3, un3, sl24, un24, inR64, gm_spec_l15Put, Int.toNat_natCast]
  rcases Nat.eq_zero_or_pos k with rfl | hk0
  · refine ⟨fun h => absurd h (by omega), fun _ => ⟨fun h => absurd h (by omega), fun _ => ?_⟩⟩
    simp only [posF] at h2
    refine ⟨by omega, by simp only [List.length_take]; omega, by simp only [List.length_take]; omega, by omega, ⟨by simp, by simp only [List.length_take, List.length_drop]; omega⟩, ?_, ?_⟩
    · (repeat' apply And.intro) <;> (show ordB _ _ _ = true; kernel_rfl)
    · rw [putL_f hc, ← h2]
      exact afin_of [0] rfl rfl (by simp [St.conv, St.bf, getE, putE, getB, cv, cvL, cvB, idx, still, pack, lifts, liftOne, liftC, liftK, killB, cellsOfB, setB]; omega) (by simp [St.conv, St.bf, getE, putE, getB, cv, cvL, cvB, idx, still, pack, lifts, liftOne, liftC, liftK, killB, cellsOfB, setB])
  obtain ⟨j, rfl⟩ : ∃ j, k = j + 1 := ⟨k - 1, by omega⟩
  have e0 : (((j + 1 : Nat) : Int) - 1).toNat = j := by omega
  simp only [e0]
  refine ⟨fun _ => ⟨by omega, by omega, fun hlt => ⟨by omega, klp_of j (by simp [St.conv, St.bf, getE, putE, getB, cv, cvL, cvB, idx, still, pack, lifts, liftOne, liftC, liftK, killB, cellsOfB, setB]) ⟨by omega, by rw [← posF_t hlt]; exact h2⟩ (by omega)⟩, fun hge => ⟨fun _ => ⟨by omega, by omega, fun he => ?_, fun he => ?_⟩, fun h => absurd h (by omega)⟩⟩, fun h => absurd h (by omega)⟩
  · rw [posF_f hge] at h2
    have : hasP xs x = true := by simp only [hasP, ← h2]; simpa using he
    rw [hc] at this; exact absurd this (by decide)
  · rw [posF_f hge] at h2
    refine ⟨by omega, by simp only [List.length_take]; omega, by simp only [List.length_take]; omega, by omega, ⟨by simp, by simp only [List.length_take, List.length_drop]; omega⟩, ?_, ?_⟩
    · (repeat' apply And.intro) <;> (show ordB _ _ _ = true; kernel_rfl)
    · rw [putL_f hc, ← h2]
      exact afin_of [0] rfl rfl (by simp [St.conv, St.bf, getE, putE, getB, cv, cvL, cvB, idx, still, pack, lifts, liftOne, liftC, liftK, killB, cellsOfB, setB]; omega) (by simp [St.conv, St.bf, getE, putE, getB, cv, cvL, cvB, idx, still, pack, lifts, liftOne, liftC, liftK, killB, cellsOfB, setB])
def lend_spec_l15Put : List Nat := []
def sp_spec_l15Put : List AV → List Bx → (AV → List Bx → Prop) → Prop
  | [.sl none (.ints .i64 xs), .int .i64 x], [], K => (xs.length ≤ 1099511627000) ∧ (hasP xs x = true → K (.prm 0 (.ints .i64 xs)) []) ∧ (hasP xs x = false → K (.ref 0 (putL xs x).length) [.row 3 (.ints .i64 (putL xs x))])
  | _, _, _ => False
theorem at_spec_l15Put {xs : List Int} {x : Int} {K : AV → List Bx → Prop} : sp_spec_l15Put [.sl none (.ints .i64 xs), .int .i64 x] [] K = ((xs.length ≤ 1099511627000) ∧ (hasP xs x = true → K (.prm 0 (.ints .i64 xs)) []) ∧ (hasP xs x = false → K (.ref 0 (putL xs x).length) [.row 3 (.ints .i64 (putL xs x))])) := id rfl
theorem ok_spec_l15Put : ∀ args giv K, sp_spec_l15Put args giv K → ∃ r outs, ARuns Tryz.prog 59 args giv r outs ∧ K r outs := by
  intro args giv K hk
  unfold sp_spec_l15Put at hk
  split at hk
  · obtain ⟨hp1, hk1, hk2⟩ := hk
    exact pk_bool (fun hc => ⟨_, _, runs_spec_l15Put_1 _ _ hp1 hc, hk1 hc⟩) (fun hc => ⟨_, _, runs_spec_l15Put_2 _ _ hp1 hc, hk2 hc⟩)
  · exact hk.elim
theorem is_spec_l15Draw : FnIs Tryz.prog 72 28 [ResultVar.cell 4 26] (Tryz.f72.body.getD .skip) := ⟨⟨Tryz.f72, by kernel_rfl, by kernel_rfl, by kernel_rfl, by kernel_rfl⟩, by kernel_rfl, by kernel_rfl⟩
def G_spec_l15Draw : Gm := ((Gm.none.add 57 lend_spec_l1Below sp_spec_l1Below).add 59 lend_spec_l15Put sp_spec_l15Put)
theorem G_spec_l15Draw_ok : G_spec_l15Draw.ok Tryz.prog := (Gm.add_ok (Gm.add_ok Gm.none_ok ok_spec_l1Below) ok_spec_l15Put)
theorem gm_spec_l15Draw {r : List Oper} {n : Nat} : splB G_spec_l15Draw r n = true := rfl
theorem gs_spec_l15Draw_57 : G_spec_l15Draw.sp 57 = sp_spec_l1Below ∧ G_spec_l15Draw.lend 57 = lend_spec_l1Below := ⟨rfl, rfl⟩
theorem gs_spec_l15Draw_59 : G_spec_l15Draw.sp 59 = sp_spec_l15Put ∧ G_spec_l15Draw.lend 59 = lend_spec_l15Put := ⟨rfl, rfl⟩
set_option maxHeartbeats 1000000 in
set_option maxRecDepth 100000 in
theorem runs_spec_l15Draw (bs : List Int) (i h most : Int) (hp1 : OkBs bs) (hp2 : 0 ≤ i) (hp3 : 0 ≤ most ∧ most ≤ 6) : ARuns Tryz.prog 72 [.ptr 0 0, .int .i64 most] [.box [.sl none (.ints .u8 bs), .int .i64 i, .int .i64 h]] (.agg [.int .i64 (drN bs (i, h) most), .ref 1 (drL bs (i, h) most).length]) [.box [.prm 2 (.ints .u8 bs), .int .i64 (drC bs (i, h) most).1, .int .i64 (drC bs (i, h) most).2], .row 3 (.ints .i64 (drL bs (i, h) most))] := by
  refine ARuns_bc G_spec_l15Draw_ok is_spec_l15Draw (by simp) fun hl hlB => ?_
  simp only [kcode_at, kreg_at, bc_seq, bc_block, bc_region, entryE, inPrm, entryB, inPrms, bxCells, Option.getD_some, acall_clo, selOf, selA, inArgs, inA, inL, okA, okL, okBx, outA, outL, outU, outB, deep, deepL, boxIds, AV.bid, List.map_nil, List.map_cons, List.all_nil, List.all_cons, BEq.rfl, Bool.and_true, List.append_nil, aops_nil, aops_plain, kont_at, aop_move, aop_assign, aop_alloc, aop_buildSlice, aop_binOp, SC0, aop_call, evalE, getE, putE, getB, setB, St.put, setsB, AV.ofV, AV.bid, SC.len, List.length_nil, List.length_cons, Nat.reduceEqDiff, Nat.reduceAdd, ↓reduceIte, true_and, and_true, List.nil_append, List.cons_append, aAlloc_flat, aInt_add, aBin_add, aBuildL_some, aBuildS_some, isW_addc, Int.reduceLT, aBinW_dF, rng0, mp_one0, kcall_one, liveB_box, idx, still, dies, lend, lendA, lendDies, snocs, List.getD_cons_zero, List.getD_cons_succ, Nat.le_refl, Nat.reduceLT, Nat.reduceLeDiff, List.flatMap_nil, List.flatMap_cons, Nat.zero_add, BEq.rfl, sl3, un3, sl24, sl51, ty26, inR64, gs_spec_l15Draw_57, at_spec_l1Below, lend_spec_l1Below, cu_eta, Tryz.f72]
  have hk := @drK_le bs (i, h) most
  have hn := @belowV_bd bs (i, h) (most + 1) (by omega)
  have hc := @belowC_nn bs (belowC bs (i, h) (most + 1)) 7 (belowC_nn hp2)
  refine ⟨by omega, hp1, hp2, hp1, belowC_nn hp2, ?_⟩
  have hK : drA bs (i, h) most = drF bs (drN bs (i, h) most) (drK bs (i, h) most) (belowC bs (belowC bs (i, h) (most + 1)) 7) [] := rfl
  have hKv : belowV bs (belowC bs (i, h) (most + 1)) 7 = (drK bs (i, h) most : Int) := by
    have := @belowV_bd bs (belowC bs (i, h) (most + 1)) 7 (by omega)
    unfold drK; omega
  have hLl : drL bs (i, h) most = (drA bs (i, h) most).1 := rfl
  have hCc : drC bs (i, h) most = (drA bs (i, h) most).2 := rfl
  rw [hKv, hLl, hCc]
  have hN : belowV bs (i, h) (most + 1) = drN bs (i, h) most := rfl
  rw [hN] at hn ⊢
  generalize drA bs (i, h) most = D at *
  generalize drN bs (i, h) most = n at *
  generalize drK bs (i, h) most = K at *
  generalize belowC bs (belowC bs (i, h) (most + 1)) 7 = c0 at *
  have hpow := pow_le62 (e := n) (by omega)
  refine bc_loop (fun p : Nat × Cu × List Int => D = drF bs n p.1 p.2.1 p.2.2 ∧ 0 ≤ p.2.1.1 ∧ p.2.2.length + p.1 ≤ 6)
    (fun p => ⟨[(0, .ptr 0 0), (4, .ptr 1 0), (5, .int .i64 n), (6, .ref 2 p.2.2.length), (7, .int .i64 p.1)],
      [.box [.prm 2 (.ints .u8 bs), .int .i64 p.2.1.1, .int .i64 p.2.1.2], .box [.int .i64 0, .nil], .row 3 (.ints .i64 p.2.2)]⟩) (fun p => p.1)
    [0, 4, 5, 6, 7] [0, 1, 2] (K, c0, []) rfl (by simp [St.conv, St.bf, getE, putE, getB, cv, cvL, cvB, idx, still, pack, lifts, liftOne, liftC, liftK, killB, cellsOfB, setB]) (by refine ⟨hK, hc, by simp; omega⟩) fun ⟨k, c, l⟩ ⟨h1, h2, h3⟩ => ?_
  simp only at h1 h2 h3
  simp only [kcode_at, kreg_at, bc_skip, bc_seq, bc_cond, bc_block, bc_exit, bc_ret, bc_region, lkX_cons, acond_tmp, aCase_b, bxCells, acall_clo, kcall_nil, selOf, selA, inArgs, inA, inL, okA, okL, okBx, okC, outA, outL, outU, outB, deep, deepL, boxIds, List.map_nil, List.map_cons, List.all_nil, List.all_cons, BEq.rfl, Bool.and_true, List.append_nil, aops_nil, aops_plain, kont_at, aop_move, aop_assign, aop_build, aop_store, aop_binOp, SC0, aop_call, evalE, getE, putE, getB, setB, St.put, setsB, AV.ofV, AV.blk, AV.one, SC.len, List.length_nil, List.length_cons, Nat.reduceEqDiff, Nat.reduceAdd, ↓reduceIte, true_and, and_true, decide_eq_true_eq, decide_eq_false_iff_not, List.nil_append, List.cons_append, aBuild_flat, aInt_sub, aBin_sub, aInt_gtr, aBin_gtr, aBin_shl, aShift_shl, aStore_f, aBinW_f, isW_tmp, isW_sub, isW_gtr, mp_nil, mp_one0, kcall_one, liveB_box, idx, cont, dies, lend, lendA, lendDies, fillA, List.getD_cons_zero, List.getD_cons_succ, List.set_cons_zero, List.set_cons_succ, Nat.le_refl, Nat.reduceLT, List.flatMap_nil, List.flatMap_cons, Nat.zero_add, BEq.rfl, sl3, un3, sl24, sl51, ty26, inR64, gs_spec_l15Draw_57, at_spec_l1Below, lend_spec_l1Below, gs_spec_l15Draw_59, at_spec_l15Put, lend_spec_l15Put, cu_eta]
  simp only [IntKind.bits]
  refine ⟨fun hlt => ?_, fun hge => ?_⟩
  · obtain ⟨m, rfl⟩ : ∃ m, k = m + 1 := ⟨k - 1, by omega⟩
    have hpl := putL_len (xs := l) (x := belowV bs c (1 * 2 ^ n.toNat))
    have hc2 := @belowC_nn bs c (1 * 2 ^ n.toNat) h2
    rw [drF_succ] at h1
    refine ⟨by omega, hp1, h2, by omega, fun hh => ⟨by omega, klp_of (m, belowC bs c (1 * 2 ^ n.toNat), putL l (belowV bs c (1 * 2 ^ n.toNat))) ?_ ⟨h1, hc2, by (simp only; omega)⟩ (by simp)⟩, fun hh => ⟨by omega, klp_ofK [0, 1, 3] rfl (m, belowC bs c (1 * 2 ^ n.toNat), putL l (belowV bs c (1 * 2 ^ n.toNat))) ?_ ⟨h1, hc2, by (simp only; omega)⟩ (by simp)⟩⟩
    · rw [putL_t hh]; simp [St.conv, St.bf, getE, putE, getB, cv, cvL, cvB, idx, still, pack, lifts, liftOne, liftC, liftK, killB, cellsOfB, setB]
    · simp [St.conv, St.bf, getE, putE, getB, cv, cvL, cvB, idx, still, pack, lifts, liftOne, liftC, liftK, killB, cellsOfB, setB]
  · have : k = 0 := by omega
    subst this
    rw [h1]
    simp only [drF]
    exact ⟨rfl, afin_of [0, 2] rfl (by simp only [resL, resV, resC, getE, putE, getB, setB, lifts, liftOne, liftC, liftK, killB, cellsOfB, List.length_cons, List.length_nil, List.nil_append, List.cons_append, Nat.reduceAdd, Nat.reduceEqDiff, ↓reduceIte, ty3, ty67, ty120, ty118, ty5, ty2, ty21, ty4, ty9, ty24, ty22, ty53, ty26, ty81]; rfl) (by simp [St.conv, St.bf, getE, putE, getB, cv, cvL, cvB, idx, still, pack, lifts, liftOne, liftC, liftK, killB, cellsOfB, setB]) (by simp [St.conv, St.bf, getE, putE, getB, cv, cvL, cvB, idx, still, pack, lifts, liftOne, liftC, liftK, killB, cellsOfB, setB])⟩
def lend_spec_l15Draw : List Nat := [0]
def sp_spec_l15Draw : List AV → List Bx → (AV → List Bx → Prop) → Prop
  | [.ptr 0 0, .int .i64 most], [.box [.sl none (.ints .u8 bs), .int .i64 i, .int .i64 h]], K => (OkBs bs) ∧ (0 ≤ i) ∧ (0 ≤ most ∧ most ≤ 6) ∧ K (.agg [.int .i64 (drN bs (i, h) most), .ref 1 (drL bs (i, h) most).length]) [.box [.prm 2 (.ints .u8 bs), .int .i64 (drC bs (i, h) most).1, .int .i64 (drC bs (i, h) most).2], .row 3 (.ints .i64 (drL bs (i, h) most))]
  | _, _, _ => False
theorem at_spec_l15Draw {bs : List Int} {i h most : Int} {K : AV → List Bx → Prop} : sp_spec_l15Draw [.ptr 0 0, .int .i64 most] [.box [.sl none (.ints .u8 bs), .int .i64 i, .int .i64 h]] K = ((OkBs bs) ∧ (0 ≤ i) ∧ (0 ≤ most ∧ most ≤ 6) ∧ K (.agg [.int .i64 (drN bs (i, h) most), .ref 1 (drL bs (i, h) most).length]) [.box [.prm 2 (.ints .u8 bs), .int .i64 (drC bs (i, h) most).1, .int .i64 (drC bs (i, h) most).2], .row 3 (.ints .i64 (drL bs (i, h) most))]) := id rfl
theorem ok_spec_l15Draw : ∀ args giv K, sp_spec_l15Draw args giv K → ∃ r outs, ARuns Tryz.prog 72 args giv r outs ∧ K r outs := by
  intro args giv K hk
  unfold sp_spec_l15Draw at hk
  split at hk
  · obtain ⟨hp1, hp2, hp3, hk⟩ := hk; exact ⟨_, _, runs_spec_l15Draw _ _ _ _ hp1 hp2 hp3, hk⟩
  · exact hk.elim
theorem is_spec_l15Any : FnIs Tryz.prog 36 25 [ResultVar.cell 2 26] (Tryz.f36.body.getD .skip) := ⟨⟨Tryz.f36, by kernel_rfl, by kernel_rfl, by kernel_rfl, by kernel_rfl⟩, by kernel_rfl, by kernel_rfl⟩
def G_spec_l15Any : Gm := (((Gm.none.add 56 lend_spec_l1PickInt sp_spec_l1PickInt).add 57 lend_spec_l1Below sp_spec_l1Below).add 72 lend_spec_l15Draw sp_spec_l15Draw)
theorem G_spec_l15Any_ok : G_spec_l15Any.ok Tryz.prog := (Gm.add_ok (Gm.add_ok (Gm.add_ok Gm.none_ok ok_spec_l1PickInt) ok_spec_l1Below) ok_spec_l15Draw)
theorem gm_spec_l15Any {r : List Oper} {n : Nat} : splB G_spec_l15Any r n = true := rfl
theorem gs_spec_l15Any_56 : G_spec_l15Any.sp 56 = sp_spec_l1PickInt ∧ G_spec_l15Any.lend 56 = lend_spec_l1PickInt := ⟨rfl, rfl⟩
theorem gs_spec_l15Any_57 : G_spec_l15Any.sp 57 = sp_spec_l1Below ∧ G_spec_l15Any.lend 57 = lend_spec_l1Below := ⟨rfl, rfl⟩
theorem gs_spec_l15Any_72 : G_spec_l15Any.sp 72 = sp_spec_l15Draw ∧ G_spec_l15Any.lend 72 = lend_spec_l15Draw := ⟨rfl, rfl⟩
set_option maxHeartbeats 1000000 in
set_option maxRecDepth 100000 in
theorem runs_spec_l15Any (bs : List Int) (i h : Int) (hp1 : OkBs bs) (hp2 : 0 ≤ i) : ARuns Tryz.prog 36 [.ptr 0 0] [.box [.sl none (.ints .u8 bs), .int .i64 i, .int .i64 h]] (.agg [.int .i64 (anyN bs (i, h)), .ref 1 (anyL bs (i, h)).length]) [.box [.prm 1 (.ints .u8 bs), .int .i64 (anyC bs (i, h)).1, .int .i64 (anyC bs (i, h)).2], .row 3 (.ints .i64 (anyL bs (i, h)))] := by
  refine ARuns_bc G_spec_l15Any_ok is_spec_l15Any (by simp) fun hl hlB => ?_
  simp only [kcode_at, kreg_at, bc_skip, bc_seq, bc_cond, bc_block, bc_ret, bc_region, acond_tmp, aCase_b, entryE, inPrm, entryB, inPrms, bxCells, Option.getD_some, acall_clo, selOf, selA, inArgs, inA, inL, okA, okL, okBx, okC, outA, outL, outU, outB, deep, deepL, boxIds, AV.bid, List.map_nil, List.map_cons, List.all_nil, List.all_cons, BEq.rfl, Bool.and_true, List.append_nil, aops_nil, aops_plain, kont_at, aop_move, aop_assign, aop_alloc, aop_buildSlice, aop_load, aop_store, aop_binOp, aop_fieldAddr, slTy2, SC0, aop_append, aop_call, evalE, getE, putE, getB, setB, St.put, setsB, AV.ofV, AV.blk, AV.bid, AV.one, SC.len, List.length_nil, List.length_cons, Nat.reduceEqDiff, Nat.reduceAdd, ↓reduceIte, true_and, and_true, decide_eq_true_eq, decide_eq_false_iff_not, List.nil_append, List.cons_append, aAlloc_flat, aInt_eql, aBin_eql, aField_ptr, aBuildL_some, aBuildS_some, aLoad_1b, aLoad_fb, aStore_1, aStore_f, aApp_some, aAppend_ref, aBinW_f, isW_eql, bc_draw, kregD_at, aopsD_nil, aopsD_plain, kontD_at, splW_t, contD_at, splD_undef, splD_int, splD_ref, splD_ptr, addTr_nil, addTr_cons, memQ_nil, memQ_cons, clash_nil, clash_cons, regC_none, regC_nil, regC_cons, regR_nil, regR_cons, rng1, mp_one0, mp_one1, kcall_one, liveB_box, idx, cont, still, dies, lend, lendA, lendDies, snocs, SC.snoc, SC.app, List.getD_cons_zero, List.getD_cons_succ, List.set_cons_zero, List.set_cons_succ, Nat.le_refl, Nat.reduceLT, Nat.reduceLeDiff, Option.map_none, List.flatMap_nil, List.flatMap_cons, Nat.zero_add, BEq.rfl, sl3, ty3, un3, sl24, ty24, sl51, ty26, gm_spec_l15Any, gs_spec_l15Any_56, at_spec_l1PickInt, lend_spec_l1PickInt, gs_spec_l15Any_57, at_spec_l1Below, lend_spec_l1Below, gs_spec_l15Any_72, at_spec_l15Draw, lend_spec_l15Draw, cu_eta, Tryz.f36]
  have hd := @drC_nn bs (i, h) 5 hp2
  have hk : anyK bs (i, h) = belowV bs (drC bs (i, h) 5) 14 := rfl
  have hD : anyD bs (i, h) = belowC bs (drC bs (i, h) 5) 14 := rfl
  have hdd : 0 ≤ (anyD bs (i, h)).1 := belowC_nn hd
  rw [← hk, ← hD]
  have hl6 := @drL_len bs (i, h) 5
  refine ⟨hp1, hp2, by omega, hp1, hd, fun h0 => ?_, fun h0 => ⟨fun h1 => ?_, fun h1 => ?_⟩⟩
  · obtain ⟨e1, e2, e3⟩ := any_0 h0
    rw [e1, e2, e3]
    exact ⟨rfl, hp1, hdd, afin_of [0, 2] rfl (by simp only [resL, resV, resC, getE, putE, getB, setB, lifts, liftOne, liftC, liftK, killB, cellsOfB, List.length_cons, List.length_nil, List.nil_append, List.cons_append, Nat.reduceAdd, Nat.reduceEqDiff, ↓reduceIte, ty3, ty67, ty120, ty118, ty5, ty2, ty21, ty4, ty9, ty24, ty22, ty53, ty26, ty81]; rfl) (by simp [St.conv, St.bf, getE, putE, getB, cv, cvL, cvB, idx, still, pack, lifts, liftOne, liftC, liftK, killB, cellsOfB, setB] <;> first | rfl | exact ⟨rfl, rfl⟩ | exact ⟨⟨rfl, rfl⟩, rfl⟩ | exact ⟨rfl, rfl, rfl⟩) (by simp [St.conv, St.bf, getE, putE, getB, cv, cvL, cvB, idx, still, pack, lifts, liftOne, liftC, liftK, killB, cellsOfB, setB] <;> first | rfl | exact ⟨rfl, rfl⟩ | exact ⟨⟨rfl, rfl⟩, rfl⟩ | exact ⟨rfl, rfl, rfl⟩)⟩
  · obtain ⟨e1, e2, e3⟩ := any_1 h1
    rw [e1, e2, e3]
    exact ⟨rfl, hp1, hdd, by omega, (by (repeat' apply And.intro) <;> (show ordB _ _ _ = true; kernel_rfl)), afin_of [0, 2] rfl (by simp only [resL, resV, resC, getE, putE, getB, setB, lifts, liftOne, liftC, liftK, killB, cellsOfB, List.length_cons, List.length_nil, List.nil_append, List.cons_append, Nat.reduceAdd, Nat.reduceEqDiff, ↓reduceIte, ty3, ty67, ty120, ty118, ty5, ty2, ty21, ty4, ty9, ty24, ty22, ty53, ty26, ty81]; rfl) (by simp [St.conv, St.bf, getE, putE, getB, cv, cvL, cvB, idx, still, pack, lifts, liftOne, liftC, liftK, killB, cellsOfB, setB]) (by simp [St.conv, St.bf, getE, putE, getB, cv, cvL, cvB, idx, still, pack, lifts, liftOne, liftC, liftK, killB, cellsOfB, setB] <;> first | rfl | exact ⟨rfl, rfl⟩ | exact ⟨⟨rfl, rfl⟩, rfl⟩ | exact ⟨rfl, rfl, rfl⟩)⟩
  · obtain ⟨e1, e2, e3⟩ := any_2 h0 h1
    rw [e1, e2, e3]
    exact afin_of [0, 2] rfl (by simp only [resL, resV, resC, getE, putE, getB, setB, lifts, liftOne, liftC, liftK, killB, cellsOfB, List.length_cons, List.length_nil, List.nil_append, List.cons_append, Nat.reduceAdd, Nat.reduceEqDiff, ↓reduceIte, ty3, ty67, ty120, ty118, ty5, ty2, ty21, ty4, ty9, ty24, ty22, ty53, ty26, ty81]; rfl) (by simp [St.conv, St.bf, getE, putE, getB, cv, cvL, cvB, idx, still, pack, lifts, liftOne, liftC, liftK, killB, cellsOfB, setB]) (by simp [St.conv, St.bf, getE, putE, getB, cv, cvL, cvB, idx, still, pack, lifts, liftOne, liftC, liftK, killB, cellsOfB, setB])
def lend_spec_l15Any : List Nat := [0]
def sp_spec_l15Any : List AV → List Bx → (AV → List Bx → Prop) → Prop
  | [.ptr 0 0], [.box [.sl none (.ints .u8 bs), .int .i64 i, .int .i64 h]], K => (OkBs bs) ∧ (0 ≤ i) ∧ K (.agg [.int .i64 (anyN bs (i, h)), .ref 1 (anyL bs (i, h)).length]) [.box [.prm 1 (.ints .u8 bs), .int .i64 (anyC bs (i, h)).1, .int .i64 (anyC bs (i, h)).2], .row 3 (.ints .i64 (anyL bs (i, h)))]
  | _, _, _ => False
theorem at_spec_l15Any {bs : List Int} {i h : Int} {K : AV → List Bx → Prop} : sp_spec_l15Any [.ptr 0 0] [.box [.sl none (.ints .u8 bs), .int .i64 i, .int .i64 h]] K = ((OkBs bs) ∧ (0 ≤ i) ∧ K (.agg [.int .i64 (anyN bs (i, h)), .ref 1 (anyL bs (i, h)).length]) [.box [.prm 1 (.ints .u8 bs), .int .i64 (anyC bs (i, h)).1, .int .i64 (anyC bs (i, h)).2], .row 3 (.ints .i64 (anyL bs (i, h)))]) := id rfl
theorem ok_spec_l15Any : ∀ args giv K, sp_spec_l15Any args giv K → ∃ r outs, ARuns Tryz.prog 36 args giv r outs ∧ K r outs := by
  intro args giv K hk
  unfold sp_spec_l15Any at hk
  split at hk
  · obtain ⟨hp1, hp2, hk⟩ := hk; exact ⟨_, _, runs_spec_l15Any _ _ _ hp1 hp2, hk⟩
  · exact hk.elim
theorem is_spec_l1New : FnIs Tryz.prog 37 32 [.tmp 2] (Tryz.f37.body.getD .skip) := ⟨⟨Tryz.f37, by kernel_rfl, by kernel_rfl, by kernel_rfl, by kernel_rfl⟩, by kernel_rfl, by kernel_rfl⟩
def G_spec_l1New : Gm := Gm.none
theorem G_spec_l1New_ok : G_spec_l1New.ok Tryz.prog := Gm.none_ok
theorem gm_spec_l1New {r : List Oper} {n : Nat} : splB G_spec_l1New r n = true := rfl
set_option maxHeartbeats 1000000 in
set_option maxRecDepth 100000 in
theorem runs_spec_l1New (bs : List Int) (hp1 : OkBs bs) : ARuns Tryz.prog 37 [.sl none (.ints .u8 bs)] [] (.ptr 0 0) [.box [.prm 0 (.ints .u8 bs), .int .i64 (newC bs).1, .int .i64 (newC bs).2]] := by
  refine ARuns_bc G_spec_l1New_ok is_spec_l1New (by simp) fun hl hlB => ?_
  simp only [kcode_at, kreg_at, bc_seq, bc_block, bc_region, entryE, inPrm, entryB, Option.getD_some, aops_nil, aops_plain, kont_at, aop_move, aop_assign, aop_binOp, aop_len, evalE, getE, putE, getB, St.put, setsB, AV.ofV, SC.len, List.length_nil, Nat.reduceEqDiff, ↓reduceIte, true_and, List.nil_append, List.cons_append, aInt_add, aBin_add, aLen_prm, aBinW_f, isW_tmp, un3, un22, inR64, Tryz.f37]
  obtain ⟨hp2, hp1⟩ := hp1
  refine ⟨by omega, ?_⟩
  refine bc_loop (fun i : Nat => i ≤ bs.length ∧ i ≤ 4000)
    (fun i => ⟨[(0, .prm 0 (.ints .u8 bs)), (3, .int .i64 (newF bs i)), (4, .int .i64 i)], []⟩) (fun i => bs.length - i)
    [0, 3, 4] [] 0 rfl (by simp [St.conv, St.bf, getE, putE, getB, cv, cvL, cvB, idx, still, pack, lifts, liftOne, liftC, liftK, killB, cellsOfB, setB]; rfl) (by omega) fun i ⟨h1, h2⟩ => ?_
  simp only [kcode_at, kreg_at, bc_skip, bc_seq, bc_cond, bc_block, bc_exit, bc_ret, bc_region, lkX_cons, acond_tmp, aCase_f, aCase_b, AV.bid, List.map_nil, List.map_cons, List.all_nil, List.all_cons, Bool.and_true, aops_nil, aops_plain, aops_guard, kont_at, yes_at, no_at, aop_move, aop_assign, aop_pick, aop_box, aop_build, aop_load, aop_binOp, aop_convert, aop_indexAddr, aop_len, evalE, getE, putE, getB, setB, St.put, setsB, nth, AV.ofV, AV.bid, AV.one, SC.len, SC.get, List.length_nil, List.length_cons, Nat.reduceEqDiff, Nat.reduceAdd, ↓reduceIte, true_and, decide_eq_true_eq, decide_eq_false_iff_not, Option.isSome, List.nil_append, List.cons_append, aGuardO_some, aGuard_tt, aGuard_tf, aGuard_tb, aPick_t, aPick_f, aBox_some, aBuild_flat, aInt_add, aBin_add, aInt_mul, aBin_mul, aInt_and, aBin_and, aInt_lss, aBin_lss, aConv_int, aIdx_prm, aLen_prm, aLoad_ep, aBinW_f, isW_tmp, isW_mulc, isW_addc, isW_and, isW_lss, Int.reduceLT, aBinW_dF, cont, AV.cells, fillA, List.set_cons_zero, List.set_cons_succ, Nat.reduceLT, Nat.zero_add, aConvS_int, un3, sl5, ty5, un5, sl22, un22, ty81, inR64, Int.toNat_natCast]
  have hb := newF_bd (bs := bs) (i := i)
  refine ⟨fun hlt => ⟨fun h4 => ?_, fun h4 => ?_⟩, fun hge => ?_⟩
  · have hz := hp1 i (by omega)
    refine ⟨by omega, by omega, by omega, by omega, by omega, by omega, klp_of (i + 1) (by simp [St.conv, St.bf, getE, putE, getB, cv, cvL, cvB, idx, still, pack, lifts, liftOne, liftC, liftK, killB, cellsOfB, setB]; rfl) (by omega) (by omega)⟩
  · have e : min bs.length 4000 = i := by omega
    rw [newC, e]
    exact ⟨rfl, afin_of [0] rfl rfl (by simp [St.conv, St.bf, getE, putE, getB, cv, cvL, cvB, idx, still, pack, lifts, liftOne, liftC, liftK, killB, cellsOfB, setB]) (by simp [St.conv, St.bf, getE, putE, getB, cv, cvL, cvB, idx, still, pack, lifts, liftOne, liftC, liftK, killB, cellsOfB, setB])⟩
  · have e : min bs.length 4000 = i := by omega
    rw [newC, e]
    exact ⟨rfl, afin_of [0] rfl rfl (by simp [St.conv, St.bf, getE, putE, getB, cv, cvL, cvB, idx, still, pack, lifts, liftOne, liftC, liftK, killB, cellsOfB, setB]) (by simp [St.conv, St.bf, getE, putE, getB, cv, cvL, cvB, idx, still, pack, lifts, liftOne, liftC, liftK, killB, cellsOfB, setB])⟩
def lend_spec_l1New : List Nat := []
def sp_spec_l1New : List AV → List Bx → (AV → List Bx → Prop) → Prop
  | [.sl none (.ints .u8 bs)], [], K => (OkBs bs) ∧ K (.ptr 0 0) [.box [.prm 0 (.ints .u8 bs), .int .i64 (newC bs).1, .int .i64 (newC bs).2]]
  | _, _, _ => False
theorem at_spec_l1New {bs : List Int} {K : AV → List Bx → Prop} : sp_spec_l1New [.sl none (.ints .u8 bs)] [] K = ((OkBs bs) ∧ K (.ptr 0 0) [.box [.prm 0 (.ints .u8 bs), .int .i64 (newC bs).1, .int .i64 (newC bs).2]]) := id rfl
theorem ok_spec_l1New : ∀ args giv K, sp_spec_l1New args giv K → ∃ r outs, ARuns Tryz.prog 37 args giv r outs ∧ K r outs := by
  intro args giv K hk
  unfold sp_spec_l1New at hk
  split at hk
  · obtain ⟨hp1, hk⟩ := hk; exact ⟨_, _, runs_spec_l1New _ hp1, hk⟩
  · exact hk.elim
theorem is_spec_DrawFormatFamily : FnIs Tryz.prog 5 6 [ResultVar.cell 2 26] (Tryz.f5.body.getD .skip) := ⟨⟨Tryz.f5, by kernel_rfl, by kernel_rfl, by kernel_rfl, by kernel_rfl⟩, by kernel_rfl, by kernel_rfl⟩
def G_spec_DrawFormatFamily : Gm := ((Gm.none.add 36 lend_spec_l15Any sp_spec_l15Any).add 37 lend_spec_l1New sp_spec_l1New)
theorem G_spec_DrawFormatFamily_ok : G_spec_DrawFormatFamily.ok Tryz.prog := (Gm.add_ok (Gm.add_ok Gm.none_ok ok_spec_l15Any) ok_spec_l1New)
theorem gm_spec_DrawFormatFamily {r : List Oper} {n : Nat} : splB G_spec_DrawFormatFamily r n = true := rfl
theorem gs_spec_DrawFormatFamily_36 : G_spec_DrawFormatFamily.sp 36 = sp_spec_l15Any ∧ G_spec_DrawFormatFamily.lend 36 = lend_spec_l15Any := ⟨rfl, rfl⟩
theorem gs_spec_DrawFormatFamily_37 : G_spec_DrawFormatFamily.sp 37 = sp_spec_l1New ∧ G_spec_DrawFormatFamily.lend 37 = lend_spec_l1New := ⟨rfl, rfl⟩
set_option maxHeartbeats 1000000 in
set_option maxRecDepth 100000 in
theorem runs_spec_DrawFormatFamily (bs : List Int) (hp1 : OkBs bs) : ARuns Tryz.prog 5 [.sl none (.ints .u8 bs)] [] (.agg [.int .i64 (anyN bs (newC bs)), .ref 0 (anyL bs (newC bs)).length]) [.row 3 (.ints .i64 (anyL bs (newC bs)))] := by
  refine ARuns_bc G_spec_DrawFormatFamily_ok is_spec_DrawFormatFamily (by simp) fun hl hlB => ?_
  simp only [kcode_at, kreg_at, bc_seq, bc_ret, bc_region, entryE, inPrm, entryB, bxCells, Option.getD_some, acall_clo, kcall_nil, selOf, selA, inArgs, inA, inL, okA, okL, okBx, okC, outA, outL, outU, outB, deep, deepL, boxIds, List.map_nil, List.map_cons, List.all_nil, List.all_cons, BEq.rfl, Bool.and_true, List.append_nil, aops_nil, aops_plain, kont_at, aop_move, aop_alloc, aop_store, SC0, aop_call, evalE, getE, putE, getB, setB, St.put, setsB, AV.blk, AV.one, SC.len, List.length_nil, List.length_cons, Nat.reduceEqDiff, Nat.reduceAdd, ↓reduceIte, true_and, and_true, List.nil_append, List.cons_append, aAlloc_flat, aStore_f, mp_nil, mp_one0, mp_one1, kcall_one, liveB_box, idx, dies, lend, lendA, lendDies, List.getD_cons_zero, List.getD_cons_succ, Nat.reduceLT, Nat.reduceLeDiff, List.flatMap_nil, List.flatMap_cons, Nat.zero_add, BEq.rfl, sl22, sl51, ty26, gs_spec_DrawFormatFamily_36, at_spec_l15Any, lend_spec_l15Any, gs_spec_DrawFormatFamily_37, at_spec_l1New, lend_spec_l1New, cu_eta, Tryz.f5]
  exact ⟨hp1, hp1, newC_nn, afin_of [2] rfl (by simp only [resL, resV, resC, getE, putE, getB, setB, lifts, liftOne, liftC, liftK, killB, cellsOfB, List.length_cons, List.length_nil, List.nil_append, List.cons_append, Nat.reduceAdd, Nat.reduceEqDiff, ↓reduceIte, ty3, ty67, ty120, ty118, ty5, ty2, ty21, ty4, ty9, ty24, ty22, ty53, ty26, ty81]; rfl) (by simp [St.conv, St.bf, getE, putE, getB, cv, cvL, cvB, idx, still, pack, lifts, liftOne, liftC, liftK, killB, cellsOfB, setB]) (by simp [St.conv, St.bf, getE, putE, getB, cv, cvL, cvB, idx, still, pack, lifts, liftOne, liftC, liftK, killB, cellsOfB, setB])⟩
def lend_spec_DrawFormatFamily : List Nat := []
def sp_spec_DrawFormatFamily : List AV → List Bx → (AV → List Bx → Prop) → Prop
  | [.sl none (.ints .u8 bs)], [], K => (OkBs bs) ∧ K (.agg [.int .i64 (anyN bs (newC bs)), .ref 0 (anyL bs (newC bs)).length]) [.row 3 (.ints .i64 (anyL bs (newC bs)))]
  | _, _, _ => False
theorem at_spec_DrawFormatFamily {bs : List Int} {K : AV → List Bx → Prop} : sp_spec_DrawFormatFamily [.sl none (.ints .u8 bs)] [] K = ((OkBs bs) ∧ K (.agg [.int .i64 (anyN bs (newC bs)), .ref 0 (anyL bs (newC bs)).length]) [.row 3 (.ints .i64 (anyL bs (newC bs)))]) := id rfl
theorem ok_spec_DrawFormatFamily : ∀ args giv K, sp_spec_DrawFormatFamily args giv K → ∃ r outs, ARuns Tryz.prog 5 args giv r outs ∧ K r outs := by
  intro args giv K hk
  unfold sp_spec_DrawFormatFamily at hk
  split at hk
  · obtain ⟨hp1, hk⟩ := hk; exact ⟨_, _, runs_spec_DrawFormatFamily _ hp1, hk⟩
  · exact hk.elim
theorem is_impl_within : FnIs Tryz.prog 39 15 [.tmp 6] (Tryz.f39.body.getD .skip) := ⟨⟨Tryz.f39, by kernel_rfl, by kernel_rfl, by kernel_rfl, by kernel_rfl⟩, by kernel_rfl, by kernel_rfl⟩
def G_impl_within : Gm := Gm.none
theorem G_impl_within_ok : G_impl_within.ok Tryz.prog := Gm.none_ok
theorem gm_impl_within {r : List Oper} {n : Nat} : splB G_impl_within r n = true := rfl
set_option maxHeartbeats 1000000 in
set_option maxRecDepth 100000 in
theorem runs_impl_within (n l m : Int) : ARuns Tryz.prog 39 [.int .i64 n, .int .i64 l, .int .i64 m] [] (.bool (inB n l m)) [] := by
  refine ARuns_bc G_impl_within_ok is_impl_within (by simp) fun hl hlB => ?_
  simp only [kcode_at, kreg_at, bc_seq, bc_ret, bc_region, afin_nil, cvE_some, resL, resV, cv, pack, entryE, inPrm, entryB, Option.getD_some, aops_nil, aops_plain, aops_guard, kont_at, yes_at, no_at, aop_move, aop_assign, aop_pick, aop_binOp, evalE, getE, putE, getB, St.put, setsB, nth, AV.ofV, List.length_nil, Nat.reduceEqDiff, Nat.reduceAdd, ↓reduceIte, true_and, decide_eq_true_eq, decide_eq_false_iff_not, List.nil_append, List.cons_append, aGuardO_some, aGuard_tt, aGuard_tf, aGuard_tb, aPick_t, aPick_f, aInt_leq, aBin_leq, aInt_geq, aBin_geq, aBinW_f, isW_tmp, Nat.zero_add, un3, Tryz.f39]
  refine ⟨fun h => ?_, fun h => ?_⟩ <;> simp [h, inB]
def lend_impl_within : List Nat := []
def sp_impl_within : List AV → List Bx → (AV → List Bx → Prop) → Prop
  | [.int .i64 n, .int .i64 l, .int .i64 m], [], K => K (.bool (inB n l m)) []
  | _, _, _ => False
theorem at_impl_within {n l m : Int} {K : AV → List Bx → Prop} : sp_impl_within [.int .i64 n, .int .i64 l, .int .i64 m] [] K = (K (.bool (inB n l m)) []) := id rfl
theorem ok_impl_within : ∀ args giv K, sp_impl_within args giv K → ∃ r outs, ARuns Tryz.prog 39 args giv r outs ∧ K r outs := by
  intro args giv K hk
  unfold sp_impl_within at hk
  split at hk
  · exact ⟨_, _, runs_impl_within _ _ _ , hk⟩
  · exact hk.elim
theorem is_impl_isSetOf : FnIs Tryz.prog 67 14 [.tmp 4] (Tryz.f67.body.getD .skip) := ⟨⟨Tryz.f67, by kernel_rfl, by kernel_rfl, by kernel_rfl, by kernel_rfl⟩, by kernel_rfl, by kernel_rfl⟩
def G_impl_isSetOf : Gm := Gm.none
theorem G_impl_isSetOf_ok : G_impl_isSetOf.ok Tryz.prog := Gm.none_ok
theorem gm_impl_isSetOf {r : List Oper} {n : Nat} : splB G_impl_isSetOf r n = true := rfl
set_option maxHeartbeats 1000000 in
set_option maxRecDepth 100000 in
theorem runs_impl_isSetOf (n s : Int) (hp1 : 0 ≤ n ∧ n ≤ 62) : ARuns Tryz.prog 67 [.int .i64 n, .int .i64 s] [] (.bool (inS n s)) [] := by
  refine ARuns_bc G_impl_isSetOf_ok is_impl_isSetOf (by simp) fun hl hlB => ?_
  simp only [kcode_at, kreg_at, bc_seq, bc_ret, bc_region, afin_nil, cvE_some, resL, resV, cv, pack, entryE, inPrm, entryB, Option.getD_some, AV.bid, aops_nil, aops_plain, aops_guard, kont_at, yes_at, no_at, aop_move, aop_assign, aop_pick, aop_binOp, aop_convert, evalE, getE, putE, getB, St.put, setsB, nth, AV.ofV, AV.bid, List.length_nil, Nat.reduceEqDiff, ↓reduceIte, true_and, decide_eq_true_eq, decide_eq_false_iff_not, List.nil_append, List.cons_append, aGuardO_some, aGuard_tt, aGuard_tf, aGuard_tb, aPick_t, aPick_f, aInt_lss, aBin_lss, aInt_geq, aBin_geq, aBin_shl, aShift_shl, aConv_int, aBinW_f, isW_tmp, isW_geq, cont, Nat.zero_add, aConvS_int, sl3, un3, un67, inR64, inRu64, Tryz.f67]
  have hb : (2 : Int) ^ n.toNat ≤ 2 ^ 62 := by
    have : (2 : Nat) ^ n.toNat ≤ 2 ^ 62 := Nat.pow_le_pow_right (by omega) (by omega)
    have h := Int.ofNat_le.2 this
    simpa using h
  have h0 : (0 : Int) ≤ 2 ^ n.toNat := Int.pow_nonneg (by omega)
  have e : inS n s = (decide (0 ≤ s) && decide (s ≤ 2 ^ n.toNat - 1)) := rfl
  rw [e]
  simp only [IntKind.bits]
  generalize (2 : Int) ^ n.toNat = q at *
  refine ⟨fun h => ⟨by omega, by omega, ?_⟩, fun h => ?_⟩
  · congr 1; rw [Bool.eq_iff_iff]; simp; omega
  · congr 1; rw [Bool.eq_iff_iff]; simp; omega
def lend_impl_isSetOf : List Nat := []
def sp_impl_isSetOf : List AV → List Bx → (AV → List Bx → Prop) → Prop
  | [.int .i64 n, .int .i64 s], [], K => (0 ≤ n ∧ n ≤ 62) ∧ K (.bool (inS n s)) []
  | _, _, _ => False
theorem at_impl_isSetOf {n s : Int} {K : AV → List Bx → Prop} : sp_impl_isSetOf [.int .i64 n, .int .i64 s] [] K = ((0 ≤ n ∧ n ≤ 62) ∧ K (.bool (inS n s)) []) := id rfl
theorem ok_impl_isSetOf : ∀ args giv K, sp_impl_isSetOf args giv K → ∃ r outs, ARuns Tryz.prog 67 args giv r outs ∧ K r outs := by
  intro args giv K hk
  unfold sp_impl_isSetOf at hk
  split at hk
  · obtain ⟨hp1, hk⟩ := hk; exact ⟨_, _, runs_impl_isSetOf _ _ hp1, hk⟩
  · exact hk.elim
theorem is_impl_areSets : FnIs Tryz.prog 43 21 [.tmp 4] (Tryz.f43.body.getD .skip) := ⟨⟨Tryz.f43, by kernel_rfl, by kernel_rfl, by kernel_rfl, by kernel_rfl⟩, by kernel_rfl, by kernel_rfl⟩
def G_impl_areSets : Gm := ((Gm.none.add 39 lend_impl_within sp_impl_within).add 67 lend_impl_isSetOf sp_impl_isSetOf)
theorem G_impl_areSets_ok : G_impl_areSets.ok Tryz.prog := (Gm.add_ok (Gm.add_ok Gm.none_ok ok_impl_within) ok_impl_isSetOf)
theorem gm_impl_areSets {r : List Oper} {n : Nat} : splB G_impl_areSets r n = true := rfl
theorem gs_impl_areSets_39 : G_impl_areSets.sp 39 = sp_impl_within ∧ G_impl_areSets.lend 39 = lend_impl_within := ⟨rfl, rfl⟩
theorem gs_impl_areSets_67 : G_impl_areSets.sp 67 = sp_impl_isSetOf ∧ G_impl_areSets.lend 67 = lend_impl_isSetOf := ⟨rfl, rfl⟩
set_option maxHeartbeats 1000000 in
set_option maxRecDepth 100000 in
theorem runs_impl_areSets (n : Int) (xs : List Int) : ARuns Tryz.prog 43 [.int .i64 n, .sl none (.ints .i64 xs)] [] (.bool (setsOk n xs)) [] := by
  refine ARuns_bc G_impl_areSets_ok is_impl_areSets (by simp) fun hl hlB => ?_
  simp only [kcode_at, kreg_at, bc_skip, bc_seq, bc_cond, bc_block, bc_ret, bc_region, acond_tmp, aCase_b, afin_nil, cvE_some, resL, resV, cv, pack, entryE, inPrm, entryB, Option.getD_some, acall_clo, kcall_nil, selOf, inArgs, inA, inL, okA, outA, outU, deep, deepL, List.map_nil, List.map_cons, List.all_nil, List.all_cons, BEq.rfl, Bool.and_true, List.append_nil, aops_nil, aops_plain, kont_at, aop_move, aop_assign, aop_unOp, aop_len, SC0, aop_call, evalE, getE, putE, getB, St.put, setsB, AV.ofV, SC.len, List.length_nil, Nat.reduceEqDiff, ↓reduceIte, true_and, and_true, Bool.not_eq_true', Bool.not_eq_false', List.nil_append, List.cons_append, aUn_b, aLen_prm, lend, Nat.zero_add, BEq.rfl, sl3, un24, gs_impl_areSets_39, at_impl_within, lend_impl_within, Tryz.f43]
  simp only [lensA, lenA, lenSC] at hl
  refine ⟨fun h => by rw [setsOk, h]; rfl, fun hn => ?_⟩
  refine bc_loop (fun i : Nat => i ≤ xs.length ∧ ∀ k, k < i → inS n (xs.getD k 0) = true)
    (fun i => ⟨[(0, .int .i64 n), (10, .prm 1 (.ints .i64 xs)), (11, .int .i64 xs.length), (12, .int .i64 i)], []⟩) (fun i => xs.length - i)
    [0, 10, 11, 12] [] 0 rfl rfl (by simp) fun i ⟨h1, h2⟩ => ?_
  simp only [kcode_at, kreg_at, bc_skip, bc_seq, bc_cond, bc_block, bc_exit, bc_ret, bc_region, lkX_cons, acond_tmp, aCase_b, afin_nil, cvE_some, resL, resV, cv, pack, acall_clo, kcall_nil, selOf, inArgs, inA, inL, okA, outA, outU, deep, deepL, List.map_nil, List.map_cons, List.all_nil, List.all_cons, BEq.rfl, Bool.and_true, List.append_nil, aops_nil, aops_plain, kont_at, aop_move, aop_assign, aop_load, aop_binOp, aop_unOp, aop_indexAddr, SC0, aop_call, evalE, getE, putE, getB, St.put, setsB, AV.ofV, SC.len, SC.get, List.length_nil, Nat.reduceEqDiff, ↓reduceIte, true_and, and_true, decide_eq_true_eq, Bool.not_eq_true', Bool.not_eq_false', decide_eq_false_iff_not, Option.isSome, List.nil_append, List.cons_append, aInt_add, aBin_add, aInt_lss, aBin_lss, aUn_b, aIdx_prm, aLoad_ep, aBinW_f, isW_tmp, isW_addc, Int.reduceLT, aBinW_dF, lend, BEq.rfl, sl3, ty3, un3, sl24, inR64, gs_impl_areSets_67, at_impl_isSetOf, lend_impl_isSetOf, Int.toNat_natCast]
  have hb := hn
  rw [inB_t] at hb
  refine ⟨fun hi => ⟨by omega, by omega, fun hf => ?_, fun ht => ⟨by omega, ?_⟩⟩, fun hi => ?_⟩
  · rw [setsOk, allN_f i (by omega) hf]; simp
  · exact klp_of (i + 1) rfl ⟨by omega, upto_succ h2 ht⟩ (by omega)
  · have : i = xs.length := by omega
    subst this
    rw [setsOk, hn, allN_t h2]; rfl
def lend_impl_areSets : List Nat := []
def sp_impl_areSets : List AV → List Bx → (AV → List Bx → Prop) → Prop
  | [.int .i64 n, .sl none (.ints .i64 xs)], [], K => K (.bool (setsOk n xs)) []
  | _, _, _ => False
theorem at_impl_areSets {n : Int} {xs : List Int} {K : AV → List Bx → Prop} : sp_impl_areSets [.int .i64 n, .sl none (.ints .i64 xs)] [] K = (K (.bool (setsOk n xs)) []) := id rfl
theorem ok_impl_areSets : ∀ args giv K, sp_impl_areSets args giv K → ∃ r outs, ARuns Tryz.prog 43 args giv r outs ∧ K r outs := by
  intro args giv K hk
  unfold sp_impl_areSets at hk
  split at hk
  · exact ⟨_, _, runs_impl_areSets _ _ , hk⟩
  · exact hk.elim
theorem is_impl_IsFamily : FnIs Tryz.prog 10 29 [.tmp 2] (Tryz.f10.body.getD .skip) := ⟨⟨Tryz.f10, by kernel_rfl, by kernel_rfl, by kernel_rfl, by kernel_rfl⟩, by kernel_rfl, by kernel_rfl⟩
def G_impl_IsFamily : Gm := (Gm.none.add 43 lend_impl_areSets sp_impl_areSets)
theorem G_impl_IsFamily_ok : G_impl_IsFamily.ok Tryz.prog := (Gm.add_ok Gm.none_ok ok_impl_areSets)
theorem gm_impl_IsFamily {r : List Oper} {n : Nat} : splB G_impl_IsFamily r n = true := rfl
theorem gs_impl_IsFamily_43 : G_impl_IsFamily.sp 43 = sp_impl_areSets ∧ G_impl_IsFamily.lend 43 = lend_impl_areSets := ⟨rfl, rfl⟩
set_option maxHeartbeats 1000000 in
set_option maxRecDepth 100000 in
theorem runs_impl_IsFamily (n : Int) (xs : List Int) : ARuns Tryz.prog 10 [.agg [.int .i64 n, .sl none (.ints .i64 xs)]] [] (.bool (famB n xs)) [] := by
  refine ARuns_bc G_impl_IsFamily_ok is_impl_IsFamily (by simp) fun hl hlB => ?_
  simp only [kcode_at, kreg_at, bc_skip, bc_seq, bc_cond, bc_block, bc_ret, bc_region, acond_tmp, aCase_b, afin_nil, cvE_some, resL, resV, cv, pack, entryE, inPrm, entryB, Option.getD_some, acall_clo, kcall_nil, selOf, inArgs, inA, inL, okA, outA, outU, deep, deepL, List.map_nil, List.map_cons, List.all_nil, List.all_cons, BEq.rfl, Bool.and_true, List.append_nil, aops_nil, aops_plain, kont_at, aop_assign, aop_box, aop_load, aop_unOp, aop_fieldAddr, SC0, aop_call, evalE, getE, putE, getB, setB, St.put, setsB, AV.ofV, AV.blk, SC.len, List.length_nil, List.length_cons, Nat.reduceEqDiff, Nat.reduceAdd, ↓reduceIte, true_and, and_true, Bool.not_eq_true', Bool.not_eq_false', List.nil_append, List.cons_append, aBox_some, aUn_b, aField_ptr, aLoad_1b, lend, AV.cells, List.getD_cons_zero, List.getD_cons_succ, Nat.reduceLT, Nat.zero_add, BEq.rfl, sl3, ty3, sl24, ty24, ty26, gs_impl_IsFamily_43, at_impl_areSets, lend_impl_areSets, Tryz.f10]
  simp only [lensA, lenA, lenSC] at hl
  refine ⟨fun h => by rw [famB, h]; rfl, fun hn => ?_⟩
  refine bc_loop (fun i : Nat => 1 ≤ i ∧ (i ≤ xs.length ∨ i = 1) ∧ ∀ k, k < i → ascAt xs k = true)
    (fun i => ⟨[(1, .ptr 0 0), (3, .int .i64 i)], [.box [.int .i64 n, .sl none (.ints .i64 xs)]]⟩) (fun i => xs.length - i)
    [1, 3] [0] 1 rfl (by simp [St.conv, St.bf, getE, putE, getB, cv, cvL, cvB, idx, still, pack, lifts, liftOne, liftC, liftK, killB, cellsOfB, setB]) ⟨by omega, by omega, fun k hk => by rw [ascAt_iff]; omega⟩ fun i ⟨h1, h2, h3⟩ => ?_
  simp only [kcode_at, kreg_at, bc_skip, bc_seq, bc_cond, bc_block, bc_exit, bc_ret, bc_region, lkX_cons, acond_tmp, aCase_t, aCase_f, aCase_b, afin_nil, cvE_some, resL, resV, cv, pack, List.map_nil, aops_nil, aops_plain, kont_at, aop_move, aop_assign, aop_load, aop_binOp, aop_fieldAddr, aop_indexAddr, aop_len, evalE, getE, putE, getB, St.put, setsB, AV.ofV, AV.blk, SC.len, SC.get, List.length_nil, List.length_cons, Nat.reduceEqDiff, Nat.reduceAdd, ↓reduceIte, true_and, and_true, decide_eq_true_eq, decide_eq_false_iff_not, Option.isSome, List.nil_append, List.cons_append, aInt_add, aBin_add, aInt_sub, aBin_sub, aInt_lss, aBin_lss, aInt_leq, aBin_leq, aField_ptr, aIdx_sl, aLen_sl, aLoad_1b, aLoad_ep, aBinW_f, isW_tmp, isW_addc, isW_sub, Int.reduceLT, aBinW_dF, bc_draw, kregD_at, aopsD_nil, aopsD_plain, kontD_at, splW_t, contD_at, splD_bool, splD_int, splD_sl, splD_ptr, splD_ep, addTr_nil, addTr_cons, regC_none, regR_nil, regR_cons, List.getD_cons_zero, List.getD_cons_succ, Nat.reduceLT, Nat.zero_add, ty3, un3, sl24, ty24, un24, ty26, inR64, gm_impl_IsFamily, Int.toNat_natCast]
  have e0 : ((i : Int) - 1).toNat = i - 1 := by omega
  rw [e0]
  refine ⟨fun hi => ⟨by omega, by omega, by omega, fun hle => ?_, fun hle => ⟨by omega, ?_⟩⟩, fun hi => ?_⟩
  · rw [famB, allN_f i (by omega) (by have : ¬ ascAt xs i = true := by rw [ascAt_iff]; omega
                                      simpa using this)]; simp
  · exact klp_of (i + 1) (by simp [St.conv, St.bf, getE, putE, getB, cv, cvL, cvB, idx, still, pack, lifts, liftOne, liftC, liftK, killB, cellsOfB, setB]) ⟨by omega, by omega, upto_succ h3 (by rw [ascAt_iff]; omega)⟩ (by omega)
  · rw [famB, hn, allN_t fun k hk => h3 k (by omega)]; rfl
def lend_impl_IsFamily : List Nat := []
def sp_impl_IsFamily : List AV → List Bx → (AV → List Bx → Prop) → Prop
  | [.agg [.int .i64 n, .sl none (.ints .i64 xs)]], [], K => K (.bool (famB n xs)) []
  | _, _, _ => False
theorem at_impl_IsFamily {n : Int} {xs : List Int} {K : AV → List Bx → Prop} : sp_impl_IsFamily [.agg [.int .i64 n, .sl none (.ints .i64 xs)]] [] K = (K (.bool (famB n xs)) []) := id rfl
theorem ok_impl_IsFamily : ∀ args giv K, sp_impl_IsFamily args giv K → ∃ r outs, ARuns Tryz.prog 10 args giv r outs ∧ K r outs := by
  intro args giv K hk
  unfold sp_impl_IsFamily at hk
  split at hk
  · exact ⟨_, _, runs_impl_IsFamily _ _ , hk⟩
  · exact hk.elim
theorem is_strings_Join : FnIs Tryz.prog 38 75 [.tmp 4] (Tryz.f38.body.getD .skip) := ⟨⟨Tryz.f38, by kernel_rfl, by kernel_rfl, by kernel_rfl, by kernel_rfl⟩, by kernel_rfl, by kernel_rfl⟩
def G_strings_Join : Gm := Gm.none
theorem G_strings_Join_ok : G_strings_Join.ok Tryz.prog := Gm.none_ok
theorem gm_strings_Join {r : List Oper} {n : Nat} : splB G_strings_Join r n = true := rfl
set_option maxHeartbeats 1000000 in
set_option maxRecDepth 100000 in
theorem runs_strings_Join (ss : List ByteArray) (s : List UInt8) (hp1 : ss.length ≤ 1099511627776) (hp2 : (Lib.join (ss.map fun x => x.data.toList) s).length ≤ 140737488355328) : ARuns Tryz.prog 38 [.sl none (.strs ss), .str (bst s)] [] (.str (bst (Lib.join (ss.map fun x => x.data.toList) s))) [] := by
  refine ARuns_val is_strings_Join.callable (v := .string (bst (Lib.join (ss.map fun x => x.data.toList) s))) (fun _ _ _ _ _ => by simp only [Rel]) fun w vals F g hF hR _ => ?_
  simp only [RelL] at hR
  obtain ⟨v, _, rfl, hv, v2, _, rfl, h2, rfl⟩ := hR
  simp only [Rel] at h2
  subst h2
  obtain ⟨a, cap, rfl, hcap, hcell⟩ := strs_view hv
  by_cases h0 : 0 < ss.length
  · obtain ⟨b, off, rfl, hc⟩ := hcell h0
    have hb : b < w.heap.size := World.block_lt_of_cell? _ _ (hc 0 _ (List.getElem?_eq_getElem h0))
    exact Tryz.strings_Join b off cap ss (bst s) w hc hb (by omega) hcap hp2
  · have e : ss = [] := List.length_eq_zero_iff.1 (by omega)
    subst e
    refine (Tryz.strings_Join_none a cap (bst s) w).mono ?_
    rintro e w' ⟨rfl, rfl⟩
    exact ⟨rfl, RowKit.Below.refl _ _⟩
def lend_strings_Join : List Nat := []
def sp_strings_Join : List AV → List Bx → (AV → List Bx → Prop) → Prop
  | [.sl none (.strs ss), .str ⟨⟨s⟩⟩], [], K => (ss.length ≤ 1099511627776) ∧ ((Lib.join (ss.map fun x => x.data.toList) s).length ≤ 140737488355328) ∧ K (.str (bst (Lib.join (ss.map fun x => x.data.toList) s))) []
  | _, _, _ => False
theorem at_strings_Join {ss : List ByteArray} {s : List UInt8} {K : AV → List Bx → Prop} : sp_strings_Join [.sl none (.strs ss), .str (bst s)] [] K = ((ss.length ≤ 1099511627776) ∧ ((Lib.join (ss.map fun x => x.data.toList) s).length ≤ 140737488355328) ∧ K (.str (bst (Lib.join (ss.map fun x => x.data.toList) s))) []) := id rfl
theorem ok_strings_Join : ∀ args giv K, sp_strings_Join args giv K → ∃ r outs, ARuns Tryz.prog 38 args giv r outs ∧ K r outs := by
  intro args giv K hk
  unfold sp_strings_Join at hk
  split at hk
  · obtain ⟨hp1, hp2, hk⟩ := hk; exact ⟨_, _, runs_strings_Join _ _ hp1 hp2, hk⟩
  · exact hk.elim
theorem is_strconv_Itoa : FnIs Tryz.prog 98 5 [.tmp 2] (Tryz.f98.body.getD .skip) := ⟨⟨Tryz.f98, by kernel_rfl, by kernel_rfl, by kernel_rfl, by kernel_rfl⟩, by kernel_rfl, by kernel_rfl⟩
def G_strconv_Itoa : Gm := Gm.none
theorem G_strconv_Itoa_ok : G_strconv_Itoa.ok Tryz.prog := Gm.none_ok
theorem gm_strconv_Itoa {r : List Oper} {n : Nat} : splB G_strconv_Itoa r n = true := rfl
set_option maxHeartbeats 1000000 in
set_option maxRecDepth 100000 in
theorem runs_strconv_Itoa (n : Int) (hp1 : -9223372036854775808 ≤ n ∧ n ≤ 9223372036854775807) : ARuns Tryz.prog 98 [.int .i64 n] [] (.str (bst (Lib.itoa n))) [] := by
  refine ARuns_val is_strconv_Itoa.callable (v := .string (bst (Lib.itoa n))) (fun _ _ _ _ _ => by simp only [Rel]) fun w vals F g hF hR hL => ?_
  simp only [RelL, Rel] at hR
  obtain ⟨_, _, rfl, rfl, rfl⟩ := hR
  refine (Tryz.strconv_Itoa n hp1.1 hp1.2 w hL).mono ?_
  rintro e w' ⟨rfl, k, os, rfl⟩
  exact ⟨rfl, Lib.below_grow _ _ (Nat.le_refl _) _ _⟩
def lend_strconv_Itoa : List Nat := []
def sp_strconv_Itoa : List AV → List Bx → (AV → List Bx → Prop) → Prop
  | [.int .i64 n], [], K => (-9223372036854775808 ≤ n ∧ n ≤ 9223372036854775807) ∧ K (.str (bst (Lib.itoa n))) []
  | _, _, _ => False
theorem at_strconv_Itoa {n : Int} {K : AV → List Bx → Prop} : sp_strconv_Itoa [.int .i64 n] [] K = ((-9223372036854775808 ≤ n ∧ n ≤ 9223372036854775807) ∧ K (.str (bst (Lib.itoa n))) []) := id rfl
theorem ok_strconv_Itoa : ∀ args giv K, sp_strconv_Itoa args giv K → ∃ r outs, ARuns Tryz.prog 98 args giv r outs ∧ K r outs := by
  intro args giv K hk
  unfold sp_strconv_Itoa at hk
  split at hk
  · obtain ⟨hp1, hk⟩ := hk; exact ⟨_, _, runs_strconv_Itoa _ hp1, hk⟩
  · exact hk.elim
theorem is_impl_FormatInt : FnIs Tryz.prog 87 5 [.tmp 2] (Tryz.f87.body.getD .skip) := ⟨⟨Tryz.f87, by kernel_rfl, by kernel_rfl, by kernel_rfl, by kernel_rfl⟩, by kernel_rfl, by kernel_rfl⟩
def G_impl_FormatInt : Gm := (Gm.none.add 98 lend_strconv_Itoa sp_strconv_Itoa)
theorem G_impl_FormatInt_ok : G_impl_FormatInt.ok Tryz.prog := (Gm.add_ok Gm.none_ok ok_strconv_Itoa)
theorem gm_impl_FormatInt {r : List Oper} {n : Nat} : splB G_impl_FormatInt r n = true := rfl
theorem gs_impl_FormatInt_98 : G_impl_FormatInt.sp 98 = sp_strconv_Itoa ∧ G_impl_FormatInt.lend 98 = lend_strconv_Itoa := ⟨rfl, rfl⟩
set_option maxHeartbeats 1000000 in
set_option maxRecDepth 100000 in
theorem runs_impl_FormatInt (n : Int) (hp1 : -9223372036854775808 ≤ n ∧ n ≤ 9223372036854775807) : ARuns Tryz.prog 87 [.int .i64 n] [] (.str (bst (Lib.itoa n))) [] := by
  refine ARuns_bc G_impl_FormatInt_ok is_impl_FormatInt (by simp) fun hl hlB => ?_
  simp only [kcode_at, kreg_at, bc_seq, bc_ret, bc_region, afin_nil, cvE_some, resL, resV, cv, pack, entryE, inPrm, entryB, Option.getD_some, acall_clo, kcall_nil, selOf, inArgs, inA, inL, okA, outA, outU, deep, deepL, List.map_nil, List.map_cons, List.all_nil, List.all_cons, BEq.rfl, Bool.and_true, List.append_nil, aops_nil, aops_plain, kont_at, aop_move, aop_assign, SC0, aop_call, evalE, getE, putE, getB, St.put, setsB, AV.ofV, SC.len, List.length_nil, Nat.reduceEqDiff, ↓reduceIte, and_true, List.nil_append, List.cons_append, lend, BEq.rfl, bst_mk, sl3, gs_impl_FormatInt_98, at_strconv_Itoa, lend_strconv_Itoa, Tryz.f87]
  exact hp1
def lend_impl_FormatInt : List Nat := []
def sp_impl_FormatInt : List AV → List Bx → (AV → List Bx → Prop) → Prop
  | [.int .i64 n], [], K => (-9223372036854775808 ≤ n ∧ n ≤ 9223372036854775807) ∧ K (.str (bst (Lib.itoa n))) []
  | _, _, _ => False
theorem at_impl_FormatInt {n : Int} {K : AV → List Bx → Prop} : sp_impl_FormatInt [.int .i64 n] [] K = ((-9223372036854775808 ≤ n ∧ n ≤ 9223372036854775807) ∧ K (.str (bst (Lib.itoa n))) []) := id rfl
theorem ok_impl_FormatInt : ∀ args giv K, sp_impl_FormatInt args giv K → ∃ r outs, ARuns Tryz.prog 87 args giv r outs ∧ K r outs := by
  intro args giv K hk
  unfold sp_impl_FormatInt at hk
  split at hk
  · obtain ⟨hp1, hk⟩ := hk; exact ⟨_, _, runs_impl_FormatInt _ hp1, hk⟩
  · exact hk.elim
theorem is_impl_joinInts : FnIs Tryz.prog 68 23 [.tmp 2] (Tryz.f68.body.getD .skip) := ⟨⟨Tryz.f68, by kernel_rfl, by kernel_rfl, by kernel_rfl, by kernel_rfl⟩, by kernel_rfl, by kernel_rfl⟩
def G_impl_joinInts : Gm := ((Gm.none.add 38 lend_strings_Join sp_strings_Join).add 87 lend_impl_FormatInt sp_impl_FormatInt)
theorem G_impl_joinInts_ok : G_impl_joinInts.ok Tryz.prog := (Gm.add_ok (Gm.add_ok Gm.none_ok ok_strings_Join) ok_impl_FormatInt)
theorem gm_impl_joinInts {r : List Oper} {n : Nat} : splB G_impl_joinInts r n = true := rfl
theorem gs_impl_joinInts_38 : G_impl_joinInts.sp 38 = sp_strings_Join ∧ G_impl_joinInts.lend 38 = lend_strings_Join := ⟨rfl, rfl⟩
theorem gs_impl_joinInts_87 : G_impl_joinInts.sp 87 = sp_impl_FormatInt ∧ G_impl_joinInts.lend 87 = lend_impl_FormatInt := ⟨rfl, rfl⟩
set_option maxHeartbeats 1000000 in
set_option maxRecDepth 100000 in
theorem runs_impl_joinInts (xs : List Int) (hp1 : ∀ x ∈ xs, 0 ≤ x ∧ x < 62) (hp2 : xs.length ≤ 62) : ARuns Tryz.prog 68 [.sl none (.ints .i64 xs)] [] (.str (bst (Lib.join (numL xs) [44]))) [] := by
  refine ARuns_bc G_impl_joinInts_ok is_impl_joinInts (by simp) fun hl hlB => ?_
  simp only [kcode_at, kreg_at, bc_seq, bc_block, bc_region, entryE, inPrm, entryB, Option.getD_some, aops_nil, aops_plain, kont_at, aop_move, aop_assign, aop_makeSlice, aop_len, evalE, getE, putE, getB, setB, St.put, setsB, AV.ofV, SC.len, List.length_nil, List.length_cons, Nat.reduceEqDiff, ↓reduceIte, true_and, List.nil_append, List.cons_append, aMake_s, aLen_prm, Nat.zero_add, bst_mk, un24, sl53, Tryz.f68]
  refine ⟨by omega, ?_⟩
  refine bc_loop (fun i : Nat => i ≤ xs.length)
    (fun i => ⟨[(3, .ref 0 i), (9, .prm 0 (.ints .i64 xs)), (10, .int .i64 xs.length), (11, .int .i64 i)], [.row 9 (.strs ((numL (xs.take i)).map bst))]⟩) (fun i => xs.length - i)
    [3, 9, 10, 11] [0] 0 rfl (by simp [St.conv, St.bf, getE, putE, getB, cv, cvL, cvB, idx, still, pack, lifts, liftOne, liftC, liftK, killB, cellsOfB, setB]; simp [numL]) (by omega) fun i hi => ?_
  simp only [kcode_at, kreg_at, bc_skip, bc_seq, bc_cond, bc_block, bc_exit, bc_region, lkX_cons, acond_tmp, aCase_b, acall_clo, kcall_nil, selOf, inArgs, inA, inL, okA, outA, outU, deep, deepL, AV.bid, List.map_nil, List.map_cons, List.all_nil, List.all_cons, BEq.rfl, Bool.and_true, List.append_nil, aops_nil, aops_plain, kont_at, aop_move, aop_assign, aop_buildSlice, aop_load, aop_binOp, aop_indexAddr, slTy2, SC0, aop_append, aop_call, evalE, getE, putE, getB, setB, St.put, setsB, AV.ofV, AV.blk, AV.bid, SC.len, SC.get, List.length_nil, List.length_cons, Nat.reduceEqDiff, Nat.reduceAdd, ↓reduceIte, true_and, and_true, decide_eq_true_eq, decide_eq_false_iff_not, Option.isSome, List.nil_append, List.cons_append, aInt_add, aBin_add, aInt_lss, aBin_lss, aIdx_prm, aBuildL_some, aBuildS_some, aLoad_ep, aApp_some, aAppend_ref, aBinW_f, isW_tmp, isW_addc, Int.reduceLT, aBinW_dF, rng1, idx, cont, still, dies, lend, snocs, SC.snoc, SC.app, Nat.reduceLeDiff, List.flatMap_nil, List.flatMap_cons, Nat.zero_add, BEq.rfl, sl3, ty3, un3, sl9, sl24, sl53, inR64, gs_impl_joinInts_38, lend_strings_Join, gs_impl_joinInts_87, at_impl_FormatInt, lend_impl_FormatInt, Int.toNat_natCast]
  have hln : (List.map bst (numL (List.take i xs))).length = i := by unfold numL; rw [List.length_map, List.length_map, List.length_take]; omega
  simp only [hln, ↓reduceIte]
  refine ⟨fun h1 => ?_, fun h1 => ?_⟩
  · have hm : xs.getD i 0 ∈ xs := by rw [List.getD_eq_getElem?_getD, List.getElem?_eq_getElem (by omega)]; exact List.getElem_mem _
    have hb := hp1 _ hm
    refine ⟨by omega, by omega, ⟨trivial, by omega⟩, by omega, klp_of (i + 1) ?_ (by omega) (by omega)⟩
    have e : (numL (xs.take (i + 1))).map bst = (numL (xs.take i)).map bst ++ [bst (Lib.itoa (xs.getD i 0))] := by
      unfold numL; rw [take_snocI (by omega)]; simp
    rw [e]
    simp [St.conv, St.bf, getE, putE, getB, cv, cvL, cvB, idx, still, pack, lifts, liftOne, liftC, liftK, killB, cellsOfB, setB]
  · obtain rfl : i = xs.length := by omega
    rw [List.take_length] at hln ⊢
    simp only [kcode_at, kreg_at, bc_ret, afin_nil, cvE_some, resL, resV, cv, pack, kcall_nil, okA, outA, outU, deep, deepL, List.map_nil, List.all_nil, List.all_cons, BEq.rfl, Bool.and_true, List.append_nil, aops_nil, aops_plain, kont_at, aop_assign, evalE, getE, putE, St.put, setsB, SC.len, List.length_nil, List.length_cons, Nat.reduceEqDiff, ↓reduceIte, and_true, List.nil_append, List.cons_append, Nat.zero_add, BEq.rfl, at_strings_Join, map_un, hln]
    have hj := join_len [44] 20 (numL xs) (numL_bd hp1)
    have h2 : (numL xs).length = xs.length := by unfold numL; rw [List.length_map]
    rw [h2] at hj
    have h3 : xs.length * (20 + [44].length) ≤ 62 * 21 := Nat.mul_le_mul_right _ hp2
    exact ⟨by omega, by omega⟩
def lend_impl_joinInts : List Nat := []
def sp_impl_joinInts : List AV → List Bx → (AV → List Bx → Prop) → Prop
  | [.sl none (.ints .i64 xs)], [], K => (∀ x ∈ xs, 0 ≤ x ∧ x < 62) ∧ (xs.length ≤ 62) ∧ K (.str (bst (Lib.join (numL xs) [44]))) []
  | _, _, _ => False
theorem at_impl_joinInts {xs : List Int} {K : AV → List Bx → Prop} : sp_impl_joinInts [.sl none (.ints .i64 xs)] [] K = ((∀ x ∈ xs, 0 ≤ x ∧ x < 62) ∧ (xs.length ≤ 62) ∧ K (.str (bst (Lib.join (numL xs) [44]))) []) := id rfl
theorem ok_impl_joinInts : ∀ args giv K, sp_impl_joinInts args giv K → ∃ r outs, ARuns Tryz.prog 68 args giv r outs ∧ K r outs := by
  intro args giv K hk
  unfold sp_impl_joinInts at hk
  split at hk
  · obtain ⟨hp1, hp2, hk⟩ := hk; exact ⟨_, _, runs_impl_joinInts _ hp1 hp2, hk⟩
  · exact hk.elim
theorem is_impl_elementsOf : FnIs Tryz.prog 69 23 [.tmp 2] (Tryz.f69.body.getD .skip) := ⟨⟨Tryz.f69, by kernel_rfl, by kernel_rfl, by kernel_rfl, by kernel_rfl⟩, by kernel_rfl, by kernel_rfl⟩
def G_impl_elementsOf : Gm := Gm.none
theorem G_impl_elementsOf_ok : G_impl_elementsOf.ok Tryz.prog := Gm.none_ok
theorem gm_impl_elementsOf {r : List Oper} {n : Nat} : splB G_impl_elementsOf r n = true := rfl
set_option maxHeartbeats 1000000 in
set_option maxRecDepth 100000 in
theorem runs_impl_elementsOf (s : Int) (hp1 : 0 ≤ s ∧ s < 2 ^ 62) : ARuns Tryz.prog 69 [.int .i64 s] [] (.ref 0 (elemsL s).length) [.row 3 (.ints .i64 (elemsL s))] := by
  refine ARuns_bc G_impl_elementsOf_ok is_impl_elementsOf (by simp) fun hl hlB => ?_
  simp only [kcode_at, kreg_at, bc_seq, bc_block, bc_region, entryE, inPrm, entryB, Option.getD_some, aops_nil, aops_plain, kont_at, aop_assign, evalE, putE, getB, St.put, setsB, AV.ofV, List.length_nil, Nat.reduceEqDiff, ↓reduceIte, List.nil_append, Tryz.f69]
  obtain ⟨S, rfl⟩ := Int.eq_ofNat_of_zero_le hp1.1
  refine bc_loopN [(3, 3, .ints .i64 [])] (fun i : Nat => i ≤ 62)
    (fun i => ⟨[(0, .int .i64 S), (3, .ref 0 (elemsF S i).length), (4, .int .i64 i)], [.row 3 (.ints .i64 (elemsF S i))]⟩) (fun i => S / 2 ^ i)
    [0, 3, 4] [0] 0 rfl rfl (by simp [elemsF, St.conv, St.bf, getE, putE, getB, cv, cvL, cvB, idx, still, lifts, liftOne]) (by omega) fun i h1 => ?_
  simp only [kcode_at, kreg_at, bc_skip, bc_seq, bc_cond, bc_block, bc_exit, bc_ret, bc_region, lkX_cons, acond_tmp, aCase_b, AV.bid, List.map_nil, List.map_cons, List.append_nil, aops_nil, aops_plain, kont_at, aop_move, aop_assign, aop_buildSlice, aop_binOp, aop_convert, slTy2, aop_append, evalE, getE, putE, getB, setB, St.put, setsB, AV.ofV, AV.blk, AV.bid, SC.len, List.length_nil, List.length_cons, Nat.reduceEqDiff, Nat.reduceAdd, ↓reduceIte, true_and, and_true, decide_eq_true_eq, Bool.not_eq_true', Bool.not_eq_false', decide_eq_false_iff_not, List.nil_append, List.cons_append, aInt_add, aBin_add, aInt_and, aBin_and, aInt_eql, aBin_eql, aInt_neq, aBin_neq, aBin_shr, aShift_shr, aConv_int, aBuildL_some, aBuildS_some, aApp_some, aAppend_ref, aBinW_f, isW_tmp, isW_addc, isW_and, isW_eql, isW_neq, Int.reduceLT, aBinW_dF, rng1, cont, still, dies, snocs, SC.snoc, SC.app, Nat.reduceLeDiff, List.flatMap_nil, List.flatMap_cons, Nat.zero_add, aConvS_int, sl3, un3, un67, sl24, inR64, inRu64, Int.toNat_natCast]
  have hq : S / 2 ^ i ≤ S := Nat.div_le_self _ _
  have hl2 := elemsF_len (s := S) (n := i)
  have hd := div_next (s := S) (i := i)
  simp only [IntKind.bits]
  have ed : (S : Int) / 2 ^ i = ((S / 2 ^ i : Nat) : Int) := by simp
  rw [ed]
  have ht := elemsF_t (s := S) (n := i)
  have hf := elemsF_f (s := S) (n := i)
  have hlt := elems_lt (s := S) (i := i)
  have hat : S / 2 ^ i = 0 → elemsL S = elemsF S i := fun h => by
    have := elems_at (s := S) (i := i) h h1
    simpa using this
  clear ed
  generalize hqe : S / 2 ^ i = q at *
  have e6 : (q : Int) / 2 = (S : Int) / 2 ^ (i + 1) := by
    have := congrArg (fun n : Nat => (n : Int)) hd
    simpa using this.symm
  have hb : band .i64 (q : Int) 1 = (q : Int) % 2 := band_one (by omega)
  rw [hb]
  refine ⟨by omega, by omega, fun h0 => ?_, fun h0 => ?_⟩
  · have hi := hlt (by omega) (by omega)
    refine ⟨by omega, by omega, fun h1 => ⟨by omega, by omega, klp_of (i + 1) ?_ (by omega) (by simp only [hqe, hd]; omega)⟩, fun h1 => ⟨by omega, klp_of (i + 1) ?_ (by omega) (by simp only [hqe, hd]; omega)⟩⟩
    · rw [ht (by omega)]
      simp [St.conv, St.bf, getE, putE, getB, cv, cvL, cvB, idx, still, pack, lifts, liftOne, liftC, liftK, killB, cellsOfB, setB]
    · rw [hf (by omega)]
      simp [St.conv, St.bf, getE, putE, getB, cv, cvL, cvB, idx, still, pack, lifts, liftOne, liftC, liftK, killB, cellsOfB, setB]
  · rw [hat (by omega)]
    exact afin_of [0] rfl rfl (by simp [St.conv, St.bf, getE, putE, getB, cv, cvL, cvB, idx, still, pack, lifts, liftOne, liftC, liftK, killB, cellsOfB, setB]) (by simp [St.conv, St.bf, getE, putE, getB, cv, cvL, cvB, idx, still, pack, lifts, liftOne, liftC, liftK, killB, cellsOfB, setB])
def lend_impl_elementsOf : List Nat := []
def sp_impl_elementsOf : List AV → List Bx → (AV → List Bx → Prop) → Prop
  | [.int .i64 s], [], K => (0 ≤ s ∧ s < 2 ^ 62) ∧ K (.ref 0 (elemsL s).length) [.row 3 (.ints .i64 (elemsL s))]
  | _, _, _ => False
theorem at_impl_elementsOf {s : Int} {K : AV → List Bx → Prop} : sp_impl_elementsOf [.int .i64 s] [] K = ((0 ≤ s ∧ s < 2 ^ 62) ∧ K (.ref 0 (elemsL s).length) [.row 3 (.ints .i64 (elemsL s))]) := id rfl
theorem ok_impl_elementsOf : ∀ args giv K, sp_impl_elementsOf args giv K → ∃ r outs, ARuns Tryz.prog 69 args giv r outs ∧ K r outs := by
  intro args giv K hk
  unfold sp_impl_elementsOf at hk
  split at hk
  · obtain ⟨hp1, hk⟩ := hk; exact ⟨_, _, runs_impl_elementsOf _ hp1, hk⟩
  · exact hk.elim
theorem is_impl_FormatSet : FnIs Tryz.prog 32 19 [.tmp 4] (Tryz.f32.body.getD .skip) := ⟨⟨Tryz.f32, by kernel_rfl, by kernel_rfl, by kernel_rfl, by kernel_rfl⟩, by kernel_rfl, by kernel_rfl⟩
def G_impl_FormatSet : Gm := ((((Gm.none.add 39 lend_impl_within sp_impl_within).add 67 lend_impl_isSetOf sp_impl_isSetOf).add 68 lend_impl_joinInts sp_impl_joinInts).add 69 lend_impl_elementsOf sp_impl_elementsOf)
theorem G_impl_FormatSet_ok : G_impl_FormatSet.ok Tryz.prog := (Gm.add_ok (Gm.add_ok (Gm.add_ok (Gm.add_ok Gm.none_ok ok_impl_within) ok_impl_isSetOf) ok_impl_joinInts) ok_impl_elementsOf)
theorem gm_impl_FormatSet {r : List Oper} {n : Nat} : splB G_impl_FormatSet r n = true := rfl
theorem gs_impl_FormatSet_39 : G_impl_FormatSet.sp 39 = sp_impl_within ∧ G_impl_FormatSet.lend 39 = lend_impl_within := ⟨rfl, rfl⟩
theorem gs_impl_FormatSet_67 : G_impl_FormatSet.sp 67 = sp_impl_isSetOf ∧ G_impl_FormatSet.lend 67 = lend_impl_isSetOf := ⟨rfl, rfl⟩
theorem gs_impl_FormatSet_68 : G_impl_FormatSet.sp 68 = sp_impl_joinInts ∧ G_impl_FormatSet.lend 68 = lend_impl_joinInts := ⟨rfl, rfl⟩
theorem gs_impl_FormatSet_69 : G_impl_FormatSet.sp 69 = sp_impl_elementsOf ∧ G_impl_FormatSet.lend 69 = lend_impl_elementsOf := ⟨rfl, rfl⟩
set_option maxHeartbeats 1000000 in
set_option maxRecDepth 100000 in
theorem runs_impl_FormatSet (n s : Int) : ARuns Tryz.prog 32 [.int .i64 n, .int .i64 s] [] (.str (bst (fmtS n s))) [] := by
  refine ARuns_bc G_impl_FormatSet_ok is_impl_FormatSet (by simp) fun hl hlB => ?_
  simp only [kcode_at, kreg_at, bc_skip, bc_seq, bc_cond, bc_ret, bc_region, acond_tmp, aCase_t, aCase_b, afin_nil, cvE_some, resL, resV, cv, pack, entryE, inPrm, entryB, Option.getD_some, acall_clo, kcall_nil, selOf, inArgs, inA, inL, okA, okBx, okC, outA, outU, outB, deep, deepL, List.map_nil, List.map_cons, List.all_nil, List.all_cons, BEq.rfl, Bool.and_true, List.append_nil, aops_nil, aops_plain, aops_guard, kont_at, yes_at, no_at, aop_move, aop_assign, aop_pick, aop_binOp, aop_unOp, SC0, aop_call, evalE, getE, putE, getB, setB, St.put, setsB, nth, AV.ofV, SC.len, List.length_nil, List.length_cons, Nat.reduceEqDiff, ↓reduceIte, true_and, and_true, decide_eq_true_eq, Bool.not_eq_true', Bool.not_eq_false', decide_eq_false_iff_not, List.nil_append, List.cons_append, aGuardO_some, aGuard_ft, aGuard_ff, aGuard_fb, aPick_t, aPick_f, aInt_eql, aBin_eql, aUn_b, aBinW_f, isW_eql, mp_nil, idx, cont, lend, Nat.zero_add, BEq.rfl, bst_mk, sl3, un3, sl24, gs_impl_FormatSet_39, at_impl_within, lend_impl_within, gs_impl_FormatSet_67, at_impl_isSetOf, lend_impl_isSetOf, gs_impl_FormatSet_68, at_impl_joinInts, lend_impl_joinInts, gs_impl_FormatSet_69, at_impl_elementsOf, lend_impl_elementsOf, Tryz.f32]
  refine ⟨fun h => by rw [fmtS_f (by rw [h]; rfl)], fun h => ⟨by rw [inB_t] at h; omega, fun h2 => by rw [fmtS_f (by rw [h2]; simp)], fun h2 => ?_⟩⟩
  rw [fmtS_t h h2]
  have hs : inB s 0 (fullI n) = true := h2
  rw [inB_t] at h hs
  have hfb := full_bd (n := n) (by omega)
  refine ⟨fun h0 => by rw [if_pos h0], fun h0 => ⟨by omega, fun x hx => elemsL_bd hx, elemsL_len, by rw [if_neg h0]⟩⟩
def lend_impl_FormatSet : List Nat := []
def sp_impl_FormatSet : List AV → List Bx → (AV → List Bx → Prop) → Prop
  | [.int .i64 n, .int .i64 s], [], K => K (.str (bst (fmtS n s))) []
  | _, _, _ => False
theorem at_impl_FormatSet {n s : Int} {K : AV → List Bx → Prop} : sp_impl_FormatSet [.int .i64 n, .int .i64 s] [] K = (K (.str (bst (fmtS n s))) []) := id rfl
theorem ok_impl_FormatSet : ∀ args giv K, sp_impl_FormatSet args giv K → ∃ r outs, ARuns Tryz.prog 32 args giv r outs ∧ K r outs := by
  intro args giv K hk
  unfold sp_impl_FormatSet at hk
  split at hk
  · exact ⟨_, _, runs_impl_FormatSet _ _ , hk⟩
  · exact hk.elim
theorem is_impl_FormatFamily : FnIs Tryz.prog 6 30 [.tmp 2] (Tryz.f6.body.getD .skip) := ⟨⟨Tryz.f6, by kernel_rfl, by kernel_rfl, by kernel_rfl, by kernel_rfl⟩, by kernel_rfl, by kernel_rfl⟩
def G_impl_FormatFamily : Gm := (((Gm.none.add 10 lend_impl_IsFamily sp_impl_IsFamily).add 32 lend_impl_FormatSet sp_impl_FormatSet).add 38 lend_strings_Join sp_strings_Join)
theorem G_impl_FormatFamily_ok : G_impl_FormatFamily.ok Tryz.prog := (Gm.add_ok (Gm.add_ok (Gm.add_ok Gm.none_ok ok_impl_IsFamily) ok_impl_FormatSet) ok_strings_Join)
theorem gm_impl_FormatFamily {r : List Oper} {n : Nat} : splB G_impl_FormatFamily r n = true := rfl
theorem gs_impl_FormatFamily_10 : G_impl_FormatFamily.sp 10 = sp_impl_IsFamily ∧ G_impl_FormatFamily.lend 10 = lend_impl_IsFamily := ⟨rfl, rfl⟩
theorem gs_impl_FormatFamily_32 : G_impl_FormatFamily.sp 32 = sp_impl_FormatSet ∧ G_impl_FormatFamily.lend 32 = lend_impl_FormatSet := ⟨rfl, rfl⟩
theorem gs_impl_FormatFamily_38 : G_impl_FormatFamily.sp 38 = sp_strings_Join ∧ G_impl_FormatFamily.lend 38 = lend_strings_Join := ⟨rfl, rfl⟩
set_option maxHeartbeats 1000000 in
set_option maxRecDepth 100000 in
theorem runs_impl_FormatFamily (n : Int) (xs : List Int) (hp1 : xs.length ≤ 1048576) : ARuns Tryz.prog 6 [.agg [.int .i64 n, .sl none (.ints .i64 xs)]] [] (.str (bst (fmtF n xs))) [] := by
  refine ARuns_bc G_impl_FormatFamily_ok is_impl_FormatFamily (by simp) fun hl hlB => ?_
  simp only [kcode_at, kreg_at, bc_skip, bc_seq, bc_cond, bc_block, bc_ret, bc_region, acond_tmp, aCase_b, afin_nil, cvE_some, resL, resV, cv, pack, entryE, inPrm, entryB, Option.getD_some, acall_clo, kcall_nil, selOf, inArgs, inA, inL, okA, outA, outU, deep, deepL, List.map_nil, List.map_cons, List.all_nil, List.all_cons, BEq.rfl, Bool.and_true, List.append_nil, aops_nil, aops_plain, kont_at, aop_move, aop_assign, aop_box, aop_load, aop_binOp, aop_unOp, aop_fieldAddr, aop_len, SC0, aop_call, evalE, getE, putE, getB, setB, St.put, setsB, AV.ofV, AV.blk, SC.len, List.length_nil, List.length_cons, Nat.reduceEqDiff, Nat.reduceAdd, ↓reduceIte, true_and, and_true, decide_eq_true_eq, Bool.not_eq_true', Bool.not_eq_false', decide_eq_false_iff_not, List.nil_append, List.cons_append, aBox_some, aInt_eql, aBin_eql, aUn_b, aField_ptr, aLen_sl, aLoad_1b, aLoad_fb, aBinW_f, isW_eql, lend, AV.cells, List.getD_cons_zero, List.getD_cons_succ, Nat.reduceLT, Nat.zero_add, BEq.rfl, bst_mk, un3, ty24, un24, ty26, sl26, gs_impl_FormatFamily_10, at_impl_IsFamily, lend_impl_IsFamily, Tryz.f6]
  refine ⟨fun h => by rw [fmtF_f h], fun hf => ?_⟩
  rw [fmtF_t hf]
  refine ⟨fun h => by rw [if_pos (List.length_eq_zero_iff.1 (by omega))], fun h => ?_⟩
  rw [if_neg (fun e => by rw [e] at h; simp at h)]
  refine bc_loopN [(3, 9, .strs [])] (fun i : Nat => i ≤ xs.length)
    (fun i => ⟨[(1, .ptr 0 0), (3, .ref 1 i), (14, .sl none (.ints .i64 xs)), (15, .int .i64 xs.length), (16, .int .i64 i)], [.box [.int .i64 n, .sl none (.ints .i64 xs)], .row 9 (.strs ((famL n (xs.take i)).map bst))]⟩) (fun i => xs.length - i)
    [1, 3, 14, 15, 16] [0, 1] 0 rfl rfl (by simp [St.conv, St.bf, getE, putE, getB, cv, cvL, cvB, idx, still, pack, lifts, liftOne, liftC, liftK, killB, cellsOfB, setB]; simp [famL]) (by omega) fun i hi => ?_
  simp only [kcode_at, kreg_at, bc_skip, bc_seq, bc_cond, bc_block, bc_exit, bc_region, lkX_cons, acond_tmp, aCase_b, acall_clo, kcall_nil, selOf, inArgs, inA, inL, okA, outA, outU, deep, deepL, AV.bid, List.map_nil, List.map_cons, List.all_nil, List.all_cons, BEq.rfl, Bool.and_true, List.append_nil, aops_nil, aops_plain, kont_at, aop_move, aop_assign, aop_buildSlice, aop_load, aop_binOp, aop_fieldAddr, aop_indexAddr, slTy2, SC0, aop_append, aop_call, evalE, getE, putE, getB, setB, St.put, setsB, AV.ofV, AV.blk, AV.bid, SC.len, SC.get, List.length_nil, List.length_cons, Nat.reduceEqDiff, Nat.reduceAdd, ↓reduceIte, true_and, and_true, decide_eq_true_eq, decide_eq_false_iff_not, Option.isSome, List.nil_append, List.cons_append, aInt_add, aBin_add, aInt_lss, aBin_lss, aField_ptr, aIdx_sl, aBuildL_some, aBuildS_some, aLoad_1b, aLoad_ep, aApp_some, aAppend_ref, aBinW_f, isW_tmp, isW_addc, Int.reduceLT, aBinW_dF, rng1, idx, cont, still, dies, lend, snocs, SC.snoc, SC.app, List.getD_cons_zero, Nat.reduceLT, Nat.reduceLeDiff, List.flatMap_nil, List.flatMap_cons, Nat.zero_add, BEq.rfl, sl3, ty3, un3, sl9, sl24, sl53, ty26, inR64, gs_impl_FormatFamily_32, at_impl_FormatSet, lend_impl_FormatSet, gs_impl_FormatFamily_38, lend_strings_Join, Int.toNat_natCast]
  have hln : (List.map bst (famL n (List.take i xs))).length = i := by rw [List.length_map, famL_len, List.length_take]; omega
  simp only [hln, ↓reduceIte]
  refine ⟨fun h1 => ?_, fun h1 => ?_⟩
  · refine ⟨by omega, ⟨trivial, by omega⟩, by omega, klp_of (i + 1) ?_ (by omega) (by omega)⟩
    rw [famL_s (by omega)]
    simp [St.conv, St.bf, getE, putE, getB, cv, cvL, cvB, idx, still, pack, lifts, liftOne, liftC, liftK, killB, cellsOfB, setB]
  · obtain rfl : i = xs.length := by omega
    rw [List.take_length] at hln ⊢
    simp only [kcode_at, kreg_at, bc_ret, afin_nil, cvE_some, resL, resV, cv, pack, kcall_nil, okA, outA, outU, deep, deepL, List.map_nil, List.all_nil, List.all_cons, BEq.rfl, Bool.and_true, List.append_nil, aops_nil, aops_plain, kont_at, aop_assign, evalE, getE, putE, St.put, setsB, SC.len, List.length_nil, List.length_cons, Nat.reduceEqDiff, Nat.reduceAdd, ↓reduceIte, and_true, List.nil_append, List.cons_append, Nat.zero_add, BEq.rfl, at_strings_Join, map_un, hln]
    have hj := @famJ_len n xs
    exact ⟨by omega, by omega⟩
def lend_impl_FormatFamily : List Nat := []
def sp_impl_FormatFamily : List AV → List Bx → (AV → List Bx → Prop) → Prop
  | [.agg [.int .i64 n, .sl none (.ints .i64 xs)]], [], K => (xs.length ≤ 1048576) ∧ K (.str (bst (fmtF n xs))) []
  | _, _, _ => False
theorem at_impl_FormatFamily {n : Int} {xs : List Int} {K : AV → List Bx → Prop} : sp_impl_FormatFamily [.agg [.int .i64 n, .sl none (.ints .i64 xs)]] [] K = ((xs.length ≤ 1048576) ∧ K (.str (bst (fmtF n xs))) []) := id rfl
theorem ok_impl_FormatFamily : ∀ args giv K, sp_impl_FormatFamily args giv K → ∃ r outs, ARuns Tryz.prog 6 args giv r outs ∧ K r outs := by
  intro args giv K hk
  unfold sp_impl_FormatFamily at hk
  split at hk
  · obtain ⟨hp1, hk⟩ := hk; exact ⟨_, _, runs_impl_FormatFamily _ _ hp1, hk⟩
  · exact hk.elim
theorem is_strings_genSplit : FnIs Tryz.prog 76 66 [.tmp 8] (Tryz.f76.body.getD .skip) := ⟨⟨Tryz.f76, by kernel_rfl, by kernel_rfl, by kernel_rfl, by kernel_rfl⟩, by kernel_rfl, by kernel_rfl⟩
def G_strings_genSplit : Gm := Gm.none
theorem G_strings_genSplit_ok : G_strings_genSplit.ok Tryz.prog := Gm.none_ok
theorem gm_strings_genSplit {r : List Oper} {n : Nat} : splB G_strings_genSplit r n = true := rfl
set_option maxHeartbeats 1000000 in
set_option maxRecDepth 100000 in
theorem runs_strings_genSplit (s : List UInt8) (c : UInt8) (sv n : Int) (hp1 : sv = 0) (hp2 : n = -1) (hp3 : s.length < 4294967281) : ARuns Tryz.prog 76 [.str (bst s), .str (bst [c]), .int .i64 sv, .int .i64 n] [] (.ref 0 (splitL c s).length) [.row 9 (.strs ((splitL c s).map bst))] := by
  subst hp1 hp2
  have hl := splitL_len c s
  have hcl := List.count_le_length (a := c) (l := s)
  have hsz : (bst s).size = s.length := bst_size s
  have key := ARuns_strs (P := Tryz.prog) (f := 76) (args := [.str (bst s), .str (bst [c]), .int .i64 0, .int .i64 (-1)]) (e := 9) (ss := (splitL c s).map bst) (c := s.count c + 1) (cs := Lib.cellsOf ((splitL c s).map bst) (s.count c + 1))
    is_strings_genSplit.callable (by rw [List.length_map]; omega) (by have : maxLen = 9223372036854775807 := rfl; omega) (Lib.cellsOf_size (by rw [List.length_map]; omega)) (fun i hi => by
      rw [List.length_map] at hi
      simp only [Lib.cellsOf, List.getElem?_toArray]
      rw [List.getElem?_append_left (by simpa using hi), List.getElem?_map, List.getElem?_eq_getElem (by simpa using hi), List.getD_eq_getElem?_getD, List.getElem?_eq_getElem (by simpa using hi)]
      rfl) (fun w vals F g hR => by
      simp only [RelL, Rel] at hR
      obtain ⟨_, _, rfl, rfl, _, _, rfl, rfl, _, _, rfl, rfl, _, _, rfl, rfl, rfl⟩ := hR
      have h := Any.strings_genSplit_core (P := Tryz.prog) Tryz.lays221 (by kernel_rfl) (bst s) (bst [c]) 0 (-1) (s.count c + 1) w (by omega) (by rw [bst_size]; exact Nat.le_refl _) (Nat.zero_le _)
        (fun x cc hx => by
          refine (Tryz.strings_Index_one x c _).mono ?_
          rintro e w' ⟨rfl, rfl⟩
          refine ⟨?_, rfl⟩
          show _ = Ending.returned (Value.int .i64 (Lib.index x.data.toList [c]))
          rw [Lib.index_one])
        (by
          refine (Tryz.strings_Count_one (bst s) c w).mono ?_
          rintro e w' ⟨rfl, rfl⟩
          refine ⟨?_, rfl⟩
          rw [countB_one]
          rfl)
        (by decide) (by decide) (by rw [if_pos (by decide), countB_one]; omega)
      rw [Nat.add_sub_cancel, splitB_one] at h
      exact h)
  rw [List.length_map] at key
  exact key
def lend_strings_genSplit : List Nat := []
def sp_strings_genSplit : List AV → List Bx → (AV → List Bx → Prop) → Prop
  | [.str ⟨⟨s⟩⟩, .str ⟨⟨[c]⟩⟩, .int .i64 sv, .int .i64 n], [], K => (sv = 0) ∧ (n = -1) ∧ (s.length < 4294967281) ∧ K (.ref 0 (splitL c s).length) [.row 9 (.strs ((splitL c s).map bst))]
  | _, _, _ => False
theorem at_strings_genSplit {s : List UInt8} {c : UInt8} {sv n : Int} {K : AV → List Bx → Prop} : sp_strings_genSplit [.str (bst s), .str (bst [c]), .int .i64 sv, .int .i64 n] [] K = ((sv = 0) ∧ (n = -1) ∧ (s.length < 4294967281) ∧ K (.ref 0 (splitL c s).length) [.row 9 (.strs ((splitL c s).map bst))]) := id rfl
theorem ok_strings_genSplit : ∀ args giv K, sp_strings_genSplit args giv K → ∃ r outs, ARuns Tryz.prog 76 args giv r outs ∧ K r outs := by
  intro args giv K hk
  unfold sp_strings_genSplit at hk
  split at hk
  · obtain ⟨hp1, hp2, hp3, hk⟩ := hk; exact ⟨_, _, runs_strings_genSplit _ _ _ _ hp1 hp2 hp3, hk⟩
  · exact hk.elim
theorem is_strings_Split : FnIs Tryz.prog 40 8 [.tmp 4] (Tryz.f40.body.getD .skip) := ⟨⟨Tryz.f40, by kernel_rfl, by kernel_rfl, by kernel_rfl, by kernel_rfl⟩, by kernel_rfl, by kernel_rfl⟩
def G_strings_Split : Gm := (Gm.none.add 76 lend_strings_genSplit sp_strings_genSplit)
theorem G_strings_Split_ok : G_strings_Split.ok Tryz.prog := (Gm.add_ok Gm.none_ok ok_strings_genSplit)
theorem gm_strings_Split {r : List Oper} {n : Nat} : splB G_strings_Split r n = true := rfl
theorem gs_strings_Split_76 : G_strings_Split.sp 76 = sp_strings_genSplit ∧ G_strings_Split.lend 76 = lend_strings_genSplit := ⟨rfl, rfl⟩
set_option maxHeartbeats 1000000 in
set_option maxRecDepth 100000 in
theorem runs_strings_Split (s : List UInt8) (c : UInt8) (hp1 : s.length < 4294967281) : ARuns Tryz.prog 40 [.str (bst s), .str (bst [c])] [] (.ref 0 (splitL c s).length) [.row 9 (.strs ((splitL c s).map bst))] := by
  refine ARuns_bc G_strings_Split_ok is_strings_Split (by simp) fun hl hlB => ?_
  simp only [kcode_at, kreg_at, bc_seq, bc_ret, bc_region, entryE, inPrm, entryB, Option.getD_some, acall_clo, kcall_nil, selOf, inArgs, inA, inL, okA, okBx, okC, outA, outU, outB, deep, deepL, List.map_nil, List.map_cons, List.all_nil, List.all_cons, BEq.rfl, Bool.and_true, List.append_nil, aops_nil, aops_plain, kont_at, aop_move, aop_assign, SC0, aop_call, evalE, getE, putE, getB, setB, St.put, setsB, AV.ofV, SC.len, List.length_nil, List.length_cons, Nat.reduceEqDiff, ↓reduceIte, true_and, and_true, List.nil_append, List.cons_append, mp_nil, lend, Nat.zero_add, BEq.rfl, sl3, sl9, gs_strings_Split_76, at_strings_genSplit, lend_strings_genSplit, Tryz.f40]
  exact ⟨hp1, afin_of [0] rfl rfl (by simp [St.conv, St.bf, getE, putE, getB, cv, cvL, cvB, idx, still, pack, lifts, liftOne, liftC, liftK, killB, cellsOfB, setB]) (by simp [St.conv, St.bf, getE, putE, getB, cv, cvL, cvB, idx, still, pack, lifts, liftOne, liftC, liftK, killB, cellsOfB, setB])⟩
def lend_strings_Split : List Nat := []
def sp_strings_Split : List AV → List Bx → (AV → List Bx → Prop) → Prop
  | [.str ⟨⟨s⟩⟩, .str ⟨⟨[c]⟩⟩], [], K => (s.length < 4294967281) ∧ K (.ref 0 (splitL c s).length) [.row 9 (.strs ((splitL c s).map bst))]
  | _, _, _ => False
theorem at_strings_Split {s : List UInt8} {c : UInt8} {K : AV → List Bx → Prop} : sp_strings_Split [.str (bst s), .str (bst [c])] [] K = ((s.length < 4294967281) ∧ K (.ref 0 (splitL c s).length) [.row 9 (.strs ((splitL c s).map bst))]) := id rfl
theorem ok_strings_Split : ∀ args giv K, sp_strings_Split args giv K → ∃ r outs, ARuns Tryz.prog 40 args giv r outs ∧ K r outs := by
  intro args giv K hk
  unfold sp_strings_Split at hk
  split at hk
  · obtain ⟨hp1, hk⟩ := hk; exact ⟨_, _, runs_strings_Split _ _ hp1, hk⟩
  · exact hk.elim
theorem is_impl_isElement : FnIs Tryz.prog 53 12 [.tmp 4] (Tryz.f53.body.getD .skip) := ⟨⟨Tryz.f53, by kernel_rfl, by kernel_rfl, by kernel_rfl, by kernel_rfl⟩, by kernel_rfl, by kernel_rfl⟩
def G_impl_isElement : Gm := Gm.none
theorem G_impl_isElement_ok : G_impl_isElement.ok Tryz.prog := Gm.none_ok
theorem gm_impl_isElement {r : List Oper} {n : Nat} : splB G_impl_isElement r n = true := rfl
set_option maxHeartbeats 1000000 in
set_option maxRecDepth 100000 in
theorem runs_impl_isElement (n e : Int) : ARuns Tryz.prog 53 [.int .i64 n, .int .i64 e] [] (.bool (inB e 0 (n - 1))) [] := by
  refine ARuns_bc G_impl_isElement_ok is_impl_isElement (by simp) fun hl hlB => ?_
  simp only [kcode_at, kreg_at, bc_seq, bc_ret, bc_region, afin_nil, cvE_some, resL, resV, cv, pack, entryE, inPrm, entryB, Option.getD_some, aops_nil, aops_plain, aops_guard, kont_at, yes_at, no_at, aop_move, aop_assign, aop_pick, aop_binOp, evalE, getE, putE, getB, St.put, setsB, nth, AV.ofV, List.length_nil, Nat.reduceEqDiff, ↓reduceIte, true_and, decide_eq_true_eq, decide_eq_false_iff_not, List.nil_append, List.cons_append, aGuardO_some, aGuard_tt, aGuard_tf, aGuard_tb, aPick_t, aPick_f, aInt_lss, aBin_lss, aInt_geq, aBin_geq, aBinW_f, isW_tmp, isW_geq, Nat.zero_add, un3, Tryz.f53]
  refine ⟨fun h => ?_, fun h => ?_⟩
  · congr 1; rw [Bool.eq_iff_iff]; simp [inB]; omega
  · congr 1; symm; simp [inB]; omega
def lend_impl_isElement : List Nat := []
def sp_impl_isElement : List AV → List Bx → (AV → List Bx → Prop) → Prop
  | [.int .i64 n, .int .i64 e], [], K => K (.bool (inB e 0 (n - 1))) []
  | _, _, _ => False
theorem at_impl_isElement {n e : Int} {K : AV → List Bx → Prop} : sp_impl_isElement [.int .i64 n, .int .i64 e] [] K = (K (.bool (inB e 0 (n - 1))) []) := id rfl
theorem ok_impl_isElement : ∀ args giv K, sp_impl_isElement args giv K → ∃ r outs, ARuns Tryz.prog 53 args giv r outs ∧ K r outs := by
  intro args giv K hk
  unfold sp_impl_isElement at hk
  split at hk
  · exact ⟨_, _, runs_impl_isElement _ _ , hk⟩
  · exact hk.elim
theorem is_strings_TrimPrefix : FnIs Tryz.prog 86 8 [.tmp 4] (Tryz.f86.body.getD .skip) := ⟨⟨Tryz.f86, by kernel_rfl, by kernel_rfl, by kernel_rfl, by kernel_rfl⟩, by kernel_rfl, by kernel_rfl⟩
def G_strings_TrimPrefix : Gm := Gm.none
theorem G_strings_TrimPrefix_ok : G_strings_TrimPrefix.ok Tryz.prog := Gm.none_ok
theorem gm_strings_TrimPrefix {r : List Oper} {n : Nat} : splB G_strings_TrimPrefix r n = true := rfl
set_option maxHeartbeats 1000000 in
set_option maxRecDepth 100000 in
theorem runs_strings_TrimPrefix (s p : List UInt8) : ARuns Tryz.prog 86 [.str (bst s), .str (bst p)] [] (.str (bst (Lib.trimPrefix s p))) [] := by
  refine ARuns_val is_strings_TrimPrefix.callable (v := .string (bst (Lib.trimPrefix s p))) (fun _ _ _ _ _ => by simp only [Rel]) fun w vals F g hF hR _ => ?_
  simp only [RelL, Rel] at hR
  obtain ⟨_, _, rfl, rfl, _, _, rfl, rfl, rfl⟩ := hR
  refine (Tryz.strings_TrimPrefix (bst s) (bst p) w).mono ?_
  rintro e w' ⟨rfl, rfl⟩
  exact ⟨rfl, RowKit.Below.refl _ _⟩
def lend_strings_TrimPrefix : List Nat := []
def sp_strings_TrimPrefix : List AV → List Bx → (AV → List Bx → Prop) → Prop
  | [.str ⟨⟨s⟩⟩, .str ⟨⟨p⟩⟩], [], K => K (.str (bst (Lib.trimPrefix s p))) []
  | _, _, _ => False
theorem at_strings_TrimPrefix {s p : List UInt8} {K : AV → List Bx → Prop} : sp_strings_TrimPrefix [.str (bst s), .str (bst p)] [] K = (K (.str (bst (Lib.trimPrefix s p))) []) := id rfl
theorem ok_strings_TrimPrefix : ∀ args giv K, sp_strings_TrimPrefix args giv K → ∃ r outs, ARuns Tryz.prog 86 args giv r outs ∧ K r outs := by
  intro args giv K hk
  unfold sp_strings_TrimPrefix at hk
  split at hk
  · exact ⟨_, _, runs_strings_TrimPrefix _ _ , hk⟩
  · exact hk.elim
theorem is_impl_ParseInt : FnIs Tryz.prog 64 53 [.tmp 2, .tmp 3] (Tryz.f64.body.getD .skip) := ⟨⟨Tryz.f64, by kernel_rfl, by kernel_rfl, by kernel_rfl, by kernel_rfl⟩, by kernel_rfl, by kernel_rfl⟩
def G_impl_ParseInt : Gm := ((Gm.none.add 86 lend_strings_TrimPrefix sp_strings_TrimPrefix).add 87 lend_impl_FormatInt sp_impl_FormatInt)
theorem G_impl_ParseInt_ok : G_impl_ParseInt.ok Tryz.prog := (Gm.add_ok (Gm.add_ok Gm.none_ok ok_strings_TrimPrefix) ok_impl_FormatInt)
theorem gm_impl_ParseInt {r : List Oper} {n : Nat} : splB G_impl_ParseInt r n = true := rfl
theorem gs_impl_ParseInt_86 : G_impl_ParseInt.sp 86 = sp_strings_TrimPrefix ∧ G_impl_ParseInt.lend 86 = lend_strings_TrimPrefix := ⟨rfl, rfl⟩
theorem gs_impl_ParseInt_87 : G_impl_ParseInt.sp 87 = sp_impl_FormatInt ∧ G_impl_ParseInt.lend 87 = lend_impl_FormatInt := ⟨rfl, rfl⟩
set_option maxHeartbeats 1000000 in
set_option maxRecDepth 100000 in
theorem runs_impl_ParseInt (s : List UInt8) (hp1 : s.length < 4294967281) : ARuns Tryz.prog 64 [.str (bst s)] [] (.tup [.int .i64 (piV s), .bool (piB s)]) [] := by
  refine ARuns_bc G_impl_ParseInt_ok is_impl_ParseInt (by simp) fun hl hlB => ?_
  simp only [kcode_at, kreg_at, bc_skip, bc_seq, bc_cond, bc_block, bc_ret, bc_region, acond_tmp, aCase_t, aCase_b, afin_nil, cvE_some, resL, resV, cv, cvL, pack, entryE, inPrm, entryB, Option.getD_some, acall_clo, kcall_nil, selOf, inArgs, inA, inL, okA, outA, outU, deep, deepL, List.map_nil, List.map_cons, List.all_nil, List.all_cons, BEq.rfl, Bool.and_true, List.append_nil, aops_nil, aops_plain, aops_guard, kont_at, yes_at, no_at, aop_move, aop_assign, aop_pick, aop_binOp, aop_len, SC0, aop_call, evalE, getE, putE, getB, St.put, setsB, nth, AV.ofV, SC.len, List.length_nil, Nat.reduceEqDiff, ↓reduceIte, true_and, and_true, decide_eq_true_eq, decide_eq_false_iff_not, List.nil_append, List.cons_append, aGuardO_some, aGuard_ft, aGuard_ff, aGuard_fb, aPick_t, aPick_f, aInt_lss, aBin_lss, aInt_gtr, aBin_gtr, aLen_str, aBinW_f, isW_lss, isW_gtr, lend, BEq.rfl, bst_mk, bst_size, un3, sl9, un9, gs_impl_ParseInt_86, at_strings_TrimPrefix, lend_strings_TrimPrefix, Tryz.f64]
  have e0 : Lib.trimPrefix s [45] = piD s := rfl
  rw [e0]
  have hle := piD_le s
  have hbad : ((piD s).length < 1 ∨ 9 < (piD s).length ∨ ∃ i, i < (piD s).length ∧ ¬ isD ((piD s).getD i 0) = true) → piB s = false := fun h => by
    rcases Bool.eq_false_or_eq_true (piB s) with hb | hb
    · exfalso
      obtain ⟨g1, g2, g3⟩ := pi_good hb
      rcases h with h | h | ⟨i, hi, h⟩
      · omega
      · omega
      · exact h (g3 _ (by rw [List.getD_eq_getElem?_getD, List.getElem?_eq_getElem hi]; exact List.getElem_mem hi))
    · exact hb
  refine ⟨fun h => piV_f (hbad (by omega)), fun h1 => ⟨fun h => piV_f (hbad (by omega)), fun h2 => ?_⟩⟩
  obtain ⟨hv, hB⟩ := pi_val (s := s) (by omega)
  have hnb := @pi_bd s
  generalize piD s = d at *
  refine bc_loop (fun i : Nat => i ≤ d.length)
    (fun i => ⟨[(0, .str (bst s)), (4, .str (bst d)), (5, .int .i64 (dvL (d.take i) 0)), (6, .int .i64 i)], []⟩) (fun i => d.length - i)
    [0, 4, 5, 6] [] 0 rfl (by simp [St.conv, St.bf, getE, putE, getB, cv, cvL, cvB, idx, still, pack, lifts, liftOne, liftC, liftK, killB, cellsOfB, setB]; simp [dvL]) (by omega) fun i hi => ?_
  simp only [kcode_at, kreg_at, bc_skip, bc_seq, bc_cond, bc_block, bc_exit, bc_ret, bc_region, lkX_cons, acond_tmp, aCase_t, aCase_b, afin_nil, cvE_some, resL, resV, cv, cvL, pack, acall_clo, kcall_nil, selOf, inArgs, inA, inL, okA, outA, outU, deep, deepL, AV.bid, List.map_nil, List.map_cons, List.all_nil, List.all_cons, BEq.rfl, Bool.and_true, List.append_nil, aops_nil, aops_plain, aops_guard, kont_at, yes_at, no_at, aop_move, aop_assign, aop_pick, aop_binOp, aop_unOp, aop_convert, aop_len, SC0, aop_call, evalE, getE, putE, getB, St.put, setsB, nth, AV.ofV, AV.bid, SC.len, List.length_nil, Nat.reduceEqDiff, ↓reduceIte, true_and, and_true, decide_eq_true_eq, Bool.not_eq_true', Bool.not_eq_false', decide_eq_false_iff_not, List.nil_append, List.cons_append, aGuardO_some, aGuard_ft, aGuard_ff, aGuard_fb, aPick_t, aPick_f, aInt_add, aBin_add, aInt_sub, aBin_sub, aInt_mul, aBin_mul, aInt_neq, aBin_neq, aInt_lss, aBin_lss, aInt_gtr, aBin_gtr, aUn_i, aConv_int, aLen_str, aBinW_f, isW_tmp, isW_mulc, isW_addc, isW_sub, isW_lss, isW_gtr, Int.reduceLT, aBinW_dF, cont, lend, BEq.rfl, aBin_sneq, aop_index, aIndex_str, aConvS_int, bst_size, bst_get, sEq_bst, sl3, un3, sl5, un5, un9, inR64, gs_impl_ParseInt_87, at_impl_FormatInt, lend_impl_FormatInt, inRu8, Int.toNat_natCast]
  have hbd := dvL_le (l := d.take i) (k := 11) (by rw [List.length_take]; omega) (by omega)
  have hT := dvL_t (l := d) (i := i)
  have hu := (d.getD i 0).toNat_lt
  have hnd : ((d.getD i 0).toNat < 48 ∨ 57 < (d.getD i 0).toNat) → i < d.length → piB s = false := fun h hl => hbad (.inr (.inr ⟨i, hl, fun hd => by have := isD_iff.1 hd; omega⟩))
  have fin : ∀ m : Int, m = piN s → (¬ Lib.itoa m = s → AV.tup [AV.int IntKind.i64 0, AV.bool false] = AV.tup [AV.int IntKind.i64 (piV s), AV.bool (piB s)]) ∧
      (Lib.itoa m = s → AV.tup [AV.int IntKind.i64 m, AV.bool true] = AV.tup [AV.int IntKind.i64 (piV s), AV.bool (piB s)]) := fun m hm => by
    subst hm
    refine ⟨fun h => piV_f (by rw [hB, decide_eq_false h]), fun h => ?_⟩
    have e : piB s = true := by rw [hB, decide_eq_true h]
    unfold piV; rw [e]; rfl
  refine ⟨fun g1 => ⟨by omega, fun g2 => piV_f (hnd (by omega) (by omega)), fun g2 => ⟨by omega, fun g3 => piV_f (hnd (by omega) (by omega)), fun g3 => ?_⟩⟩, fun g1 => ?_⟩
  · have hd : isD (d.getD i 0) = true := isD_iff.2 (by omega)
    refine ⟨by omega, by omega, by omega, by omega, by omega, by omega, klp_of (i + 1) ?_ (by omega) (by omega)⟩
    rw [hT (by omega) hd]
    simp [St.conv, St.bf, getE, putE, getB, cv, cvL, cvB, idx, still, pack, lifts, liftOne, liftC, liftK, killB, cellsOfB, setB]
  · have he : d.take i = d := List.take_of_length_le (by omega)
    rw [he] at hbd ⊢
    refine ⟨fun g2 => ⟨by omega, by omega, fin _ ?_⟩, fun g2 => ⟨by omega, fin _ ?_⟩⟩
    · rw [hv, if_neg (by omega)]
    · rw [hv, if_pos (by omega)]
def lend_impl_ParseInt : List Nat := []
def sp_impl_ParseInt : List AV → List Bx → (AV → List Bx → Prop) → Prop
  | [.str ⟨⟨s⟩⟩], [], K => (s.length < 4294967281) ∧ K (.tup [.int .i64 (piV s), .bool (piB s)]) []
  | _, _, _ => False
theorem at_impl_ParseInt {s : List UInt8} {K : AV → List Bx → Prop} : sp_impl_ParseInt [.str (bst s)] [] K = ((s.length < 4294967281) ∧ K (.tup [.int .i64 (piV s), .bool (piB s)]) []) := id rfl
theorem ok_impl_ParseInt : ∀ args giv K, sp_impl_ParseInt args giv K → ∃ r outs, ARuns Tryz.prog 64 args giv r outs ∧ K r outs := by
  intro args giv K hk
  unfold sp_impl_ParseInt at hk
  split at hk
  · obtain ⟨hp1, hk⟩ := hk; exact ⟨_, _, runs_impl_ParseInt _ hp1, hk⟩
  · exact hk.elim
theorem is_impl_ParseSet : FnIs Tryz.prog 28 48 [.tmp 4, .tmp 5] (Tryz.f28.body.getD .skip) := ⟨⟨Tryz.f28, by kernel_rfl, by kernel_rfl, by kernel_rfl, by kernel_rfl⟩, by kernel_rfl, by kernel_rfl⟩
def G_impl_ParseSet : Gm := (((((Gm.none.add 32 lend_impl_FormatSet sp_impl_FormatSet).add 39 lend_impl_within sp_impl_within).add 40 lend_strings_Split sp_strings_Split).add 53 lend_impl_isElement sp_impl_isElement).add 64 lend_impl_ParseInt sp_impl_ParseInt)
theorem G_impl_ParseSet_ok : G_impl_ParseSet.ok Tryz.prog := (Gm.add_ok (Gm.add_ok (Gm.add_ok (Gm.add_ok (Gm.add_ok Gm.none_ok ok_impl_FormatSet) ok_impl_within) ok_strings_Split) ok_impl_isElement) ok_impl_ParseInt)
theorem gm_impl_ParseSet {r : List Oper} {n : Nat} : splB G_impl_ParseSet r n = true := rfl
theorem gs_impl_ParseSet_32 : G_impl_ParseSet.sp 32 = sp_impl_FormatSet ∧ G_impl_ParseSet.lend 32 = lend_impl_FormatSet := ⟨rfl, rfl⟩
theorem gs_impl_ParseSet_39 : G_impl_ParseSet.sp 39 = sp_impl_within ∧ G_impl_ParseSet.lend 39 = lend_impl_within := ⟨rfl, rfl⟩
theorem gs_impl_ParseSet_40 : G_impl_ParseSet.sp 40 = sp_strings_Split ∧ G_impl_ParseSet.lend 40 = lend_strings_Split := ⟨rfl, rfl⟩
theorem gs_impl_ParseSet_53 : G_impl_ParseSet.sp 53 = sp_impl_isElement ∧ G_impl_ParseSet.lend 53 = lend_impl_isElement := ⟨rfl, rfl⟩
theorem gs_impl_ParseSet_64 : G_impl_ParseSet.sp 64 = sp_impl_ParseInt ∧ G_impl_ParseSet.lend 64 = lend_impl_ParseInt := ⟨rfl, rfl⟩
set_option maxHeartbeats 1000000 in
set_option maxRecDepth 100000 in
theorem runs_impl_ParseSet (n : Int) (s : List UInt8) (hp1 : s.length < 4294967281) : ARuns Tryz.prog 28 [.int .i64 n, .str (bst s)] [] (.tup [.int .i64 (psV n s), .bool (psB n s)]) [] := by
  refine ARuns_bc G_impl_ParseSet_ok is_impl_ParseSet (by simp) fun hl hlB => ?_
  simp only [kcode_at, kreg_at, bc_skip, bc_seq, bc_cond, bc_block, bc_ret, bc_region, acond_tmp, aCase_b, afin_nil, cvE_some, resL, resV, cv, cvL, pack, entryE, inPrm, entryB, Option.getD_some, acall_clo, kcall_nil, selOf, inArgs, inA, inL, okA, okBx, okC, outA, outU, outB, deep, deepL, List.map_nil, List.map_cons, List.all_nil, List.all_cons, BEq.rfl, Bool.and_true, List.append_nil, aops_nil, aops_plain, kont_at, aop_move, aop_assign, aop_binOp, aop_unOp, aop_len, SC0, aop_call, evalE, getE, putE, getB, setB, St.put, setsB, AV.ofV, SC.len, List.length_nil, List.length_cons, Nat.reduceEqDiff, ↓reduceIte, true_and, and_true, decide_eq_true_eq, Bool.not_eq_true', Bool.not_eq_false', decide_eq_false_iff_not, List.nil_append, List.cons_append, aUn_b, aLen_ref, aBinW_f, isW_eql, mp_nil, lend, Nat.zero_add, BEq.rfl, aBin_seql, bst_mk, sEq_bst, sl3, sl9, un9, un53, gs_impl_ParseSet_39, at_impl_within, lend_impl_within, gs_impl_ParseSet_40, at_strings_Split, lend_strings_Split, Tryz.f28]
  refine ⟨fun h => ps_out h, fun hn => ⟨fun h => (ps_leaf hn (psQ_d h)).2 (by rw [fmtS_0 hn, h]), fun h => ⟨by omega, ?_⟩⟩⟩
  have hq := psQ_n (n := n) h
  have hpl := splitL_mem 44 s
  have hct := splitL_len 44 s
  have hcl := List.count_le_length (a := (44 : UInt8)) (l := s)
  have hn6 := hn
  rw [inB_t] at hn6
  generalize splitL 44 s = ps at *
  refine bc_loop (fun y : Nat × Int => y.1 ≤ ps.length ∧ foldO (psO n) y.2 (ps.drop y.1) = psQ n s)
    (fun y => ⟨[(0, .int .i64 n), (1, .str (bst s)), (6, .int .i64 y.2), (17, .ref 0 ps.length), (18, .int .i64 ps.length), (19, .int .i64 y.1)], [.row 9 (.strs (ps.map bst))]⟩) (fun y => ps.length - y.1)
    [0, 1, 6, 17, 18, 19] [0] (0, 0) rfl (by simp [St.conv, St.bf, getE, putE, getB, cv, cvL, cvB, idx, still, pack, lifts, liftOne, liftC, liftK, killB, cellsOfB, setB]) ⟨by omega, by rw [hq]; rfl⟩ fun y hy => ?_
  simp only [kcode_at, kreg_at, bc_skip, bc_seq, bc_cond, bc_block, bc_exit, bc_ret, bc_region, lkX_cons, acond_tmp, aCase_t, aCase_b, afin_nil, cvE_some, resL, resV, cv, cvL, pack, acall_clo, kcall_nil, selOf, inArgs, inA, inL, okA, okL, outA, outL, outU, deep, deepL, AV.bid, List.map_nil, List.map_cons, List.all_nil, List.all_cons, BEq.rfl, Bool.and_true, List.append_nil, aops_nil, aops_plain, aops_guard, kont_at, yes_at, no_at, aop_move, aop_assign, aop_pick, aop_load, aop_binOp, aop_unOp, aop_convert, aop_indexAddr, aop_extract, SC0, aop_call, evalE, getE, putE, getB, St.put, setsB, nth, AV.ofV, AV.blk, AV.bid, SC.len, SC.get, List.length_nil, List.length_cons, Nat.reduceEqDiff, Nat.reduceAdd, ↓reduceIte, true_and, and_true, decide_eq_true_eq, Bool.not_eq_true', Bool.not_eq_false', decide_eq_false_iff_not, Option.isSome, List.nil_append, List.cons_append, aGuardO_some, aGuard_ft, aGuard_ff, aGuard_fb, aPick_t, aPick_f, aInt_add, aBin_add, aInt_or, aBin_or, aInt_lss, aBin_lss, aBin_shl, aShift_shl, aUn_b, aConv_int, aIdx_row, aExtr_tup, aLoad_rr, aBinW_f, isW_tmp, isW_addc, Int.reduceLT, aBinW_dF, cont, lend, List.getD_cons_zero, List.getD_cons_succ, Nat.reduceLT, Nat.zero_add, BEq.rfl, aBin_sneq, aConvS_int, bst_mk, sEq_bst, bst_getD, sl3, un3, un67, sl9, ty9, un9, sl53, inR64, inRu64, gs_impl_ParseSet_32, at_impl_FormatSet, lend_impl_FormatSet, gs_impl_ParseSet_53, at_impl_isElement, lend_impl_isElement, gs_impl_ParseSet_64, at_impl_ParseInt, lend_impl_ParseInt, Int.toNat_natCast, List.length_map]
  obtain ⟨hy1, hy2⟩ := hy
  refine ⟨fun h1 => ?_, fun h1 => ?_⟩
  · have hst := foldO_s (f := psO n) (x := y.2) (ps := ps) (i := y.1) (by omega)
    have hpm : ps.getD y.1 [] ∈ ps := by rw [List.getD_eq_getElem?_getD, List.getElem?_eq_getElem (by omega)]; exact List.getElem_mem _
    have hpl := hpl _ hpm
    rw [hst] at hy2
    generalize ps.getD y.1 [] = p at *
    refine ⟨by omega, by omega, by omega, fun h2 => ps_none ?_, fun h2 => ⟨fun h3 => ps_none ?_, fun h3 => ?_⟩⟩
    · rw [← hy2, psO_f1 h2]
    · rw [← hy2, psO_f2 h3]
    · rw [psO_t h2 h3] at hy2
      rw [inB_t] at h3
      have hpw := pw6 (e := piV p) (by omega) (by omega)
      simp only [IntKind.bits]
      refine ⟨by omega, by omega, by omega, klp_of (y.1 + 1, bor .i64 y.2 (1 * 2 ^ (piV p).toNat)) (by simp [St.conv, St.bf, getE, putE, getB, cv, cvL, cvB, idx, still, pack, lifts, liftOne, liftC, liftK, killB, cellsOfB, setB]) ⟨by omega, hy2⟩ (by simp only; omega)⟩
  · refine ps_leaf hn ?_
    rw [← hy2, List.drop_of_length_le (by omega)]
    rfl
def lend_impl_ParseSet : List Nat := []
def sp_impl_ParseSet : List AV → List Bx → (AV → List Bx → Prop) → Prop
  | [.int .i64 n, .str ⟨⟨s⟩⟩], [], K => (s.length < 4294967281) ∧ K (.tup [.int .i64 (psV n s), .bool (psB n s)]) []
  | _, _, _ => False
theorem at_impl_ParseSet {n : Int} {s : List UInt8} {K : AV → List Bx → Prop} : sp_impl_ParseSet [.int .i64 n, .str (bst s)] [] K = ((s.length < 4294967281) ∧ K (.tup [.int .i64 (psV n s), .bool (psB n s)]) []) := id rfl
theorem ok_impl_ParseSet : ∀ args giv K, sp_impl_ParseSet args giv K → ∃ r outs, ARuns Tryz.prog 28 args giv r outs ∧ K r outs := by
  intro args giv K hk
  unfold sp_impl_ParseSet at hk
  split at hk
  · obtain ⟨hp1, hk⟩ := hk; exact ⟨_, _, runs_impl_ParseSet _ _ hp1, hk⟩
  · exact hk.elim
theorem is_impl_ParseFamily : FnIs Tryz.prog 7 48 [ResultVar.cell 4 26, .tmp 5] (Tryz.f7.body.getD .skip) := ⟨⟨Tryz.f7, by kernel_rfl, by kernel_rfl, by kernel_rfl, by kernel_rfl⟩, by kernel_rfl, by kernel_rfl⟩
def G_impl_ParseFamily : Gm := ((((Gm.none.add 10 lend_impl_IsFamily sp_impl_IsFamily).add 28 lend_impl_ParseSet sp_impl_ParseSet).add 39 lend_impl_within sp_impl_within).add 40 lend_strings_Split sp_strings_Split)
theorem G_impl_ParseFamily_ok : G_impl_ParseFamily.ok Tryz.prog := (Gm.add_ok (Gm.add_ok (Gm.add_ok (Gm.add_ok Gm.none_ok ok_impl_IsFamily) ok_impl_ParseSet) ok_impl_within) ok_strings_Split)
theorem gm_impl_ParseFamily {r : List Oper} {n : Nat} : splB G_impl_ParseFamily r n = true := rfl
theorem gs_impl_ParseFamily_10 : G_impl_ParseFamily.sp 10 = sp_impl_IsFamily ∧ G_impl_ParseFamily.lend 10 = lend_impl_IsFamily := ⟨rfl, rfl⟩
theorem gs_impl_ParseFamily_28 : G_impl_ParseFamily.sp 28 = sp_impl_ParseSet ∧ G_impl_ParseFamily.lend 28 = lend_impl_ParseSet := ⟨rfl, rfl⟩
theorem gs_impl_ParseFamily_39 : G_impl_ParseFamily.sp 39 = sp_impl_within ∧ G_impl_ParseFamily.lend 39 = lend_impl_within := ⟨rfl, rfl⟩
theorem gs_impl_ParseFamily_40 : G_impl_ParseFamily.sp 40 = sp_strings_Split ∧ G_impl_ParseFamily.lend 40 = lend_strings_Split := ⟨rfl, rfl⟩
set_option maxHeartbeats 1000000 in
set_option maxRecDepth 100000 in
theorem runs_impl_ParseFamily (n : Int) (s : List UInt8) (hp1 : s.length < 1048576) : ARuns Tryz.prog 7 [.int .i64 n, .str (bst s)] [] (.tup [.agg [.int .i64 (pfN n s), .ref 0 (pfL n s).length], .bool (pfB n s)]) [.row 3 (.ints .i64 (pfL n s))] := by
  refine ARuns_bc G_impl_ParseFamily_ok is_impl_ParseFamily (by simp) fun hl hlB => ?_
  simp only [kcode_at, kreg_at, bc_skip, bc_seq, bc_cond, bc_block, bc_ret, bc_region, acond_tmp, aCase_b, entryE, inPrm, entryB, Option.getD_some, acall_clo, kcall_nil, selOf, inArgs, inA, inL, okA, okBx, okC, outA, outU, outB, deep, deepL, List.map_nil, List.map_cons, List.all_nil, List.all_cons, BEq.rfl, Bool.and_true, List.append_nil, aops_nil, aops_plain, kont_at, aop_move, aop_assign, aop_alloc, aop_build, aop_load, aop_store, aop_binOp, aop_unOp, aop_len, SC0, aop_call, evalE, getE, putE, getB, setB, St.put, setsB, AV.ofV, AV.blk, AV.one, SC.len, List.length_nil, List.length_cons, Nat.reduceEqDiff, Nat.reduceAdd, ↓reduceIte, true_and, and_true, decide_eq_true_eq, Bool.not_eq_true', Bool.not_eq_false', decide_eq_false_iff_not, List.nil_append, List.cons_append, aAlloc_flat, aBuild_flat, aUn_b, aLen_ref, aLoad_fb, aStore_f, aBinW_f, isW_eql, mp_nil, lend, fillA, List.set_cons_zero, Nat.reduceLT, Nat.zero_add, BEq.rfl, aBin_seql, bst_mk, sEq_bst, sl3, sl9, un9, un53, ty26, gs_impl_ParseFamily_39, at_impl_within, lend_impl_within, gs_impl_ParseFamily_40, at_strings_Split, lend_strings_Split, Tryz.f7]
  refine ⟨fun hn => ?_, fun hn => ⟨fun h => ?_, fun h => ⟨by omega, ?_⟩⟩⟩
  · have hB := pf_out (s := s) hn
    rw [(pf_f hB).1, (pf_f hB).2, hB]
    exact afin_ofN [(1000001, 3, .ints .i64 [])] [1] rfl rfl (by simp only [resL, resV, resC, getE, putE, getB, setB, lifts, liftOne, liftC, liftK, killB, cellsOfB, List.length_cons, List.length_nil, List.nil_append, List.cons_append, Nat.reduceAdd, Nat.reduceEqDiff, ↓reduceIte, ty3, ty67, ty120, ty118, ty5, ty2, ty21, ty4, ty9, ty24, ty22, ty53, ty26, ty81]; rfl) (by simp [St.conv, St.bf, getE, putE, getB, cv, cvL, cvB, idx, still, pack, lifts, liftOne, liftC, liftK, killB, cellsOfB, setB]) (by simp [St.conv, St.bf, getE, putE, getB, cv, cvL, cvB, idx, still, pack, lifts, liftOne, liftC, liftK, killB, cellsOfB, setB])
  · obtain ⟨h1, h2⟩ := pf_some (pfQ_d (n := n) h)
    obtain ⟨h3, h4⟩ := h2 (famB_nil hn)
    rw [h1, h3, h4, famB_nil hn]
    exact afin_ofN [(1000001, 3, .ints .i64 [])] [2] rfl rfl (by simp only [resL, resV, resC, getE, putE, getB, setB, lifts, liftOne, liftC, liftK, killB, cellsOfB, List.length_cons, List.length_nil, List.nil_append, List.cons_append, Nat.reduceAdd, Nat.reduceEqDiff, ↓reduceIte, ty3, ty67, ty120, ty118, ty5, ty2, ty21, ty4, ty9, ty24, ty22, ty53, ty26, ty81]; rfl) (by simp [St.conv, St.bf, getE, putE, getB, cv, cvL, cvB, idx, still, pack, lifts, liftOne, liftC, liftK, killB, cellsOfB, setB]) (by simp [St.conv, St.bf, getE, putE, getB, cv, cvL, cvB, idx, still, pack, lifts, liftOne, liftC, liftK, killB, cellsOfB, setB])
  have hq := pfQ_n (n := n) h
  have hpl := splitL_mem 124 s
  have hct := splitL_len 124 s
  have hcl := List.count_le_length (a := (124 : UInt8)) (l := s)
  generalize splitL 124 s = ps at *
  refine bc_loopN [(1001001, 3, .ints .i64 [])] (fun y : Nat × List Int => y.1 ≤ ps.length ∧ y.2.length = y.1 ∧ foldO (pfO n) y.2 (ps.drop y.1) = pfQ n s)
    (fun y => ⟨[(0, .int .i64 n), (4, .ptr 0 0), (6, .ptr 1 0), (21, .ref 2 ps.length), (22, .int .i64 ps.length), (23, .int .i64 y.1)],
      [.box [.int .i64 0, .nil], .box [.int .i64 n, .ref 3 y.2.length], .row 9 (.strs (ps.map bst)), .row 3 (.ints .i64 y.2)]⟩) (fun y => ps.length - y.1)
    [0, 4, 6, 21, 22, 23] [0, 1, 2, 3] (0, []) rfl rfl (by simp [St.conv, St.bf, getE, putE, getB, cv, cvL, cvB, idx, still, pack, lifts, liftOne, liftC, liftK, killB, cellsOfB, setB]) ⟨by omega, by simp, by rw [hq]; rfl⟩ fun y hy => ?_
  obtain ⟨i, xs⟩ := y
  obtain ⟨hy1, hy2, hy3⟩ := hy
  simp only at hy1 hy2 hy3
  simp only [kcode_at, kreg_at, bc_skip, bc_seq, bc_cond, bc_block, bc_exit, bc_ret, bc_region, lkX_cons, acond_tmp, aCase_b, acall_clo, kcall_nil, selOf, inArgs, inA, inL, okA, okL, outA, outL, outU, deep, deepL, AV.bid, List.map_nil, List.map_cons, List.all_nil, List.all_cons, BEq.rfl, Bool.and_true, List.append_nil, aops_nil, aops_plain, kont_at, aop_move, aop_assign, aop_build, aop_buildSlice, aop_load, aop_store, aop_binOp, aop_unOp, aop_fieldAddr, aop_indexAddr, aop_extract, slTy2, SC0, aop_append, aop_call, evalE, getE, putE, getB, setB, St.put, setsB, AV.ofV, AV.blk, AV.bid, AV.one, SC.len, SC.get, List.length_nil, List.length_cons, Nat.reduceEqDiff, Nat.reduceAdd, ↓reduceIte, true_and, and_true, decide_eq_true_eq, Bool.not_eq_true', Bool.not_eq_false', decide_eq_false_iff_not, Option.isSome, List.nil_append, List.cons_append, aBuild_flat, aInt_add, aBin_add, aInt_lss, aBin_lss, aUn_b, aField_ptr, aIdx_row, aExtr_tup, aBuildL_some, aBuildS_some, aLoad_1b, aLoad_fb, aLoad_rr, aStore_1, aStore_f, aApp_some, aAppend_ref, aBinW_f, isW_tmp, isW_addc, Int.reduceLT, aBinW_dF, rng1, idx, cont, still, dies, lend, snocs, SC.snoc, SC.app, fillA, List.getD_cons_zero, List.getD_cons_succ, List.set_cons_zero, List.set_cons_succ, Nat.reduceLT, Nat.reduceLeDiff, List.flatMap_nil, List.flatMap_cons, Nat.zero_add, BEq.rfl, bst_mk, bst_getD, sl3, un3, sl9, ty9, sl24, ty24, sl53, ty26, sl26, inR64, gs_impl_ParseFamily_10, at_impl_IsFamily, lend_impl_IsFamily, gs_impl_ParseFamily_28, at_impl_ParseSet, lend_impl_ParseSet, Int.toNat_natCast, List.length_map]
  refine ⟨fun h1 => ⟨by omega, by omega, ?_⟩, fun h1 => ?_⟩
  · have hst := foldO_s (f := pfO n) (x := xs) (ps := ps) (i := i) (by omega)
    have hpm : ps.getD i [] ∈ ps := by rw [List.getD_eq_getElem?_getD, List.getElem?_eq_getElem (by omega)]; exact List.getElem_mem _
    have hpl := hpl _ hpm
    rw [hst] at hy3
    generalize ps.getD i [] = p at *
    refine ⟨by omega, fun h2 => ?_, fun h2 => ?_⟩
    · rw [pfO_f h2] at hy3
      have hB := pf_none hy3.symm
      rw [(pf_f hB).1, (pf_f hB).2, hB]
      exact afin_ofN [(1000001, 3, .ints .i64 [])] [4] rfl rfl (by simp only [resL, resV, resC, getE, putE, getB, setB, lifts, liftOne, liftC, liftK, killB, cellsOfB, List.length_cons, List.length_nil, List.nil_append, List.cons_append, Nat.reduceAdd, Nat.reduceEqDiff, ↓reduceIte, ty3, ty67, ty120, ty118, ty5, ty2, ty21, ty4, ty9, ty24, ty22, ty53, ty26, ty81]; rfl) (by simp [St.conv, St.bf, getE, putE, getB, cv, cvL, cvB, idx, still, pack, lifts, liftOne, liftC, liftK, killB, cellsOfB, setB]) (by simp [St.conv, St.bf, getE, putE, getB, cv, cvL, cvB, idx, still, pack, lifts, liftOne, liftC, liftK, killB, cellsOfB, setB])
    · rw [pfO_t h2] at hy3
      refine ⟨by omega, by omega, klp_of (i + 1, xs ++ [psV n p]) (by simp only [List.length_append, List.length_singleton]; simp [St.conv, St.bf, getE, putE, getB, cv, cvL, cvB, idx, still, pack, lifts, liftOne, liftC, liftK, killB, cellsOfB, setB]) ⟨by simp only; omega, by simp only [List.length_append, List.length_singleton]; omega, hy3⟩ (by simp only; omega)⟩
  · rw [List.drop_of_length_le (by omega)] at hy3
    obtain ⟨e1, e2⟩ := pf_some (n := n) (s := s) (xs := xs) hy3.symm
    refine ⟨fun h2 => ?_, fun h2 => ?_⟩
    · have hB : pfB n s = false := by rw [e1, h2]
      rw [(pf_f hB).1, (pf_f hB).2, hB]
      exact afin_ofN [(1000001, 3, .ints .i64 [])] [4] rfl rfl (by simp only [resL, resV, resC, getE, putE, getB, setB, lifts, liftOne, liftC, liftK, killB, cellsOfB, List.length_cons, List.length_nil, List.nil_append, List.cons_append, Nat.reduceAdd, Nat.reduceEqDiff, ↓reduceIte, ty3, ty67, ty120, ty118, ty5, ty2, ty21, ty4, ty9, ty24, ty22, ty53, ty26, ty81]; rfl) (by simp [St.conv, St.bf, getE, putE, getB, cv, cvL, cvB, idx, still, pack, lifts, liftOne, liftC, liftK, killB, cellsOfB, setB]) (by simp [St.conv, St.bf, getE, putE, getB, cv, cvL, cvB, idx, still, pack, lifts, liftOne, liftC, liftK, killB, cellsOfB, setB])
    · obtain ⟨e3, e4⟩ := e2 h2
      rw [e1, e3, e4, h2]
      exact afin_of [3] rfl (by simp only [resL, resV, resC, getE, putE, getB, setB, lifts, liftOne, liftC, liftK, killB, cellsOfB, List.length_cons, List.length_nil, List.nil_append, List.cons_append, Nat.reduceAdd, Nat.reduceEqDiff, ↓reduceIte, ty3, ty67, ty120, ty118, ty5, ty2, ty21, ty4, ty9, ty24, ty22, ty53, ty26, ty81]; rfl) (by simp [St.conv, St.bf, getE, putE, getB, cv, cvL, cvB, idx, still, pack, lifts, liftOne, liftC, liftK, killB, cellsOfB, setB]) (by simp [St.conv, St.bf, getE, putE, getB, cv, cvL, cvB, idx, still, pack, lifts, liftOne, liftC, liftK, killB, cellsOfB, setB])
def lend_impl_ParseFamily : List Nat := []
def sp_impl_ParseFamily : List AV → List Bx → (AV → List Bx → Prop) → Prop
  | [.int .i64 n, .str ⟨⟨s⟩⟩], [], K => (s.length < 1048576) ∧ K (.tup [.agg [.int .i64 (pfN n s), .ref 0 (pfL n s).length], .bool (pfB n s)]) [.row 3 (.ints .i64 (pfL n s))]
  | _, _, _ => False
theorem at_impl_ParseFamily {n : Int} {s : List UInt8} {K : AV → List Bx → Prop} : sp_impl_ParseFamily [.int .i64 n, .str (bst s)] [] K = ((s.length < 1048576) ∧ K (.tup [.agg [.int .i64 (pfN n s), .ref 0 (pfL n s).length], .bool (pfB n s)]) [.row 3 (.ints .i64 (pfL n s))]) := id rfl
theorem ok_impl_ParseFamily : ∀ args giv K, sp_impl_ParseFamily args giv K → ∃ r outs, ARuns Tryz.prog 7 args giv r outs ∧ K r outs := by
  intro args giv K hk
  unfold sp_impl_ParseFamily at hk
  split at hk
  · obtain ⟨hp1, hk⟩ := hk; exact ⟨_, _, runs_impl_ParseFamily _ _ hp1, hk⟩
  · exact hk.elim
theorem is_spec_l1In : FnIs Tryz.prog 41 15 [.tmp 6] (Tryz.f41.body.getD .skip) := ⟨⟨Tryz.f41, by kernel_rfl, by kernel_rfl, by kernel_rfl, by kernel_rfl⟩, by kernel_rfl, by kernel_rfl⟩
def G_spec_l1In : Gm := Gm.none
theorem G_spec_l1In_ok : G_spec_l1In.ok Tryz.prog := Gm.none_ok
theorem gm_spec_l1In {r : List Oper} {n : Nat} : splB G_spec_l1In r n = true := rfl
set_option maxHeartbeats 1000000 in
set_option maxRecDepth 100000 in
theorem runs_spec_l1In (n l m : Int) : ARuns Tryz.prog 41 [.int .i64 n, .int .i64 l, .int .i64 m] [] (.bool (inB n l m)) [] := by
  refine ARuns_bc G_spec_l1In_ok is_spec_l1In (by simp) fun hl hlB => ?_
  simp only [kcode_at, kreg_at, bc_seq, bc_ret, bc_region, afin_nil, cvE_some, resL, resV, cv, pack, entryE, inPrm, entryB, Option.getD_some, aops_nil, aops_plain, aops_guard, kont_at, yes_at, no_at, aop_move, aop_assign, aop_pick, aop_binOp, evalE, getE, putE, getB, St.put, setsB, nth, AV.ofV, List.length_nil, Nat.reduceEqDiff, Nat.reduceAdd, ↓reduceIte, true_and, decide_eq_true_eq, decide_eq_false_iff_not, List.nil_append, List.cons_append, aGuardO_some, aGuard_tt, aGuard_tf, aGuard_tb, aPick_t, aPick_f, aInt_leq, aBin_leq, aInt_geq, aBin_geq, aBinW_f, isW_tmp, Nat.zero_add, un3, Tryz.f41]
  refine ⟨fun h => ?_, fun h => ?_⟩ <;> simp [h, inB]
def lend_spec_l1In : List Nat := []
def sp_spec_l1In : List AV → List Bx → (AV → List Bx → Prop) → Prop
  | [.int .i64 n, .int .i64 l, .int .i64 m], [], K => K (.bool (inB n l m)) []
  | _, _, _ => False
theorem at_spec_l1In {n l m : Int} {K : AV → List Bx → Prop} : sp_spec_l1In [.int .i64 n, .int .i64 l, .int .i64 m] [] K = (K (.bool (inB n l m)) []) := id rfl
theorem ok_spec_l1In : ∀ args giv K, sp_spec_l1In args giv K → ∃ r outs, ARuns Tryz.prog 41 args giv r outs ∧ K r outs := by
  intro args giv K hk
  unfold sp_spec_l1In at hk
  split at hk
  · exact ⟨_, _, runs_spec_l1In _ _ _ , hk⟩
  · exact hk.elim
end Go.Proofs.YtbookhehpebcmaaGreatDoor
