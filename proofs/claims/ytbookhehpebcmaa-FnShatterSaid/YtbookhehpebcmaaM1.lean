import Derived.Test.YtbookhehpebcmaaM0
namespace Go.Proofs.Ytbookhehpebcmaa
open AM
set_option linter.unusedSimpArgs false
set_option linter.unusedVariables false

theorem kk_all (K : Nat) (h : 1 ≤ K ∧ K ≤ 6) : ckA (sbL K) ((kss K).map subs) (kss K).length (0, 0) = true ∧ sbOk (sbL K) = true ∧ (kss K).length ≤ 20 := by
  have hl : ∀ {T : List Nat} {L : List (List Nat)}, sbL K = T ∧ (kss K).map subs = L ∧ sbOk T = true → L.length ≤ 20 → ckA T L L.length (0, 0) = true → ckA (sbL K) ((kss K).map subs) (kss K).length (0, 0) = true ∧ sbOk (sbL K) = true ∧ (kss K).length ≤ 20 := by
    rintro T L ⟨h1, h2, h3⟩ h4 h5
    have e : (kss K).length = L.length := by rw [← h2, List.length_map]
    rw [h1, h2, e]
    exact ⟨h5, h3, h4⟩
  have hK : K = 1 ∨ K = 2 ∨ K = 3 ∨ K = 4 ∨ K = 5 ∨ K = 6 := by omega
  rcases hK with rfl | rfl | rfl | rfl | rfl | rfl
  · exact hl tk1_t (by decide) kk_1
  · exact hl tk2_t (by decide) kk_2
  · exact hl tk3_t (by decide) kk_3
  · exact hl tk4_t (by decide) kk_4
  · exact hl tk5_t (by decide) kk_5
  · exact hl tk6_t (by decide) kk_6
theorem sbL_get {K i : Nat} (h : i ≤ 20) : (sbL K).getD i 0 = sbT K i := by
  rw [sbL, List.getD_eq_getElem?_getD, List.getElem?_map, List.getElem?_range (by omega)]; rfl
theorem sbOk_get {T : List Nat} (h : sbOk T = true) : ∀ i j, i ≤ j → j ≤ 20 → T.getD i 0 ≤ T.getD j 0 := fun i j hij hj => by
  rw [sbOk, List.all_eq_true] at h
  have h1 := h j (by rw [List.mem_range]; omega)
  rw [List.all_eq_true] at h1
  exact Nat.le_of_ble_eq_true (h1 i (by rw [List.mem_range]; omega))
theorem asc_sublist {xs ys : List Int} (hx : Asc xs) (hy : Asc ys) (h : ∀ y, y ∈ xs → y ∈ ys) : xs.Sublist ys := by
  have e : xs = ys.filter fun y => decide (y ∈ xs) := asc_ext hx (List.Pairwise.sublist List.filter_sublist hy) fun y => by
    rw [List.mem_filter, decide_eq_true_eq]
    exact ⟨fun hh => ⟨h y hh, hh⟩, fun hh => hh.2⟩
  rw [e]; exact List.filter_sublist
theorem kss_asc (K : Nat) : Asc ((kss K).map fun s : Nat => (s : Int)) := by
  rw [Asc, List.pairwise_map]
  have : (kss K).Pairwise (· < ·) := List.Pairwise.sublist List.filter_sublist List.pairwise_lt_range
  exact this.imp fun h => by omega
theorem kss_mem {K s : Nat} : s ∈ kss K ↔ s < 64 ∧ popF 6 s = K := by
  rw [kss, List.mem_filter, List.mem_range, decide_eq_true_eq]
theorem popI6 {s : Nat} (h : s < 64) : popI (s : Int) = popF 6 s := by
  have := (set_ck (n := 6) (s := s) (by omega) (by omega)).2.2
  rw [popI, Int.toNat_natCast, pop, this]
/-- Kruskal and Katona: the shadow is at least as large as the bound. -/
theorem kk_law {n k : Int} {xs : List Int} (hf : famB n xs = true) (hu : ∀ y, y ∈ xs → popI y = k) (hk : 1 ≤ k ∧ k ≤ n) : shadOf xs.length k ≤ (shadL n xs).length := by
  have hm := famM.1 hf
  obtain ⟨K, rfl⟩ := Int.eq_ofNat_of_zero_le (show 0 ≤ k by omega)
  obtain ⟨N, rfl⟩ := Int.eq_ofNat_of_zero_le hm.1.1
  have hfull := full_bd6 hm.1
  have hnat : ∀ y, y ∈ xs → ∃ s : Nat, y = s ∧ s < 64 ∧ s < 2 ^ N := fun y hy => by
    have h1 := hm.2.2 y hy
    have e2 : ((2 ^ N : Nat) : Int) = 2 ^ N := by simp
    refine ⟨y.toNat, by omega, by omega, ?_⟩
    unfold fullI at h1; rw [Int.toNat_natCast] at h1; omega
  have hsub : xs.Sublist ((kss K).map fun s : Nat => (s : Int)) := asc_sublist hm.2.1 (kss_asc K) fun y hy => by
    obtain ⟨s, rfl, hs, _⟩ := hnat y hy
    rw [List.mem_map]
    refine ⟨s, ?_, rfl⟩
    have := hu _ hy
    rw [popI6 hs] at this
    exact kss_mem.2 ⟨hs, by omega⟩
  have hsubN : (xs.map Int.toNat).Sublist (kss K) := by
    have := hsub.map Int.toNat
    rw [List.map_map] at this
    have e : (kss K).map (Int.toNat ∘ fun s : Nat => (s : Int)) = kss K := by
      conv => rhs; rw [← List.map_id (kss K)]
      exact List.map_congr_left fun s _ => by simp
    rwa [e] at this
  obtain ⟨h1, h2, h3⟩ := kk_all K (by omega)
  have hlen := hsubN.length_le
  rw [List.length_map] at hlen
  have hck := ckA_all (sbOk_get h2) (m := 0) (by omega) h3 h1 hsubN
  rw [Nat.zero_add, List.length_map, sbL_get (by omega)] at hck
  have hst := adL_ok (n := N) (by omega) (A := xs.map Int.toNat) (st := (0, 0)) (l := []) (fun s hs => by
    rw [List.mem_map] at hs
    obtain ⟨y, hy, rfl⟩ := hs
    obtain ⟨s, rfl, _, h⟩ := hnat y hy
    simpa using h) ⟨rfl, fun x => by simp⟩ asc_nil
  have ex : (xs.map Int.toNat).map (fun s : Nat => (s : Int)) = xs := by
    rw [List.map_map]
    conv => rhs; rw [← List.map_id xs]
    refine List.map_congr_left fun y hy => ?_
    obtain ⟨s, rfl, _⟩ := hnat y hy
    simp
  rw [ex] at hst
  have hF := shF_fold (n := N) (xs := xs) (Nat.le_refl _)
  rw [List.take_length] at hF
  rw [shad_T (by omega) (by omega), shadL, if_pos hf, Int.toNat_natCast, Int.toNat_natCast, Int.toNat_natCast, hF, ← hst.1]
  omega
theorem pop_drop : ∀ e : Nat, e < 6 → ∀ s : Nat, s < 64 → s / 2 ^ e % 2 = 1 → popF 6 (s - 2 ^ e) + 1 = popF 6 s ∧ 2 ^ e ≤ s := by decide +kernel
theorem shad_uni {n k : Int} {xs : List Int} (hf : famB n xs = true) (hu : ∀ y, y ∈ xs → popI y = k) : famB n (shadL n xs) = true ∧ ∀ y, y ∈ shadL n xs → popI y = k - 1 := by
  have hm := famM.1 hf
  have hfull := full_bd6 hm.1
  rw [shadL, if_pos hf]
  have key : ∀ y, y ∈ shF xs n.toNat xs.length → (0 ≤ y ∧ y ≤ fullI n) ∧ popI y = k - 1 := fun y hy => by
    rw [shF_mem] at hy
    obtain ⟨i, hi, j, hj, hb, rfl⟩ := hy
    have hy := mem_getD.2 ⟨i, hi, rfl⟩
    generalize xs.getD i 0 = y at *
    have h1 := hm.2.2 y hy
    obtain ⟨S, rfl⟩ := Int.eq_ofNat_of_zero_le h1.1
    have hb2 := (bitI (S := S) (by omega)).1 hb
    obtain ⟨p1, p2⟩ := pop_drop j (by omega) S (by omega) hb2
    have e2 : ((2 ^ j : Nat) : Int) = 2 ^ j := by simp
    have hpos := Nat.two_pow_pos j
    have e3 : (S : Int) - 1 * 2 ^ j = ((S - 2 ^ j : Nat) : Int) := by omega
    have hk := hu _ hy
    rw [popI6 (by omega)] at hk
    rw [e3, popI6 (by omega)]
    omega
  exact ⟨famM.2 ⟨hm.1, shF_asc, fun y hy => (key y hy).1⟩, fun y hy => (key y hy).2⟩
/-- The first sets reach it. -/
def firCk (n j m : Nat) : Bool := decide (j = 0) || decide ((shF ((selF (sizeB (j : Int)) (2 ^ n)).take m) n ((selF (sizeB (j : Int)) (2 ^ n)).take m).length).length = sbT j m)
theorem firCk_t : (allN 7 fun n => allN (n + 1) fun j => allN (ch n j + 1) fun m => firCk n j m) = true := by decide +kernel
theorem fir_law {n j m : Int} (h : firOk n j m = true) : famB n (firL n j m) = true ∧ firN n j m = n ∧ ((firL n j m).length : Int) = m ∧ (1 ≤ j → ((shadL n (firL n j m)).length : Int) = shadOf m j) := by
  have h0 := h
  simp only [firOk, Bool.and_eq_true, inB_t] at h
  obtain ⟨hn, hj, hm⟩ := h
  have e1 : firL n j m = (selF (sizeB j) (2 ^ n.toNat)).take m.toNat := by rw [firL, if_pos h0]
  have hf : famB n (firL n j m) = true := by rw [e1]; exact fam_sub (selF_fam' hn) (List.take_sublist _ _)
  have hc := sel_countI hn hj
  have hl : ((firL n j m).length : Int) = m := by rw [e1, List.length_take]; omega
  refine ⟨hf, by rw [firN, if_pos h0], hl, fun hj1 => ?_⟩
  obtain ⟨N, rfl⟩ := Int.eq_ofNat_of_zero_le hn.1
  obtain ⟨J, rfl⟩ := Int.eq_ofNat_of_zero_le hj.1
  obtain ⟨M, rfl⟩ := Int.eq_ofNat_of_zero_le hm.1
  rw [chooseI_nat (by omega)] at hm
  have h20 : ch N J ≤ 64 := by have := ch_le N J; have h6 : 2 ^ N ≤ 2 ^ 6 := Nat.pow_le_pow_right (by omega) (by omega); omega
  have hck := allN_iff.1 (allN_iff.1 (allN_iff.1 firCk_t N (by omega)) J (by omega)) M (by omega)
  simp only [firCk, Bool.or_eq_true, decide_eq_true_eq] at hck
  have hck := hck.resolve_left (by omega)
  rw [shadL, if_pos hf, e1, shad_T (by omega) (by omega)]
  simp only [Int.toNat_natCast]
  omega

def ckS (t T e : Nat) : Bool := T.testBit e || decide ((t - 2 ^ e) &&& T = t &&& T) || !t.testBit e
theorem ckS_t : (allN 64 fun t => allN 64 fun T => allN 6 fun e => ckS t T e) = true := by decide +kernel
def ckU (t T e : Nat) : Bool := !t.testBit e || !T.testBit e || decide ((t - 2 ^ e) &&& T = (t &&& T) - 2 ^ e)
theorem ckU_t : (allN 64 fun t => allN 64 fun T => allN 6 fun e => ckU t T e) = true := by decide +kernel
theorem bit6 : ∀ e : Nat, e < 6 → ∀ s : Nat, s < 64 → (s / 2 ^ e % 2 = 1 ↔ s.testBit e = true) := fun e _ s _ => by
  rw [Nat.testBit_eq_decide_div_mod_eq, decide_eq_true_eq]
theorem bit_off : ∀ e : Nat, e < 6 → ∀ t : Nat, t < 64 → t.testBit e = true → (t - 2 ^ e).testBit e = false := by decide +kernel
theorem subs_ck : ∀ s : Nat, s < 64 → ((List.range 64).filter fun u => u &&& s = u).length = 2 ^ popF 6 s := by decide +kernel
theorem put_bit : ∀ e : Nat, e < 6 → ∀ u : Nat, u < 64 → u.testBit e = false → u + 2 ^ e < 64 ∧ (u + 2 ^ e).testBit e = true ∧ u + 2 ^ e - 2 ^ e = u := by decide +kernel
theorem sub_put : (allN 64 fun u => allN 64 fun T => allN 6 fun e => !decide (u &&& T = u) || !T.testBit e || u.testBit e || decide ((u + 2 ^ e) &&& T = u + 2 ^ e)) = true := by decide +kernel
theorem size_ck : (allN 64 fun S => allN 7 fun k => !Nat.ble k (popF 6 S) || (List.range 64).any fun T => decide (T &&& S = T) && decide (popF 6 T = k)) = true := by decide +kernel
/-- The family shatters T: each part of T is what some set has in common with it. -/
def ShN (xs : List Int) (T : Nat) : Prop := ∀ u : Nat, u &&& T = u → ∃ t : Nat, t < 64 ∧ (t : Int) ∈ xs ∧ t &&& T = u
def Sm (xs : List Int) : Prop := ∀ y, y ∈ xs → ∃ t : Nat, y = t ∧ t < 64
theorem fam_Sm {n : Int} {xs : List Int} (h : famB n xs = true) : Sm xs := fun y hy => by
  have hm := famM.1 h
  have := hm.2.2 y hy
  have := full_bd6 hm.1
  exact ⟨y.toNat, by omega, by omega⟩
theorem trL_nat {xs : List Int} (hs : Sm xs) {T : Nat} (hT : T < 64) {y : Int} : y ∈ trL xs (T : Int) ↔ ∃ t : Nat, t < 64 ∧ (t : Int) ∈ xs ∧ y = ((t &&& T : Nat) : Int) := by
  rw [trL_mem]
  constructor
  · rintro ⟨t, ht, rfl⟩
    obtain ⟨t, rfl, h⟩ := hs t ht
    exact ⟨t, h, ht, band_nat (by omega) (by omega)⟩
  · rintro ⟨t, h, ht, rfl⟩
    exact ⟨t, ht, (band_nat (by omega) (by omega)).symm⟩
theorem trL_le {xs : List Int} (hs : Sm xs) {T : Nat} (hT : T < 64) : (trL xs (T : Int)).Sublist (((List.range 64).filter fun u => u &&& T = u).map fun u : Nat => (u : Int)) := by
  refine asc_sublist trF_asc ?_ fun y hy => ?_
  · rw [Asc, List.pairwise_map]
    have : ((List.range 64).filter fun u => u &&& T = u).Pairwise (· < ·) := List.Pairwise.sublist List.filter_sublist List.pairwise_lt_range
    exact this.imp fun h => by omega
  · obtain ⟨t, h, ht, rfl⟩ := (trL_nat hs hT).1 hy
    rw [List.mem_map]
    refine ⟨t &&& T, ?_, rfl⟩
    rw [List.mem_filter, List.mem_range, decide_eq_true_eq]
    refine ⟨Nat.lt_of_le_of_lt Nat.and_le_left h, ?_⟩
    rw [Nat.and_assoc, Nat.and_self]
theorem trL_two {xs : List Int} (hs : Sm xs) {T : Nat} (hT : T < 64) : (trL xs (T : Int)).length ≤ 2 ^ popF 6 T := by
  have := (trL_le hs hT).length_le
  rwa [List.length_map, subs_ck T hT] at this
/-- All parts are there exactly if there are as many. -/
theorem shat_iff {xs : List Int} (hs : Sm xs) {T : Nat} (hT : T < 64) : (trL xs (T : Int)).length = 2 ^ popF 6 T ↔ ShN xs T := by
  have hsub := trL_le hs hT
  constructor
  · intro he u hu
    have e := hsub.eq_of_length (by rw [he, List.length_map, subs_ck T hT])
    have hm : (u : Int) ∈ trL xs (T : Int) := by
      rw [e, List.mem_map]
      refine ⟨u, ?_, rfl⟩
      rw [List.mem_filter, List.mem_range, decide_eq_true_eq]
      refine ⟨?_, hu⟩
      rw [← hu]; exact Nat.lt_of_le_of_lt Nat.and_le_right hT
    obtain ⟨t, h, ht, e2⟩ := (trL_nat hs hT).1 hm
    exact ⟨t, h, ht, by omega⟩
  · intro hsh
    have h2 : (((List.range 64).filter fun u => u &&& T = u).map fun u : Nat => (u : Int)).Sublist (trL xs (T : Int)) := by
      refine asc_sublist ?_ trF_asc fun y hy => ?_
      · rw [Asc, List.pairwise_map]
        have : ((List.range 64).filter fun u => u &&& T = u).Pairwise (· < ·) := List.Pairwise.sublist List.filter_sublist List.pairwise_lt_range
        exact this.imp fun h => by omega
      · rw [List.mem_map] at hy
        obtain ⟨u, hu, rfl⟩ := hy
        rw [List.mem_filter, decide_eq_true_eq] at hu
        obtain ⟨t, h, ht, e⟩ := hsh u hu.2
        exact (trL_nat hs hT).2 ⟨t, h, ht, by rw [e]⟩
    have h3 := h2.length_le
    rw [List.length_map, subs_ck T hT] at h3
    have := trL_two hs hT
    omega
theorem shatB_iff {n : Int} {xs : List Int} (hf : famB n xs = true) {T : Nat} (hT : (T : Int) ≤ fullI n) : shatB n xs (T : Int) = true ↔ ShN xs T := by
  have hfull := full_bd6 (famB_bd hf).1
  have hin : inS n (T : Int) = true := by rw [inS, inB_t]; omega
  have ht := tr_t hf hin
  have hp : popI (T : Int) = popF 6 T := popI6 (by omega)
  rw [← shat_iff (fam_Sm hf) (by omega), shatB, ht.1, ht.2.2, Bool.true_and, decide_eq_true_eq, hp, Int.toNat_natCast]
  have e2 : ((2 ^ popF 6 T : Nat) : Int) = 1 * 2 ^ popF 6 T := by simp
  omega
theorem shL_mem {n : Int} {xs : List Int} (hf : famB n xs = true) {T : Nat} : (T : Int) ∈ shL n xs ↔ (T : Int) ≤ fullI n ∧ ShN xs T := by
  have e2 : ((2 ^ n.toNat : Nat) : Int) = 2 ^ n.toNat := by simp
  rw [shL, if_pos hf, selF_mem]
  constructor
  · rintro ⟨h1, h2⟩
    have hle : (T : Int) ≤ fullI n := by unfold fullI; omega
    exact ⟨hle, (shatB_iff hf hle).1 h2⟩
  · rintro ⟨h1, h2⟩
    refine ⟨?_, (shatB_iff hf h1).2 h2⟩
    unfold fullI at h1; omega
/-- A part of a shattered set is shattered. -/
theorem ShN_sub {xs : List Int} {S T : Nat} (h : ShN xs S) (hT : T &&& S = T) : ShN xs T := fun u hu => by
  have hu2 : u &&& S = u := by rw [← hu, Nat.and_assoc, hT]
  obtain ⟨t, h1, h2, h3⟩ := h u hu2
  refine ⟨t, h1, h2, ?_⟩
  rw [← hT, Nat.and_comm T S, ← Nat.and_assoc, h3, hu]
/-- What a shifted family shatters, the family shatters. -/
theorem ShN_shift {xs : List Int} (hs : Sm xs) {e T : Nat} (he : e < 6) (hT : T < 64) (h : ShN (sdL xs e) T) : ShN xs T := by
  have hmem : ∀ y : Nat, (y : Int) ∈ sdL xs e → ∃ t : Nat, t < 64 ∧ (t : Int) ∈ xs ∧ (((t.testBit e = true ∧ ((t - 2 ^ e : Nat) : Int) ∉ xs) ∧ y = t - 2 ^ e) ∨ (¬ (t.testBit e = true ∧ ((t - 2 ^ e : Nat) : Int) ∉ xs) ∧ y = t)) := fun y hy => by
    obtain ⟨t, ht, h1⟩ := sdL_mem.1 hy
    obtain ⟨t, rfl, h6⟩ := hs t ht
    refine ⟨t, h6, ht, ?_⟩
    have hb := bitI (S := t) (j := e) (by omega)
    have hb2 := bit6 e he t h6
    have e2 : ((2 ^ e : Nat) : Int) = 2 ^ e := by simp
    have hle : t.testBit e = true → 2 ^ e ≤ t := fun h => pow_bitI (hb2.2 h)
    unfold shAt at h1
    split at h1
    · rename_i hc
      have h3 := hb2.1 (hb.1 hc.1)
      have h4 := hle h3
      have e3 : (t : Int) - 1 * 2 ^ e = ((t - 2 ^ e : Nat) : Int) := by omega
      rw [e3] at h1 hc
      exact .inl ⟨⟨h3, hc.2⟩, by omega⟩
    · rename_i hc
      refine .inr ⟨fun hh => hc ⟨hb.2 (hb2.2 hh.1), ?_⟩, by omega⟩
      have h4 := hle hh.1
      have e3 : (t : Int) - 1 * 2 ^ e = ((t - 2 ^ e : Nat) : Int) := by omega
      rw [e3]; exact hh.2
  have c1 := fun t ht => allN_iff.1 (allN_iff.1 (allN_iff.1 ckS_t t ht) T hT) e he
  have c2 := fun t ht => allN_iff.1 (allN_iff.1 (allN_iff.1 ckU_t t ht) T hT) e he
  intro u hu
  have hu6 : u < 64 := by rw [← hu]; exact Nat.lt_of_le_of_lt Nat.and_le_right hT
  cases hTe : T.testBit e with
  | false =>
    obtain ⟨y, hy6, hy, hyu⟩ := h u hu
    obtain ⟨t, h6, ht, hh⟩ := hmem y hy
    refine ⟨t, h6, ht, ?_⟩
    rcases hh with ⟨⟨h1, _⟩, rfl⟩ | ⟨_, rfl⟩
    · have := c1 t h6
      simp only [ckS, hTe, h1, Bool.false_or, Bool.not_true, Bool.or_false, decide_eq_true_eq] at this
      rw [← this]; exact hyu
    · exact hyu
  | true =>
    have keep : ∀ v : Nat, v &&& T = v → v.testBit e = true → ∃ t : Nat, t < 64 ∧ (t : Int) ∈ xs ∧ t &&& T = v ∧ ((t - 2 ^ e : Nat) : Int) ∈ xs ∧ t.testBit e = true := fun v hv hve => by
      obtain ⟨y, hy6, hy, hyu⟩ := h v hv
      have hye : y.testBit e = true := by
        rw [← hyu, Nat.testBit_and, Bool.and_eq_true] at hve; exact hve.1
      obtain ⟨t, h6, ht, hh⟩ := hmem y hy
      rcases hh with ⟨⟨h1, _⟩, rfl⟩ | ⟨hn, rfl⟩
      · exfalso
        rw [bit_off e he t h6 h1] at hye; cases hye
      · refine ⟨y, h6, ht, hyu, ?_, hye⟩
        apply Decidable.byContradiction
        intro hno
        exact hn ⟨hye, hno⟩
    cases hue : u.testBit e with
    | true =>
      obtain ⟨t, h6, ht, htu, _⟩ := keep u hu hue
      exact ⟨t, h6, ht, htu⟩
    | false =>
      have hpb := put_bit e he u hu6 hue
      have hsp := allN_iff.1 (allN_iff.1 (allN_iff.1 sub_put u hu6) T hT) e he
      simp only [hu, decide_true, Bool.not_true, hTe, hue, Bool.false_or, decide_eq_true_eq] at hsp
      obtain ⟨t, h6, ht, htu, hto, hte⟩ := keep (u + 2 ^ e) hsp hpb.2.1
      refine ⟨t - 2 ^ e, Nat.lt_of_le_of_lt (Nat.sub_le _ _) h6, hto, ?_⟩
      have := c2 t h6
      simp only [ckU, hTe, hte, Bool.not_true, Bool.false_or, decide_eq_true_eq] at this
      rw [this, htu]; exact hpb.2.2
theorem rdF_ShN {n : Int} {xs : List Int} (h : famB n xs = true) {T : Nat} (hT : T < 64) : ∀ {e : Nat}, e ≤ 6 → ShN (rdF xs e) T → ShN xs T
  | 0, _, hs => hs
  | e + 1, he, hs => rdF_ShN h hT (by omega) (ShN_shift (fam_Sm (rdF_fam h)) (by omega) hT hs)
theorem saL_ShN {n : Int} : ∀ (k : Nat) {xs : List Int}, xs.sum.toNat = k → famB n xs = true → ∀ {T : Nat}, T < 64 → ShN (saL n xs) T → ShN xs T := by
  intro k
  induction k using Nat.strongRecOn with
  | _ k ih =>
    intro xs hk h T hT hs
    cases hd : downB n xs with
    | true => rwa [saL_t hd] at hs
    | false =>
      rw [saL_f h hd] at hs
      have := ih _ (hk ▸ rd_nat h hd) (xs := rdL n xs) rfl (rdF_fam h) hT hs
      exact rdF_ShN h hT (e := n.toNat) (by have := (famB_bd h).1; omega) this
/-- A closed family shatters its sets. -/
theorem down_bits {n : Int} {xs : List Int} (hd : downB n xs = true) : ∀ s : Nat, (s : Int) ∈ xs → ∀ e : Nat, e < 6 → s.testBit e = true → ((s - 2 ^ e : Nat) : Int) ∈ xs := fun s hs e he hb => by
  have hf : famB n xs = true := by simp only [downB, Bool.and_eq_true] at hd; exact hd.1
  obtain ⟨s', h', h6⟩ := fam_Sm hf _ hs
  have : s' = s := by omega
  subst this
  have hbit := (bit6 e he s' h6).2 hb
  have hle := pow_bitI hbit
  have e2 : ((2 ^ e : Nat) : Int) = 2 ^ e := by simp
  have hm := (famM.1 hf)
  have hen : e < n.toNat := by
    have h1 := hm.2.2 _ hs
    apply Decidable.byContradiction
    intro hge
    have h2 : 2 ^ n.toNat ≤ 2 ^ e := Nat.pow_le_pow_right (by omega) (by omega)
    have e3 : ((2 ^ n.toNat : Nat) : Int) = 2 ^ n.toNat := by simp
    unfold fullI at h1; omega
  apply Decidable.byContradiction
  intro hno
  obtain ⟨k, hk, hke⟩ := mem_getD.1 hs
  have := downB_f hf hk hen (by rw [hke]; exact (bitI (by omega)).2 hbit) (by
    rw [hke, show (s' : Int) - 1 * 2 ^ e = ((s' - 2 ^ e : Nat) : Int) by omega]; exact hno)
  rw [hd] at this; cases this
def ckD (s u : Nat) : Bool := decide (u = s) || !decide (u &&& s = u) || (List.range 6).any fun e => s.testBit e && decide (u &&& (s - 2 ^ e) = u)
theorem ckD_t : (allN 64 fun s => allN 64 fun u => ckD s u) = true := by decide +kernel
theorem down_sub {n : Int} {xs : List Int} (hd : downB n xs = true) : ∀ (k : Nat) {s : Nat}, s = k → (s : Int) ∈ xs → ∀ u : Nat, u &&& s = u → (u : Int) ∈ xs := by
  have hf : famB n xs = true := by simp only [downB, Bool.and_eq_true] at hd; exact hd.1
  intro k
  induction k using Nat.strongRecOn with
  | _ k ih =>
    intro s hk hs u hu
    obtain ⟨s', h', h6⟩ := fam_Sm hf _ hs
    have e0 : s' = s := by omega
    subst e0
    have hu6 : u < 64 := by rw [← hu]; exact Nat.lt_of_le_of_lt Nat.and_le_right h6
    have hc := allN_iff.1 (allN_iff.1 ckD_t s' h6) u hu6
    simp only [ckD, hu, decide_true, Bool.not_true, Bool.or_false, Bool.or_eq_true, decide_eq_true_eq, List.any_eq_true, List.mem_range, Bool.and_eq_true] at hc
    rcases hc with rfl | ⟨e, he, hb, h2⟩
    · exact hs
    · have hle := pow_bitI ((bit6 e he s' h6).2 hb)
      have hp := Nat.two_pow_pos e
      exact ih (s' - 2 ^ e) (by omega) rfl (down_bits hd s' hs e he hb) u h2
theorem down_ShN {n : Int} {xs : List Int} (hd : downB n xs = true) {s : Nat} (hs : (s : Int) ∈ xs) : ShN xs s := fun u hu => by
  have hf : famB n xs = true := by simp only [downB, Bool.and_eq_true] at hd; exact hd.1
  have hm := down_sub hd s rfl hs u hu
  obtain ⟨u', h', h6⟩ := fam_Sm hf _ hm
  exact ⟨u, by omega, hm, hu⟩
/-- All sets of the shifted family are shattered. -/
theorem sa_sh {n : Int} {xs : List Int} (h : famB n xs = true) : (saL n xs).Sublist (shL n xs) := by
  obtain ⟨h1, h2, h3⟩ := saL_fam _ rfl h
  have hm := famM.1 h1
  have hfull := full_bd6 hm.1
  refine asc_sublist hm.2.1 (by rw [shL, if_pos h]; exact selF_asc) fun y hy => ?_
  have hb := hm.2.2 y hy
  obtain ⟨T, rfl⟩ := Int.eq_ofNat_of_zero_le hb.1
  exact (shL_mem h).2 ⟨hb.2, saL_ShN _ rfl h (by omega) (down_ShN h3 hy)⟩

theorem mxF_le {l : List Int} {M : Int} (hM : -1 ≤ M) : ∀ {i : Nat}, mxF l i ≤ M ↔ ∀ k, k < i → popI (l.getD k 0) ≤ M
  | 0 => by simp [mxF]; exact hM
  | i + 1 => by
    have ih := mxF_le (l := l) hM (i := i)
    simp only [mxF]
    constructor
    · intro h k hk
      have h1 : mxF l i ≤ M ∧ popI (l.getD i 0) ≤ M := by
        clear ih
        generalize popI (l.getD i 0) = p at *
        generalize mxF l i = q at *
        by_cases hc : q < p
        · rw [if_pos hc] at h; omega
        · rw [if_neg hc] at h; omega
      by_cases e : k = i
      · subst e; exact h1.2
      · exact ih.1 h1.1 k (by omega)
    · intro h
      have h1 := ih.2 fun k hk => h k (by omega)
      have h2 := h i (by omega)
      clear h ih
      generalize popI (l.getD i 0) = p at *
      generalize mxF l i = q at *
      by_cases hc : q < p
      · rw [if_pos hc]; exact h2
      · rw [if_neg hc]; exact h1
theorem mx_le {l : List Int} {M : Int} (hM : -1 ≤ M) : mxF l l.length ≤ M ↔ ∀ y, y ∈ l → popI y ≤ M := by
  rw [mxF_le hM]
  constructor
  · intro h y hy
    obtain ⟨i, hi, rfl⟩ := mem_getD.1 hy
    exact h i hi
  · intro h k hk
    exact h _ (mem_getD.2 ⟨k, hk, rfl⟩)
theorem dim_bd {n : Int} {xs : List Int} (hf : famB n xs = true) : dimI n xs = mxF (shL n xs) (shL n xs).length ∧ -1 ≤ dimI n xs ∧ dimI n xs ≤ n := by
  have hn := (famB_bd hf).1
  have e : dimI n xs = mxF (shL n xs) (shL n xs).length := by rw [dimI, if_pos hf]
  refine ⟨e, by rw [e]; exact mxF_bd.1, ?_⟩
  rw [e, mx_le (by omega)]
  intro y hy
  rw [shL, if_pos hf, selF_mem] at hy
  obtain ⟨S, rfl⟩ := Int.eq_ofNat_of_zero_le hy.1.1
  exact (pop_in hn (i := S) (by omega)).2
def sauCk (n d : Nat) : Bool := decide (((selF (fun y => decide (popI y ≤ (d : Int) - 1)) (2 ^ n)).length : Int) = sauF (n : Int) d)
theorem sauCk_t : (allN 7 fun n => allN 8 fun d => sauCk n d) = true := by decide +kernel
theorem shat_A {n : Int} {xs : List Int} (hf : famB n xs = true) : xs.length ≤ (shL n xs).length := by
  have h1 := (sa_sh hf).length_le
  rw [(saL_fam _ rfl hf).2.1] at h1
  exact h1
theorem shat_B {n : Int} {xs : List Int} (hf : famB n xs = true) : (xs.length : Int) ≤ sauI n (dimI n xs) := by
  have hn := (famB_bd hf).1
  obtain ⟨e, b1, b2⟩ := dim_bd hf
  rw [sau_t (by rw [inB_t]; omega) (by rw [inB_t]; omega)]
  have hall := (mx_le (l := shL n xs) (M := dimI n xs) b1).1 (by rw [← e]; exact Int.le_refl _)
  generalize dimI n xs = d at *
  have hsub : (saL n xs).Sublist (selF (fun y => decide (popI y ≤ d)) (2 ^ n.toNat)) := by
    refine asc_sublist (famM.1 (saL_fam _ rfl hf).1).2.1 selF_asc fun y hy => ?_
    have hm := (sa_sh hf).subset hy
    have hp := hall y hm
    rw [shL, if_pos hf, selF_mem] at hm
    rw [selF_mem, decide_eq_true_eq]
    exact ⟨hm.1, hp⟩
  have hl := hsub.length_le
  rw [(saL_fam _ rfl hf).2.1] at hl
  have hc := allN_iff.1 (allN_iff.1 sauCk_t n.toNat (by omega)) (d + 1).toNat (by omega)
  simp only [sauCk, decide_eq_true_eq] at hc
  rw [show (((d + 1).toNat : Nat) : Int) - 1 = d by omega, show ((n.toNat : Nat) : Int) = n by omega] at hc
  omega
theorem bit_sub : ∀ e : Nat, e < 6 → ∀ s : Nat, s < 64 → s / 2 ^ e % 2 = 1 → (s - 2 ^ e) &&& s = s - 2 ^ e := by decide +kernel
theorem shat_C {n : Int} {xs : List Int} (hf : famB n xs = true) : downB (shN n xs) (shL n xs) = true := by
  have hn := (famB_bd hf).1
  have hfull := full_bd6 hn
  rw [shN, if_pos hf]
  have hfam : famB n (shL n xs) = true := by rw [shL, if_pos hf]; exact selF_fam' hn
  refine downB_t hfam fun k hk j hj hb => ?_
  have hm := mem_getD.2 ⟨k, hk, rfl⟩
  have h6 := (famM.1 hfam).2.2 _ hm
  generalize (shL n xs).getD k 0 = y at *
  obtain ⟨S, rfl⟩ := Int.eq_ofNat_of_zero_le h6.1
  have hb2 := (bitI (S := S) (by omega)).1 hb
  have hle := pow_bitI hb2
  have e2 : ((2 ^ j : Nat) : Int) = 2 ^ j := by simp
  have hp := Nat.two_pow_pos j
  rw [show (S : Int) - 1 * 2 ^ j = ((S - 2 ^ j : Nat) : Int) by omega]
  rw [shL_mem hf] at hm ⊢
  exact ⟨by omega, ShN_sub hm.2 (bit_sub j (by omega) S (by omega) hb2)⟩
theorem groS_le {n : Nat} {xs : List Int} {k : Nat} {M : Int} (hn : n ≤ 6) (hk : k ≤ n) (hM : 0 ≤ M) : ∀ {s : Nat}, s ≤ 2 ^ n → ((groS xs n s).getD k 0 ≤ M ↔ ∀ i : Nat, i < s → popI (i : Int) = k → ((trL xs (i : Int)).length : Int) ≤ M)
  | 0, _ => by
    have e : (groS xs n 0).getD k 0 = 0 := by
      rw [groS, List.getD_eq_getElem?_getD, List.getElem?_replicate]
      split <;> rfl
    rw [e]
    exact ⟨fun _ i hi => absurd hi (by omega), fun _ => hM⟩
  | s + 1, hs => by
    have ih := groS_le (xs := xs) hn hk hM (s := s) (by omega)
    have hp := pop_in (n := (n : Int)) (i := s) (by omega) (by rw [Int.toNat_natCast]; omega)
    have hlen := groS_len (xs := xs) (n := n) (s := s)
    have e : (groS xs n (s + 1)).getD k 0 = if popI (s : Int) = k then (if (groS xs n s).getD k 0 < ((trL xs (s : Int)).length : Int) then ((trL xs (s : Int)).length : Int) else (groS xs n s).getD k 0) else (groS xs n s).getD k 0 := by
      by_cases hpk : popI (s : Int) = k
      · have : (popI (s : Int)).toNat = k := by omega
        rw [if_pos hpk, groS, this, List.getD_eq_getElem?_getD, List.getElem?_set_self (by omega)]; rfl
      · rw [if_neg hpk, groS, List.getD_eq_getElem?_getD, List.getElem?_set_ne (by omega), ← List.getD_eq_getElem?_getD]
    rw [e]
    constructor
    · intro h i hi hpi
      by_cases ei : i = s
      · subst ei
        rw [if_pos hpi] at h
        split at h <;> omega
      · have h2 : (groS xs n s).getD k 0 ≤ M := by
          split at h
          · split at h <;> omega
          · exact h
        exact ih.1 h2 i (by omega) hpi
    · intro h
      have h1 := ih.2 fun i hi hpi => h i (by omega) hpi
      split
      · rename_i hpk
        have h2 := h s (by omega) hpk
        split <;> assumption
      · exact h1
theorem shat_D {n : Int} {xs : List Int} (hf : famB n xs = true) {k : Nat} (hk : (k : Int) ≤ n) : (grL n xs).getD k 0 ≤ 2 ^ k ∧ ((grL n xs).getD k 0 = 2 ^ k ↔ (k : Int) ≤ dimI n xs) := by
  have hn := (famB_bd hf).1
  obtain ⟨e, b1, b2⟩ := dim_bd hf
  have hsm := fam_Sm hf
  have hall := (mx_le (l := shL n xs) (M := dimI n xs) b1).1 (by rw [← e]; exact Int.le_refl _)
  have hle := fun M hM => mx_le (l := shL n xs) (M := M) hM
  rw [← e] at hle
  generalize dimI n xs = d at *
  rw [grL, if_pos hf]
  obtain ⟨N, rfl⟩ := Int.eq_ofNat_of_zero_le hn.1
  rw [Int.toNat_natCast]
  have h2N : 2 ^ N ≤ 2 ^ 6 := Nat.pow_le_pow_right (by omega) (by omega)
  have hg := fun M hM => groS_le (n := N) (xs := xs) (k := k) (M := M) (by omega) (by omega) hM (s := 2 ^ N) (Nat.le_refl _)
  have hpos : 1 ≤ 2 ^ k := Nat.one_le_two_pow
  have e2 : ((2 ^ k : Nat) : Int) = 2 ^ k := by simp
  have htr : ∀ i : Nat, i < 2 ^ N → popI (i : Int) = k → (trL xs (i : Int)).length ≤ 2 ^ k := fun i hi hp => by
    have := trL_two hsm (T := i) (by omega)
    rw [popI6 (by omega)] at hp
    rwa [show popF 6 i = k by omega] at this
  have u1 : (groS xs N (2 ^ N)).getD k 0 ≤ 2 ^ k := by
    rw [← e2, hg _ (by omega)]
    exact fun i hi hp => by have := htr i hi hp; omega
  have hsh : ∀ i : Nat, i < 2 ^ N → popI (i : Int) = k → ((trL xs (i : Int)).length = 2 ^ k ↔ (i : Int) ∈ shL (N : Int) xs) := fun i hi hp => by
    have h1 := shat_iff hsm (T := i) (by omega)
    rw [popI6 (by omega)] at hp
    rw [show popF 6 i = k by omega] at h1
    rw [h1, shL_mem hf]
    have e3 : ((2 ^ N : Nat) : Int) = 2 ^ N := by simp
    exact ⟨fun h => ⟨by unfold fullI; rw [Int.toNat_natCast]; omega, h⟩, fun h => h.2⟩
  refine ⟨u1, ?_⟩
  constructor
  · intro he
    apply Decidable.byContradiction
    intro hgt
    have : (groS xs N (2 ^ N)).getD k 0 ≤ (2 : Int) ^ k - 1 := by
      rw [← e2, hg _ (by omega)]
      intro i hi hp
      have h1 := htr i hi hp
      have h2 : ¬ (trL xs (i : Int)).length = 2 ^ k := fun h => by
        have := hall _ ((hsh i hi hp).1 h)
        omega
      omega
    omega
  · intro hkd
    apply Decidable.byContradiction
    intro hne
    have hlt : (groS xs N (2 ^ N)).getD k 0 ≤ (2 : Int) ^ k - 1 := by omega
    rw [← e2, hg _ (by omega)] at hlt
    -- some shattered set has d elements
    have hex : ∃ y, y ∈ shL (N : Int) xs ∧ (k : Int) ≤ popI y := by
      apply Decidable.byContradiction
      intro hno
      have : d ≤ (k : Int) - 1 := (hle _ (by omega)).2 fun y hy => by
        have : ¬ (k : Int) ≤ popI y := fun h => hno ⟨y, hy, h⟩
        omega
      omega
    obtain ⟨y, hy, hky⟩ := hex
    have hy2 := hy
    rw [shL, if_pos hf, selF_mem, Int.toNat_natCast] at hy2
    obtain ⟨S, rfl⟩ := Int.eq_ofNat_of_zero_le hy2.1.1
    rw [popI6 (by omega)] at hky
    have hc := allN_iff.1 (allN_iff.1 size_ck S (by omega)) k (by omega)
    simp only [Bool.or_eq_true, Bool.not_eq_true', List.any_eq_true, List.mem_range, Bool.and_eq_true, decide_eq_true_eq] at hc
    rcases hc with hc | ⟨T, hT, hTS, hTk⟩
    · have : Nat.ble k (popF 6 S) = true := Nat.ble_eq_true_of_le (by omega)
      rw [this] at hc; cases hc
    · have hTle : T ≤ S := by rw [← hTS]; exact Nat.and_le_right
      have hin : (T : Int) ∈ shL (N : Int) xs := by
        have h1 := (shL_mem hf).1 hy
        exact (shL_mem hf).2 ⟨by omega, ShN_sub h1.2 hTS⟩
      have hpT : popI (T : Int) = k := by rw [popI6 hT]; omega
      have := hlt T (by omega) hpT
      have := (hsh T (by omega) hpT).2 hin
      omega
theorem shat_E {n : Int} {xs : List Int} (hf : famB n xs = true) : saN n xs = n ∧ (saO n xs).length = xs.length ∧ dimI (saN n xs) (saO n xs) ≤ dimI n xs := by
  have h := saL_fam _ rfl hf
  have e1 : saN n xs = n := by rw [saN, if_pos hf]
  have e2 : saO n xs = saL n xs := by rw [saO, if_pos hf]
  obtain ⟨e, b1, b2⟩ := dim_bd hf
  obtain ⟨e', _, _⟩ := dim_bd h.1
  have hfull := full_bd6 (famB_bd hf).1
  have hall := (mx_le (l := shL n xs) (M := dimI n xs) b1).1 (by rw [← e]; exact Int.le_refl _)
  refine ⟨e1, by rw [e2]; exact h.2.1, ?_⟩
  rw [e1, e2, e', mx_le b1]
  intro y hy
  have hy2 := hy
  rw [shL, if_pos h.1, selF_mem] at hy2
  obtain ⟨T, rfl⟩ := Int.eq_ofNat_of_zero_le hy2.1.1
  have h1 := (shL_mem h.1).1 hy
  exact hall _ ((shL_mem hf).2 ⟨h1.1, saL_ShN _ rfl hf (by omega) h1.2⟩)
theorem choose_rec {m j : Int} (hm : 1 ≤ m) (hj : 1 ≤ j) : chooseI m j = chooseI (m - 1) j + chooseI (m - 1) (j - 1) := by
  obtain ⟨M, rfl⟩ : ∃ M : Nat, m = ((M + 1 : Nat) : Int) := ⟨(m - 1).toNat, by omega⟩
  obtain ⟨J, rfl⟩ : ∃ J : Nat, j = ((J + 1 : Nat) : Int) := ⟨(j - 1).toNat, by omega⟩
  have e : ∀ a b : Nat, chooseI (a : Int) (b : Int) = (ch a b : Int) := fun a b => by
    unfold chooseI
    split
    · simp
    · rw [ch_zero_of (by omega)]; rfl
  rw [show ((M + 1 : Nat) : Int) - 1 = (M : Int) by omega, show ((J + 1 : Nat) : Int) - 1 = (J : Int) by omega, e, e, e]
  simp only [ch]; omega

theorem klp_keep {m : Nat} {α : Type} {V : α → Prop} {I : α → St} {μ : α → Nat} {slots k1 k2 : List Nat} {x : α} (h1 : okKeep k1 m = true) (h2 : okKeep k2 m = true) : klp m V I μ slots (fun _ => k1) x = klp m V I μ slots (fun _ => k2) x := by
  funext s
  apply propext
  constructor
  · rintro ⟨ls, kp, y, h, r⟩
    refine ⟨ls, kp, y, .inr ?_, r⟩
    rcases h with rfl | h
    · exact h1
    · exact h
  · rintro ⟨ls, kp, y, h, r⟩
    refine ⟨ls, kp, y, .inr ?_, r⟩
    rcases h with rfl | h
    · exact h2
    · exact h
/-- The loop, its round proved apart, whatever blocks are kept on entering. -/
theorem bc_loopE {P : Program} {Γ : Gm} {m : Nat} {R : St → Prop} {X : List (Nat × (St → Prop))} {K : St → Prop} {s : St} {c : Code} {α : Type} (V : α → Prop) (I : α → St) (μ : α → Nat) (slots keep : List Nat) (x0 : α)
    (hk : okKeep keep m = true) (h0 : s.conv slots keep = I x0) (v0 : V x0) (hk2 : okKeep [] m = true) (step : ∀ x, V x → bc P Γ m R c X (klp m V I μ slots (fun _ => []) x) (I x)) : bc P Γ m R (.loop c) X K s :=
  bc_loop V I μ slots keep x0 hk h0 v0 fun x hx => by rw [klp_keep hk hk2]; exact step x hx
/-- What is found on the way may be proved behind. -/
structure Hold (H : Prop) : Prop where
  h : H
theorem cut_of {H G : Prop} (h1 : Hold H → G) (h2 : H) : G := h1 ⟨h2⟩
theorem lapp_nil {α : Type} {m : List α} : List.append [] m = m := id rfl
theorem lapp_cons {α : Type} {a : α} {l m : List α} : List.append (a :: l) m = a :: List.append l m := id rfl

theorem is_laws_big : FnIs Try.prog 9 6 [.tmp 2] (Try.f9.body.getD .skip) := ⟨⟨Try.f9, by kernel_rfl, by kernel_rfl, by kernel_rfl, by kernel_rfl⟩, by kernel_rfl, by kernel_rfl⟩
def G_laws_big : Gm := Gm.none
theorem G_laws_big_ok : G_laws_big.ok Try.prog := Gm.none_ok
theorem gm_laws_big {r : List Oper} {n : Nat} : splB G_laws_big r n = true := rfl
set_option maxHeartbeats 1000000 in
set_option maxRecDepth 100000 in
theorem runs_laws_big (bs : List Int) : ARuns Try.prog 9 [.sl none (.ints .u8 bs)] [] (.bool (decide (1048576 < (bs.length : Int)))) [] := by
  refine ARuns_bc G_laws_big_ok is_laws_big (by simp) fun hl hlB => ?_
  simp only [kcode_at, kreg_at, bc_skip, bc_seq, bc_cond, bc_block, bc_exit, bc_ret, bc_region, lkX_cons, acond_tmp, aCase_t, aCase_f, aCase_b, afin_nil, cvE_some, resL, resV, resC, cv, cvL, pack, entryE, inPrm, entryB, inPrms, bxCells, Option.getD_some, acall_clo, add_sp, add_lend, kcall_nil, selOf, selC, selA, inArgs, inA, inL, okA, okL, okBx, okC, outA, outL, outU, outB, deep, deepL, boxIds, AV.bid, List.map_nil, List.map_cons, List.all_nil, List.all_cons, BEq.rfl, Bool.and_true, Bool.true_and, List.append_nil, aops_nil, aops_plain, aops_guard, kont_at, yes_at, no_at, aop_move, aop_assign, aop_pick, aop_alloc, aop_box, aop_build, aop_buildSlice, aop_load, aop_store, aop_nilCheck, aop_binOp, aop_unOp, aop_convert, aop_fieldAddr, aop_indexAddr, aop_slice, aop_extract, aop_makeSlice, aop_len, aop_max, aMax_int, slTy2, SC0, aop_append, aop_call, evalE, getE, putE, getB, setB, St.put, setsB, nth, AV.ofV, AV.blk, AV.bid, AV.one, SC.len, SC.get, List.length_nil, List.length_cons, Nat.reduceEqDiff, Nat.reduceAdd, ↓reduceIte, true_and, and_true, Bool.true_eq_false, Bool.false_eq_true, false_imp_iff, true_imp_iff, decide_eq_true_eq, Bool.not_eq_true', Bool.not_eq_false', decide_eq_false_iff_not, Option.isSome, List.nil_append, List.cons_append, aGuardO_some, aGuard_tt, aGuard_tf, aGuard_ft, aGuard_ff, aGuard_tb, aGuard_fb, aGuard_ts, aGuard_fs, aPick_b, aPick_t, aPick_f, aAlloc_one, aAlloc_flat, aBox_some, aBuild_flat, aInt_add, aBin_add, aInt_sub, aBin_sub, aInt_mul, aBin_mul, aInt_quo, aBin_quo, aInt_rem, aBin_rem, aInt_and, aBin_and, aInt_or, aBin_or, aInt_xor, aBin_xor, aInt_andNot, aBin_andNot, aInt_eql, aBin_eql, aInt_neq, aBin_neq, aInt_lss, aBin_lss, aInt_leq, aBin_leq, aInt_gtr, aBin_gtr, aInt_geq, aBin_geq, aBin_shl, aBin_shr, aShift_shl, aShift_shr, aBin_be1, aBin_bn1, aBin_be2, aBin_bn2, aBin_be3, aBin_bn3, aBin_be4, aBin_bn4, aBin_be5, aBin_bn5, aBin_be6, aBin_bn6, aBin_be7, aBin_bn7, aBin_be8, aBin_bn8, aBin_be9, aBin_bn9, aUn_b, aUn_t, aUn_f, aUn_i, aNil_ptr, aNil_pv, aConv_int, aField_ptr, aField_pv, aIdx_sl, aIdx_prm, aIdx_row, aIdx_drow, aMake_i, aMake_s, aExtr_tup, aLen_ref, aLen_nil, aLen_sl, aLen_prm, aLen_str, aBuildL_some, aBuildS_some, aLoad_1b, aLoad_1d, aLoad_fb, aLoad_fd, aLoad_1p, aLoad_fp, aLoad_ep, aLoad_rr, aLoad_rd, aStore_1, aStore_f, aStore_r, aApp_some, aAppend_nil, aAppend_ref, aSlice_h, aSlice_l, aSlice_lh, aop_slice3, aSlice3_r, aop_field, aFld_agg, aBinW_f, aBinW_t, aWrap_mul, aWrap_add, isW_tmp, isW_mulc, isW_addc, isW_sub, isW_quo, isW_rem, isW_and, isW_or, isW_xor, isW_andNot, isW_shl, isW_shr, isW_eql, isW_neq, isW_lss, isW_leq, isW_gtr, isW_geq, Int.reduceLT, aBinW_dF, aBinW_dT, bc_draw, kregD_at, aopsD_nil, aopsD_plain, aopsD_guard, kontD_at, splW_t, splW_f, contD_at, yesD_at, noD_at, splD_bool, splD_undef, splD_skip, splD_int, splD_tt, splD_ff, splD_str, splD_nil, splD_sl, splD_prm, splD_ref, splD_ptr, splD_rp, splD_ep, splD_pv, splD_agg, splD_tup, splD_clo, gD_tt, gD_tf, gD_ft, gD_ff, gD_ts, gD_fs, slotO_some, addTr_nil, addTr_cons, memQ_nil, memQ_cons, clash_nil, clash_cons, regC_none, regC_nil, regC_cons, regR_nil, regR_cons, Int.toNat_zero, Int.toNat_one, rng0, rng1, rng2, rng3, rng4, SC.take, SC.drop, mp_nil, acond_ct, acond_cf, mp_one0, mp_one1, mp_one2, mp_one3, kcall_one, liveB_row, liveB_box, idx, cont, still, dies, lend, lendA, lendDies, snocs, SC.snoc, SC.app, meet, AV.cells, fillA, List.getD_cons_zero, List.getD_cons_succ, List.set_cons_zero, List.set_cons_succ, List.length_singleton, Nat.le_refl, Nat.lt_irrefl, Nat.reduceLT, Nat.reduceLeDiff, Option.map_some, Option.map_none, List.flatMap_nil, List.flatMap_cons, Nat.zero_add, BEq.rfl, kcall_two, mp_two0, mp_two1, mp_two2, mp_two3, mp_two4, aop_makeFunc, plainA, Bool.true_and, sl3, ty3, un3, sl78, ty78, un78, sl106, ty106, un106, sl104, ty104, un104, sl5, ty5, un5, sl2, ty2, un2, sl21, ty21, un21, sl4, ty4, un4, sl9, un9, sl24, ty24, un24, sl22, ty22, un22, sl42, ty42, un42, sl47, sl82, sl68, sl107, sl115, sl119, ty82, ty56, sl56, ty26, sl26, ty101, sl101, ty93, sl93, inR64, inRu64, inRu32, gm_laws_big, Try.f9]

def lend_laws_big : List Nat := []
def sp_laws_big : List AV → List Bx → (AV → List Bx → Prop) → Prop
  | [.sl none (.ints .u8 bs)], [], K => K (.bool (decide (1048576 < (bs.length : Int)))) []
  | _, _, _ => False
theorem at_laws_big {bs : List Int} {K : AV → List Bx → Prop} : sp_laws_big [.sl none (.ints .u8 bs)] [] K = (K (.bool (decide (1048576 < (bs.length : Int)))) []) := id rfl
theorem ok_laws_big : ∀ args giv K, sp_laws_big args giv K → ∃ r outs, ARuns Try.prog 9 args giv r outs ∧ K r outs := by
  intro args giv K hk
  unfold sp_laws_big at hk
  split at hk
  · exact ⟨_, _, runs_laws_big _ , hk⟩
  · exact hk.elim
theorem is_spec_l1Byte : FnIs Try.prog 164 58 [.tmp 2] (Try.f164.body.getD .skip) := ⟨⟨Try.f164, by kernel_rfl, by kernel_rfl, by kernel_rfl, by kernel_rfl⟩, by kernel_rfl, by kernel_rfl⟩
def G_spec_l1Byte : Gm := Gm.none
theorem G_spec_l1Byte_ok : G_spec_l1Byte.ok Try.prog := Gm.none_ok
theorem gm_spec_l1Byte {r : List Oper} {n : Nat} : splB G_spec_l1Byte r n = true := rfl
set_option maxHeartbeats 1000000 in
set_option maxRecDepth 100000 in
theorem runs_spec_l1Byte (bs : List Int) (i h : Int) (hp1 : OkBs bs) (hp2 : 0 ≤ i) : ARuns Try.prog 164 [.ptr 0 0] [.box [.sl none (.ints .u8 bs), .int .i64 i, .int .i64 h]] (.int .i64 (byteV bs (i, h))) [.box [.prm 1 (.ints .u8 bs), .int .i64 (byteC bs (i, h)).1, .int .i64 (byteC bs (i, h)).2]] := by
  refine ARuns_bc G_spec_l1Byte_ok is_spec_l1Byte (by simp) fun hl hlB => ?_
  simp only [kcode_at, kreg_at, bc_skip, bc_seq, bc_cond, bc_block, bc_exit, bc_ret, bc_region, lkX_cons, acond_tmp, aCase_t, aCase_f, aCase_b, afin_nil, cvE_some, resL, resV, resC, cv, cvL, pack, entryE, inPrm, entryB, inPrms, bxCells, Option.getD_some, acall_clo, add_sp, add_lend, kcall_nil, selOf, selC, selA, inArgs, inA, inL, okA, okL, okBx, okC, outA, outL, outU, outB, deep, deepL, boxIds, AV.bid, List.map_nil, List.map_cons, List.all_nil, List.all_cons, BEq.rfl, Bool.and_true, Bool.true_and, List.append_nil, aops_nil, aops_plain, aops_guard, kont_at, yes_at, no_at, aop_move, aop_assign, aop_pick, aop_alloc, aop_box, aop_build, aop_buildSlice, aop_load, aop_store, aop_nilCheck, aop_binOp, aop_unOp, aop_convert, aop_fieldAddr, aop_indexAddr, aop_slice, aop_extract, aop_makeSlice, aop_len, aop_max, aMax_int, slTy2, SC0, aop_append, aop_call, evalE, getE, putE, getB, setB, St.put, setsB, nth, AV.ofV, AV.blk, AV.bid, AV.one, SC.len, SC.get, List.length_nil, List.length_cons, Nat.reduceEqDiff, Nat.reduceAdd, ↓reduceIte, true_and, and_true, Bool.true_eq_false, Bool.false_eq_true, false_imp_iff, true_imp_iff, decide_eq_true_eq, Bool.not_eq_true', Bool.not_eq_false', decide_eq_false_iff_not, Option.isSome, List.nil_append, List.cons_append, aGuardO_some, aGuard_tt, aGuard_tf, aGuard_ft, aGuard_ff, aGuard_tb, aGuard_fb, aGuard_ts, aGuard_fs, aPick_b, aPick_t, aPick_f, aAlloc_one, aAlloc_flat, aBox_some, aBuild_flat, aInt_add, aBin_add, aInt_sub, aBin_sub, aInt_mul, aBin_mul, aInt_quo, aBin_quo, aInt_rem, aBin_rem, aInt_and, aBin_and, aInt_or, aBin_or, aInt_xor, aBin_xor, aInt_andNot, aBin_andNot, aInt_eql, aBin_eql, aInt_neq, aBin_neq, aInt_lss, aBin_lss, aInt_leq, aBin_leq, aInt_gtr, aBin_gtr, aInt_geq, aBin_geq, aBin_shl, aBin_shr, aShift_shl, aShift_shr, aBin_be1, aBin_bn1, aBin_be2, aBin_bn2, aBin_be3, aBin_bn3, aBin_be4, aBin_bn4, aBin_be5, aBin_bn5, aBin_be6, aBin_bn6, aBin_be7, aBin_bn7, aBin_be8, aBin_bn8, aBin_be9, aBin_bn9, aUn_b, aUn_t, aUn_f, aUn_i, aNil_ptr, aNil_pv, aConv_int, aField_ptr, aField_pv, aIdx_sl, aIdx_prm, aIdx_row, aIdx_drow, aMake_i, aMake_s, aExtr_tup, aLen_ref, aLen_nil, aLen_sl, aLen_prm, aLen_str, aBuildL_some, aBuildS_some, aLoad_1b, aLoad_1d, aLoad_fb, aLoad_fd, aLoad_1p, aLoad_fp, aLoad_ep, aLoad_rr, aLoad_rd, aStore_1, aStore_f, aStore_r, aApp_some, aAppend_nil, aAppend_ref, aSlice_h, aSlice_l, aSlice_lh, aop_slice3, aSlice3_r, aop_field, aFld_agg, aBinW_f, aBinW_t, aWrap_mul, aWrap_add, isW_tmp, isW_mulc, isW_addc, isW_sub, isW_quo, isW_rem, isW_and, isW_or, isW_xor, isW_andNot, isW_shl, isW_shr, isW_eql, isW_neq, isW_lss, isW_leq, isW_gtr, isW_geq, Int.reduceLT, aBinW_dF, aBinW_dT, bc_draw, kregD_at, aopsD_nil, aopsD_plain, aopsD_guard, kontD_at, splW_t, splW_f, contD_at, yesD_at, noD_at, splD_bool, splD_undef, splD_skip, splD_int, splD_tt, splD_ff, splD_str, splD_nil, splD_sl, splD_prm, splD_ref, splD_ptr, splD_rp, splD_ep, splD_pv, splD_agg, splD_tup, splD_clo, gD_tt, gD_tf, gD_ft, gD_ff, gD_ts, gD_fs, slotO_some, addTr_nil, addTr_cons, memQ_nil, memQ_cons, clash_nil, clash_cons, regC_none, regC_nil, regC_cons, regR_nil, regR_cons, Int.toNat_zero, Int.toNat_one, rng0, rng1, rng2, rng3, rng4, SC.take, SC.drop, mp_nil, acond_ct, acond_cf, mp_one0, mp_one1, mp_one2, mp_one3, kcall_one, liveB_row, liveB_box, idx, cont, still, dies, lend, lendA, lendDies, snocs, SC.snoc, SC.app, meet, AV.cells, fillA, List.getD_cons_zero, List.getD_cons_succ, List.set_cons_zero, List.set_cons_succ, List.length_singleton, Nat.le_refl, Nat.lt_irrefl, Nat.reduceLT, Nat.reduceLeDiff, Option.map_some, Option.map_none, List.flatMap_nil, List.flatMap_cons, Nat.zero_add, BEq.rfl, kcall_two, mp_two0, mp_two1, mp_two2, mp_two3, mp_two4, aop_makeFunc, plainA, Bool.true_and, sl3, ty3, un3, sl78, ty78, un78, sl106, ty106, un106, sl104, ty104, un104, sl5, ty5, un5, sl2, ty2, un2, sl21, ty21, un21, sl4, ty4, un4, sl9, un9, sl24, ty24, un24, sl22, ty22, un22, sl42, ty42, un42, sl47, sl82, sl68, sl107, sl115, sl119, ty82, ty56, sl56, ty26, sl26, ty101, sl101, ty93, sl93, inR64, inRu64, inRu32, gm_spec_l1Byte, Try.f164]
  have e33 : Int.toNat 33 = 33 := rfl
  have e45 : Int.toNat 45 = 45 := rfl
  simp only [e33, e45, IntKind.bits]
  refine ⟨by omega, by omega, fun hlt => ?_, fun hge => ?_⟩
  · obtain ⟨h7, hp1⟩ := hp1
    have h5 := @curX_bd (curH h)
    have h6 := hp1 i.toNat (by omega)
    rw [(byte_t hlt).1, (byte_t hlt).2]
    unfold curX curH at *
    refine ⟨by omega, by omega, by omega, by omega, afin_of [0] rfl rfl (by simp [St.conv, St.bf, getE, putE, getB, cv, cvL, cvB, idx, still, pack, lifts, liftOne, liftC, liftK, killB, cellsOfB, setB]) (by simp [St.conv, St.bf, getE, putE, getB, cv, cvL, cvB, idx, still, pack, lifts, liftOne, liftC, liftK, killB, cellsOfB, setB])⟩
  · rw [(byte_f hge).1, (byte_f hge).2]
    exact afin_of [0] rfl rfl (by simp [St.conv, St.bf, getE, putE, getB, cv, cvL, cvB, idx, still, pack, lifts, liftOne, liftC, liftK, killB, cellsOfB, setB]; rfl) (by simp [St.conv, St.bf, getE, putE, getB, cv, cvL, cvB, idx, still, pack, lifts, liftOne, liftC, liftK, killB, cellsOfB, setB]; rfl)
def lend_spec_l1Byte : List Nat := [0]
def sp_spec_l1Byte : List AV → List Bx → (AV → List Bx → Prop) → Prop
  | [.ptr 0 0], [.box [.sl none (.ints .u8 bs), .int .i64 i, .int .i64 h]], K => (OkBs bs) ∧ (0 ≤ i) ∧ K (.int .i64 (byteV bs (i, h))) [.box [.prm 1 (.ints .u8 bs), .int .i64 (byteC bs (i, h)).1, .int .i64 (byteC bs (i, h)).2]]
  | _, _, _ => False
theorem at_spec_l1Byte {bs : List Int} {i h : Int} {K : AV → List Bx → Prop} : sp_spec_l1Byte [.ptr 0 0] [.box [.sl none (.ints .u8 bs), .int .i64 i, .int .i64 h]] K = ((OkBs bs) ∧ (0 ≤ i) ∧ K (.int .i64 (byteV bs (i, h))) [.box [.prm 1 (.ints .u8 bs), .int .i64 (byteC bs (i, h)).1, .int .i64 (byteC bs (i, h)).2]]) := id rfl
theorem ok_spec_l1Byte : ∀ args giv K, sp_spec_l1Byte args giv K → ∃ r outs, ARuns Try.prog 164 args giv r outs ∧ K r outs := by
  intro args giv K hk
  unfold sp_spec_l1Byte at hk
  split at hk
  · obtain ⟨hp1, hp2, hk⟩ := hk; exact ⟨_, _, runs_spec_l1Byte _ _ _ hp1 hp2, hk⟩
  · exact hk.elim
theorem is_spec_l1Below : FnIs Try.prog 119 37 [.tmp 4] (Try.f119.body.getD .skip) := ⟨⟨Try.f119, by kernel_rfl, by kernel_rfl, by kernel_rfl, by kernel_rfl⟩, by kernel_rfl, by kernel_rfl⟩
def G_spec_l1Below : Gm := (Gm.none.add 164 lend_spec_l1Byte sp_spec_l1Byte)
theorem G_spec_l1Below_ok : G_spec_l1Below.ok Try.prog := (Gm.add_ok Gm.none_ok ok_spec_l1Byte)
theorem gm_spec_l1Below {r : List Oper} {n : Nat} : splB G_spec_l1Below r n = true := rfl
theorem gs_spec_l1Below_164 : G_spec_l1Below.sp 164 = sp_spec_l1Byte ∧ G_spec_l1Below.lend 164 = lend_spec_l1Byte := ⟨rfl, rfl⟩
set_option maxHeartbeats 1000000 in
set_option maxRecDepth 100000 in
theorem runs_spec_l1Below (bs : List Int) (i h n : Int) (hp1 : OkBs bs) (hp2 : 0 ≤ i) : ARuns Try.prog 119 [.ptr 0 0, .int .i64 n] [.box [.sl none (.ints .u8 bs), .int .i64 i, .int .i64 h]] (.int .i64 (belowV bs (i, h) n)) [.box [.prm 2 (.ints .u8 bs), .int .i64 (belowC bs (i, h) n).1, .int .i64 (belowC bs (i, h) n).2]] := by
  refine ARuns_bc G_spec_l1Below_ok is_spec_l1Below (by simp) fun hl hlB => ?_
  simp only [kcode_at, kreg_at, bc_skip, bc_seq, bc_cond, bc_block, bc_exit, bc_ret, bc_region, lkX_cons, acond_tmp, aCase_t, aCase_f, aCase_b, afin_nil, cvE_some, resL, resV, resC, cv, cvL, pack, entryE, inPrm, entryB, inPrms, bxCells, Option.getD_some, acall_clo, add_sp, add_lend, kcall_nil, selOf, selC, selA, inArgs, inA, inL, okA, okL, okBx, okC, outA, outL, outU, outB, deep, deepL, boxIds, AV.bid, List.map_nil, List.map_cons, List.all_nil, List.all_cons, BEq.rfl, Bool.and_true, Bool.true_and, List.append_nil, aops_nil, aops_plain, aops_guard, kont_at, yes_at, no_at, aop_move, aop_assign, aop_pick, aop_alloc, aop_box, aop_build, aop_buildSlice, aop_load, aop_store, aop_nilCheck, aop_binOp, aop_unOp, aop_convert, aop_fieldAddr, aop_indexAddr, aop_slice, aop_extract, aop_makeSlice, aop_len, aop_max, aMax_int, slTy2, SC0, aop_append, aop_call, evalE, getE, putE, getB, setB, St.put, setsB, nth, AV.ofV, AV.blk, AV.bid, AV.one, SC.len, SC.get, List.length_nil, List.length_cons, Nat.reduceEqDiff, Nat.reduceAdd, ↓reduceIte, true_and, and_true, Bool.true_eq_false, Bool.false_eq_true, false_imp_iff, true_imp_iff, decide_eq_true_eq, Bool.not_eq_true', Bool.not_eq_false', decide_eq_false_iff_not, Option.isSome, List.nil_append, List.cons_append, aGuardO_some, aGuard_tt, aGuard_tf, aGuard_ft, aGuard_ff, aGuard_tb, aGuard_fb, aGuard_ts, aGuard_fs, aPick_b, aPick_t, aPick_f, aAlloc_one, aAlloc_flat, aBox_some, aBuild_flat, aInt_add, aBin_add, aInt_sub, aBin_sub, aInt_mul, aBin_mul, aInt_quo, aBin_quo, aInt_rem, aBin_rem, aInt_and, aBin_and, aInt_or, aBin_or, aInt_xor, aBin_xor, aInt_andNot, aBin_andNot, aInt_eql, aBin_eql, aInt_neq, aBin_neq, aInt_lss, aBin_lss, aInt_leq, aBin_leq, aInt_gtr, aBin_gtr, aInt_geq, aBin_geq, aBin_shl, aBin_shr, aShift_shl, aShift_shr, aBin_be1, aBin_bn1, aBin_be2, aBin_bn2, aBin_be3, aBin_bn3, aBin_be4, aBin_bn4, aBin_be5, aBin_bn5, aBin_be6, aBin_bn6, aBin_be7, aBin_bn7, aBin_be8, aBin_bn8, aBin_be9, aBin_bn9, aUn_b, aUn_t, aUn_f, aUn_i, aNil_ptr, aNil_pv, aConv_int, aField_ptr, aField_pv, aIdx_sl, aIdx_prm, aIdx_row, aIdx_drow, aMake_i, aMake_s, aExtr_tup, aLen_ref, aLen_nil, aLen_sl, aLen_prm, aLen_str, aBuildL_some, aBuildS_some, aLoad_1b, aLoad_1d, aLoad_fb, aLoad_fd, aLoad_1p, aLoad_fp, aLoad_ep, aLoad_rr, aLoad_rd, aStore_1, aStore_f, aStore_r, aApp_some, aAppend_nil, aAppend_ref, aSlice_h, aSlice_l, aSlice_lh, aop_slice3, aSlice3_r, aop_field, aFld_agg, aBinW_f, aBinW_t, aWrap_mul, aWrap_add, isW_tmp, isW_mulc, isW_addc, isW_sub, isW_quo, isW_rem, isW_and, isW_or, isW_xor, isW_andNot, isW_shl, isW_shr, isW_eql, isW_neq, isW_lss, isW_leq, isW_gtr, isW_geq, Int.reduceLT, aBinW_dF, aBinW_dT, bc_draw, kregD_at, aopsD_nil, aopsD_plain, aopsD_guard, kontD_at, splW_t, splW_f, contD_at, yesD_at, noD_at, splD_bool, splD_undef, splD_skip, splD_int, splD_tt, splD_ff, splD_str, splD_nil, splD_sl, splD_prm, splD_ref, splD_ptr, splD_rp, splD_ep, splD_pv, splD_agg, splD_tup, splD_clo, gD_tt, gD_tf, gD_ft, gD_ff, gD_ts, gD_fs, slotO_some, addTr_nil, addTr_cons, memQ_nil, memQ_cons, clash_nil, clash_cons, regC_none, regC_nil, regC_cons, regR_nil, regR_cons, Int.toNat_zero, Int.toNat_one, rng0, rng1, rng2, rng3, rng4, SC.take, SC.drop, mp_nil, acond_ct, acond_cf, mp_one0, mp_one1, mp_one2, mp_one3, kcall_one, liveB_row, liveB_box, idx, cont, still, dies, lend, lendA, lendDies, snocs, SC.snoc, SC.app, meet, AV.cells, fillA, List.getD_cons_zero, List.getD_cons_succ, List.set_cons_zero, List.set_cons_succ, List.length_singleton, Nat.le_refl, Nat.lt_irrefl, Nat.reduceLT, Nat.reduceLeDiff, Option.map_some, Option.map_none, List.flatMap_nil, List.flatMap_cons, Nat.zero_add, BEq.rfl, kcall_two, mp_two0, mp_two1, mp_two2, mp_two3, mp_two4, aop_makeFunc, plainA, Bool.true_and, sl3, ty3, un3, sl78, ty78, un78, sl106, ty106, un106, sl104, ty104, un104, sl5, ty5, un5, sl2, ty2, un2, sl21, ty21, un21, sl4, ty4, un4, sl9, un9, sl24, ty24, un24, sl22, ty22, un22, sl42, ty42, un42, sl47, sl82, sl68, sl107, sl115, sl119, ty82, ty56, sl56, ty26, sl26, ty101, sl101, ty93, sl93, inR64, inRu64, inRu32, gm_spec_l1Below, gs_spec_l1Below_164, at_spec_l1Byte, lend_spec_l1Byte, cu_eta, Try.f119]
  have h1 := @byteV_bd bs (i, h)
  have h2 := @byteV_bd bs (byteC bs (i, h))
  have h3 := @byteV_bd bs (byteC bs (byteC bs (i, h)))
  have h4 := @byteV_bd bs (byteC bs (byteC bs (byteC bs (i, h))))
  have c1 := @byteC_nn bs (i, h) hp2
  have c2 := @byteC_nn bs _ c1
  have c3 := @byteC_nn bs _ c2
  refine ⟨fun hn => ?_, fun hn => ⟨fun hs => ⟨hp1, hp2, by omega, ?_⟩, fun hs => ⟨hp1, hp2, hp1, c1, hp1, c2, hp1, c3, by omega, by omega, by omega, by omega, by omega, by omega, by omega, ?_⟩⟩⟩
  · rw [(belowV_0 hn).1, (belowV_0 hn).2]
    exact afin_of [0] rfl rfl (by simp [St.conv, St.bf, getE, putE, getB, cv, cvL, cvB, idx, still, pack, lifts, liftOne, liftC, liftK, killB, cellsOfB, setB]) (by simp [St.conv, St.bf, getE, putE, getB, cv, cvL, cvB, idx, still, pack, lifts, liftOne, liftC, liftK, killB, cellsOfB, setB])
  · rw [(below_s hn hs).1, (below_s hn hs).2]
    exact afin_of [0] rfl rfl (by simp [St.conv, St.bf, getE, putE, getB, cv, cvL, cvB, idx, still, pack, lifts, liftOne, liftC, liftK, killB, cellsOfB, setB]) (by simp [St.conv, St.bf, getE, putE, getB, cv, cvL, cvB, idx, still, pack, lifts, liftOne, liftC, liftK, killB, cellsOfB, setB])
  · rw [(below_b hn hs).1, (below_b hn hs).2]
    exact afin_of [0] rfl rfl (by simp [St.conv, St.bf, getE, putE, getB, cv, cvL, cvB, idx, still, pack, lifts, liftOne, liftC, liftK, killB, cellsOfB, setB]) (by simp [St.conv, St.bf, getE, putE, getB, cv, cvL, cvB, idx, still, pack, lifts, liftOne, liftC, liftK, killB, cellsOfB, setB])
def lend_spec_l1Below : List Nat := [0]
def sp_spec_l1Below : List AV → List Bx → (AV → List Bx → Prop) → Prop
  | [.ptr 0 0, .int .i64 n], [.box [.sl none (.ints .u8 bs), .int .i64 i, .int .i64 h]], K => (OkBs bs) ∧ (0 ≤ i) ∧ K (.int .i64 (belowV bs (i, h) n)) [.box [.prm 2 (.ints .u8 bs), .int .i64 (belowC bs (i, h) n).1, .int .i64 (belowC bs (i, h) n).2]]
  | _, _, _ => False
theorem at_spec_l1Below {bs : List Int} {i h n : Int} {K : AV → List Bx → Prop} : sp_spec_l1Below [.ptr 0 0, .int .i64 n] [.box [.sl none (.ints .u8 bs), .int .i64 i, .int .i64 h]] K = ((OkBs bs) ∧ (0 ≤ i) ∧ K (.int .i64 (belowV bs (i, h) n)) [.box [.prm 2 (.ints .u8 bs), .int .i64 (belowC bs (i, h) n).1, .int .i64 (belowC bs (i, h) n).2]]) := id rfl
theorem ok_spec_l1Below : ∀ args giv K, sp_spec_l1Below args giv K → ∃ r outs, ARuns Try.prog 119 args giv r outs ∧ K r outs := by
  intro args giv K hk
  unfold sp_spec_l1Below at hk
  split at hk
  · obtain ⟨hp1, hp2, hk⟩ := hk; exact ⟨_, _, runs_spec_l1Below _ _ _ _ hp1 hp2, hk⟩
  · exact hk.elim
theorem is_spec_l1PickInt : FnIs Try.prog 158 12 [.tmp 4] (Try.f158.body.getD .skip) := ⟨⟨Try.f158, by kernel_rfl, by kernel_rfl, by kernel_rfl, by kernel_rfl⟩, by kernel_rfl, by kernel_rfl⟩
def G_spec_l1PickInt : Gm := (Gm.none.add 119 lend_spec_l1Below sp_spec_l1Below)
theorem G_spec_l1PickInt_ok : G_spec_l1PickInt.ok Try.prog := (Gm.add_ok Gm.none_ok ok_spec_l1Below)
theorem gm_spec_l1PickInt {r : List Oper} {n : Nat} : splB G_spec_l1PickInt r n = true := rfl
theorem gs_spec_l1PickInt_119 : G_spec_l1PickInt.sp 119 = sp_spec_l1Below ∧ G_spec_l1PickInt.lend 119 = lend_spec_l1Below := ⟨rfl, rfl⟩
set_option maxHeartbeats 1000000 in
set_option maxRecDepth 100000 in
theorem runs_spec_l1PickInt (bs : List Int) (i h : Int) (xs : List Int) (hp1 : OkBs bs) (hp2 : 0 ≤ i) (hp3 : 0 < xs.length) : ARuns Try.prog 158 [.ptr 0 0, .sl none (.ints .i64 xs)] [.box [.sl none (.ints .u8 bs), .int .i64 i, .int .i64 h]] (.int .i64 (pickV bs (i, h) xs)) [.box [.prm 2 (.ints .u8 bs), .int .i64 (belowC bs (i, h) xs.length).1, .int .i64 (belowC bs (i, h) xs.length).2]] := by
  refine ARuns_bc G_spec_l1PickInt_ok is_spec_l1PickInt (by simp) fun hl hlB => ?_
  simp only [kcode_at, kreg_at, bc_skip, bc_seq, bc_cond, bc_block, bc_exit, bc_ret, bc_region, lkX_cons, acond_tmp, aCase_t, aCase_f, aCase_b, afin_nil, cvE_some, resL, resV, resC, cv, cvL, pack, entryE, inPrm, entryB, inPrms, bxCells, Option.getD_some, acall_clo, add_sp, add_lend, kcall_nil, selOf, selC, selA, inArgs, inA, inL, okA, okL, okBx, okC, outA, outL, outU, outB, deep, deepL, boxIds, AV.bid, List.map_nil, List.map_cons, List.all_nil, List.all_cons, BEq.rfl, Bool.and_true, Bool.true_and, List.append_nil, aops_nil, aops_plain, aops_guard, kont_at, yes_at, no_at, aop_move, aop_assign, aop_pick, aop_alloc, aop_box, aop_build, aop_buildSlice, aop_load, aop_store, aop_nilCheck, aop_binOp, aop_unOp, aop_convert, aop_fieldAddr, aop_indexAddr, aop_slice, aop_extract, aop_makeSlice, aop_len, aop_max, aMax_int, slTy2, SC0, aop_append, aop_call, evalE, getE, putE, getB, setB, St.put, setsB, nth, AV.ofV, AV.blk, AV.bid, AV.one, SC.len, SC.get, List.length_nil, List.length_cons, Nat.reduceEqDiff, Nat.reduceAdd, ↓reduceIte, true_and, and_true, Bool.true_eq_false, Bool.false_eq_true, false_imp_iff, true_imp_iff, decide_eq_true_eq, Bool.not_eq_true', Bool.not_eq_false', decide_eq_false_iff_not, Option.isSome, List.nil_append, List.cons_append, aGuardO_some, aGuard_tt, aGuard_tf, aGuard_ft, aGuard_ff, aGuard_tb, aGuard_fb, aGuard_ts, aGuard_fs, aPick_b, aPick_t, aPick_f, aAlloc_one, aAlloc_flat, aBox_some, aBuild_flat, aInt_add, aBin_add, aInt_sub, aBin_sub, aInt_mul, aBin_mul, aInt_quo, aBin_quo, aInt_rem, aBin_rem, aInt_and, aBin_and, aInt_or, aBin_or, aInt_xor, aBin_xor, aInt_andNot, aBin_andNot, aInt_eql, aBin_eql, aInt_neq, aBin_neq, aInt_lss, aBin_lss, aInt_leq, aBin_leq, aInt_gtr, aBin_gtr, aInt_geq, aBin_geq, aBin_shl, aBin_shr, aShift_shl, aShift_shr, aBin_be1, aBin_bn1, aBin_be2, aBin_bn2, aBin_be3, aBin_bn3, aBin_be4, aBin_bn4, aBin_be5, aBin_bn5, aBin_be6, aBin_bn6, aBin_be7, aBin_bn7, aBin_be8, aBin_bn8, aBin_be9, aBin_bn9, aUn_b, aUn_t, aUn_f, aUn_i, aNil_ptr, aNil_pv, aConv_int, aField_ptr, aField_pv, aIdx_sl, aIdx_prm, aIdx_row, aIdx_drow, aMake_i, aMake_s, aExtr_tup, aLen_ref, aLen_nil, aLen_sl, aLen_prm, aLen_str, aBuildL_some, aBuildS_some, aLoad_1b, aLoad_1d, aLoad_fb, aLoad_fd, aLoad_1p, aLoad_fp, aLoad_ep, aLoad_rr, aLoad_rd, aStore_1, aStore_f, aStore_r, aApp_some, aAppend_nil, aAppend_ref, aSlice_h, aSlice_l, aSlice_lh, aop_slice3, aSlice3_r, aop_field, aFld_agg, aBinW_f, aBinW_t, aWrap_mul, aWrap_add, isW_tmp, isW_mulc, isW_addc, isW_sub, isW_quo, isW_rem, isW_and, isW_or, isW_xor, isW_andNot, isW_shl, isW_shr, isW_eql, isW_neq, isW_lss, isW_leq, isW_gtr, isW_geq, Int.reduceLT, aBinW_dF, aBinW_dT, bc_draw, kregD_at, aopsD_nil, aopsD_plain, aopsD_guard, kontD_at, splW_t, splW_f, contD_at, yesD_at, noD_at, splD_bool, splD_undef, splD_skip, splD_int, splD_tt, splD_ff, splD_str, splD_nil, splD_sl, splD_prm, splD_ref, splD_ptr, splD_rp, splD_ep, splD_pv, splD_agg, splD_tup, splD_clo, gD_tt, gD_tf, gD_ft, gD_ff, gD_ts, gD_fs, slotO_some, addTr_nil, addTr_cons, memQ_nil, memQ_cons, clash_nil, clash_cons, regC_none, regC_nil, regC_cons, regR_nil, regR_cons, Int.toNat_zero, Int.toNat_one, rng0, rng1, rng2, rng3, rng4, SC.take, SC.drop, mp_nil, acond_ct, acond_cf, mp_one0, mp_one1, mp_one2, mp_one3, kcall_one, liveB_row, liveB_box, idx, cont, still, dies, lend, lendA, lendDies, snocs, SC.snoc, SC.app, meet, AV.cells, fillA, List.getD_cons_zero, List.getD_cons_succ, List.set_cons_zero, List.set_cons_succ, List.length_singleton, Nat.le_refl, Nat.lt_irrefl, Nat.reduceLT, Nat.reduceLeDiff, Option.map_some, Option.map_none, List.flatMap_nil, List.flatMap_cons, Nat.zero_add, BEq.rfl, kcall_two, mp_two0, mp_two1, mp_two2, mp_two3, mp_two4, aop_makeFunc, plainA, Bool.true_and, sl3, ty3, un3, sl78, ty78, un78, sl106, ty106, un106, sl104, ty104, un104, sl5, ty5, un5, sl2, ty2, un2, sl21, ty21, un21, sl4, ty4, un4, sl9, un9, sl24, ty24, un24, sl22, ty22, un22, sl42, ty42, un42, sl47, sl82, sl68, sl107, sl115, sl119, ty82, ty56, sl56, ty26, sl26, ty101, sl101, ty93, sl93, inR64, inRu64, inRu32, gm_spec_l1PickInt, gs_spec_l1PickInt_119, at_spec_l1Below, lend_spec_l1Below, cu_eta, Try.f158]
  have hb := @belowV_bd bs (i, h) xs.length (by omega)
  exact ⟨hp1, hp2, by omega, afin_of [0] rfl rfl (by simp [St.conv, St.bf, getE, putE, getB, cv, cvL, cvB, idx, still, pack, lifts, liftOne, liftC, liftK, killB, cellsOfB, setB]; rfl) (by simp [St.conv, St.bf, getE, putE, getB, cv, cvL, cvB, idx, still, pack, lifts, liftOne, liftC, liftK, killB, cellsOfB, setB])⟩
def lend_spec_l1PickInt : List Nat := [0]
def sp_spec_l1PickInt : List AV → List Bx → (AV → List Bx → Prop) → Prop
  | [.ptr 0 0, .sl none (.ints .i64 xs)], [.box [.sl none (.ints .u8 bs), .int .i64 i, .int .i64 h]], K => (OkBs bs) ∧ (0 ≤ i) ∧ (0 < xs.length) ∧ K (.int .i64 (pickV bs (i, h) xs)) [.box [.prm 2 (.ints .u8 bs), .int .i64 (belowC bs (i, h) xs.length).1, .int .i64 (belowC bs (i, h) xs.length).2]]
  | _, _, _ => False
theorem at_spec_l1PickInt {bs : List Int} {i h : Int} {xs : List Int} {K : AV → List Bx → Prop} : sp_spec_l1PickInt [.ptr 0 0, .sl none (.ints .i64 xs)] [.box [.sl none (.ints .u8 bs), .int .i64 i, .int .i64 h]] K = ((OkBs bs) ∧ (0 ≤ i) ∧ (0 < xs.length) ∧ K (.int .i64 (pickV bs (i, h) xs)) [.box [.prm 2 (.ints .u8 bs), .int .i64 (belowC bs (i, h) xs.length).1, .int .i64 (belowC bs (i, h) xs.length).2]]) := id rfl
theorem ok_spec_l1PickInt : ∀ args giv K, sp_spec_l1PickInt args giv K → ∃ r outs, ARuns Try.prog 158 args giv r outs ∧ K r outs := by
  intro args giv K hk
  unfold sp_spec_l1PickInt at hk
  split at hk
  · obtain ⟨hp1, hp2, hp3, hk⟩ := hk; exact ⟨_, _, runs_spec_l1PickInt _ _ _ _ hp1 hp2 hp3, hk⟩
  · exact hk.elim
theorem is_spec_l15Put : FnIs Try.prog 137 45 [.tmp 4] (Try.f137.body.getD .skip) := ⟨⟨Try.f137, by kernel_rfl, by kernel_rfl, by kernel_rfl, by kernel_rfl⟩, by kernel_rfl, by kernel_rfl⟩
def G_spec_l15Put : Gm := Gm.none
theorem G_spec_l15Put_ok : G_spec_l15Put.ok Try.prog := Gm.none_ok
theorem gm_spec_l15Put {r : List Oper} {n : Nat} : splB G_spec_l15Put r n = true := rfl
set_option maxHeartbeats 1000000 in
set_option maxRecDepth 100000 in
theorem runs_spec_l15Put_1 (xs : List Int) (x : Int) (hp1 : xs.length ≤ 1099511627000) (hc : hasP xs x = true) : ARuns Try.prog 137 [.sl none (.ints .i64 xs), .int .i64 x] [] (.prm 0 (.ints .i64 xs)) [] := by
  refine ARuns_bc G_spec_l15Put_ok is_spec_l15Put (by simp) fun hl hlB => ?_
  simp only [kcode_at, kreg_at, bc_skip, bc_seq, bc_cond, bc_block, bc_exit, bc_ret, bc_region, lkX_cons, acond_tmp, aCase_t, aCase_f, aCase_b, afin_nil, cvE_some, resL, resV, resC, cv, cvL, pack, entryE, inPrm, entryB, inPrms, bxCells, Option.getD_some, acall_clo, add_sp, add_lend, kcall_nil, selOf, selC, selA, inArgs, inA, inL, okA, okL, okBx, okC, outA, outL, outU, outB, deep, deepL, boxIds, AV.bid, List.map_nil, List.map_cons, List.all_nil, List.all_cons, BEq.rfl, Bool.and_true, Bool.true_and, List.append_nil, aops_nil, aops_plain, aops_guard, kont_at, yes_at, no_at, aop_move, aop_assign, aop_pick, aop_alloc, aop_box, aop_build, aop_buildSlice, aop_load, aop_store, aop_nilCheck, aop_binOp, aop_unOp, aop_convert, aop_fieldAddr, aop_indexAddr, aop_slice, aop_extract, aop_makeSlice, aop_len, aop_max, aMax_int, slTy2, SC0, aop_append, aop_call, evalE, getE, putE, getB, setB, St.put, setsB, nth, AV.ofV, AV.blk, AV.bid, AV.one, SC.len, SC.get, List.length_nil, List.length_cons, Nat.reduceEqDiff, Nat.reduceAdd, ↓reduceIte, true_and, and_true, Bool.true_eq_false, Bool.false_eq_true, false_imp_iff, true_imp_iff, decide_eq_true_eq, Bool.not_eq_true', Bool.not_eq_false', decide_eq_false_iff_not, Option.isSome, List.nil_append, List.cons_append, aGuardO_some, aGuard_tt, aGuard_tf, aGuard_ft, aGuard_ff, aGuard_tb, aGuard_fb, aGuard_ts, aGuard_fs, aPick_b, aPick_t, aPick_f, aAlloc_one, aAlloc_flat, aBox_some, aBuild_flat, aInt_add, aBin_add, aInt_sub, aBin_sub, aInt_mul, aBin_mul, aInt_quo, aBin_quo, aInt_rem, aBin_rem, aInt_and, aBin_and, aInt_or, aBin_or, aInt_xor, aBin_xor, aInt_andNot, aBin_andNot, aInt_eql, aBin_eql, aInt_neq, aBin_neq, aInt_lss, aBin_lss, aInt_leq, aBin_leq, aInt_gtr, aBin_gtr, aInt_geq, aBin_geq, aBin_shl, aBin_shr, aShift_shl, aShift_shr, aBin_be1, aBin_bn1, aBin_be2, aBin_bn2, aBin_be3, aBin_bn3, aBin_be4, aBin_bn4, aBin_be5, aBin_bn5, aBin_be6, aBin_bn6, aBin_be7, aBin_bn7, aBin_be8, aBin_bn8, aBin_be9, aBin_bn9, aUn_b, aUn_t, aUn_f, aUn_i, aNil_ptr, aNil_pv, aConv_int, aField_ptr, aField_pv, aIdx_sl, aIdx_prm, aIdx_row, aIdx_drow, aMake_i, aMake_s, aExtr_tup, aLen_ref, aLen_nil, aLen_sl, aLen_prm, aLen_str, aBuildL_some, aBuildS_some, aLoad_1b, aLoad_1d, aLoad_fb, aLoad_fd, aLoad_1p, aLoad_fp, aLoad_ep, aLoad_rr, aLoad_rd, aStore_1, aStore_f, aStore_r, aApp_some, aAppend_nil, aAppend_ref, aSlice_h, aSlice_l, aSlice_lh, aop_slice3, aSlice3_r, aop_field, aFld_agg, aBinW_f, aBinW_t, aWrap_mul, aWrap_add, isW_tmp, isW_mulc, isW_addc, isW_sub, isW_quo, isW_rem, isW_and, isW_or, isW_xor, isW_andNot, isW_shl, isW_shr, isW_eql, isW_neq, isW_lss, isW_leq, isW_gtr, isW_geq, Int.reduceLT, aBinW_dF, aBinW_dT, bc_draw, kregD_at, aopsD_nil, aopsD_plain, aopsD_guard, kontD_at, splW_t, splW_f, contD_at, yesD_at, noD_at, splD_bool, splD_undef, splD_skip, splD_int, splD_tt, splD_ff, splD_str, splD_nil, splD_sl, splD_prm, splD_ref, splD_ptr, splD_rp, splD_ep, splD_pv, splD_agg, splD_tup, splD_clo, gD_tt, gD_tf, gD_ft, gD_ff, gD_ts, gD_fs, slotO_some, addTr_nil, addTr_cons, memQ_nil, memQ_cons, clash_nil, clash_cons, regC_none, regC_nil, regC_cons, regR_nil, regR_cons, Int.toNat_zero, Int.toNat_one, rng0, rng1, rng2, rng3, rng4, SC.take, SC.drop, mp_nil, acond_ct, acond_cf, mp_one0, mp_one1, mp_one2, mp_one3, kcall_one, liveB_row, liveB_box, idx, cont, still, dies, lend, lendA, lendDies, snocs, SC.snoc, SC.app, meet, AV.cells, fillA, List.getD_cons_zero, List.getD_cons_succ, List.set_cons_zero, List.set_cons_succ, List.length_singleton, Nat.le_refl, Nat.lt_irrefl, Nat.reduceLT, Nat.reduceLeDiff, Option.map_some, Option.map_none, List.flatMap_nil, List.flatMap_cons, Nat.zero_add, BEq.rfl, kcall_two, mp_two0, mp_two1, mp_two2, mp_two3, mp_two4, aop_makeFunc, plainA, Bool.true_and, sl3, ty3, un3, sl78, ty78, un78, sl106, ty106, un106, sl104, ty104, un104, sl5, ty5, un5, sl2, ty2, un2, sl21, ty21, un21, sl4, ty4, un4, sl9, un9, sl24, ty24, un24, sl22, ty22, un22, sl42, ty42, un42, sl47, sl82, sl68, sl107, sl115, sl119, ty82, ty56, sl56, ty26, sl26, ty101, sl101, ty93, sl93, inR64, inRu64, inRu32, gm_spec_l15Put, Try.f137]
  refine bc_loop (fun k : Nat => k ≤ xs.length ∧ posF xs x k = posL xs x)
    (fun k => ⟨[(0, .prm 0 (.ints .i64 xs)), (1, .int .i64 x), (5, .int .i64 k)], []⟩) (fun k => k)
    [0, 1, 5] [] xs.length rfl (by simp [St.conv, St.bf, getE, putE, getB, cv, cvL, cvB, idx, still, pack, lifts, liftOne, liftC, liftK, killB, cellsOfB, setB]) ⟨Nat.le_refl _, rfl⟩ fun k ⟨h1, h2⟩ => ?_
  simp only [kcode_at, kreg_at, bc_skip, bc_seq, bc_cond, bc_block, bc_exit, bc_ret, bc_region, lkX_cons, acond_tmp, aCase_t, aCase_f, aCase_b, afin_nil, cvE_some, resL, resV, resC, cv, cvL, pack, entryE, inPrm, entryB, inPrms, bxCells, Option.getD_some, acall_clo, add_sp, add_lend, kcall_nil, selOf, selC, selA, inArgs, inA, inL, okA, okL, okBx, okC, outA, outL, outU, outB, deep, deepL, boxIds, AV.bid, List.map_nil, List.map_cons, List.all_nil, List.all_cons, BEq.rfl, Bool.and_true, Bool.true_and, List.append_nil, aops_nil, aops_plain, aops_guard, kont_at, yes_at, no_at, aop_move, aop_assign, aop_pick, aop_alloc, aop_box, aop_build, aop_buildSlice, aop_load, aop_store, aop_nilCheck, aop_binOp, aop_unOp, aop_convert, aop_fieldAddr, aop_indexAddr, aop_slice, aop_extract, aop_makeSlice, aop_len, aop_max, aMax_int, slTy2, SC0, aop_append, aop_call, evalE, getE, putE, getB, setB, St.put, setsB, nth, AV.ofV, AV.blk, AV.bid, AV.one, SC.len, SC.get, List.length_nil, List.length_cons, Nat.reduceEqDiff, Nat.reduceAdd, ↓reduceIte, true_and, and_true, Bool.true_eq_false, Bool.false_eq_true, false_imp_iff, true_imp_iff, decide_eq_true_eq, Bool.not_eq_true', Bool.not_eq_false', decide_eq_false_iff_not, Option.isSome, List.nil_append, List.cons_append, aGuardO_some, aGuard_tt, aGuard_tf, aGuard_ft, aGuard_ff, aGuard_tb, aGuard_fb, aGuard_ts, aGuard_fs, aPick_b, aPick_t, aPick_f, aAlloc_one, aAlloc_flat, aBox_some, aBuild_flat, aInt_add, aBin_add, aInt_sub, aBin_sub, aInt_mul, aBin_mul, aInt_quo, aBin_quo, aInt_rem, aBin_rem, aInt_and, aBin_and, aInt_or, aBin_or, aInt_xor, aBin_xor, aInt_andNot, aBin_andNot, aInt_eql, aBin_eql, aInt_neq, aBin_neq, aInt_lss, aBin_lss, aInt_leq, aBin_leq, aInt_gtr, aBin_gtr, aInt_geq, aBin_geq, aBin_shl, aBin_shr, aShift_shl, aShift_shr, aBin_be1, aBin_bn1, aBin_be2, aBin_bn2, aBin_be3, aBin_bn3, aBin_be4, aBin_bn4, aBin_be5, aBin_bn5, aBin_be6, aBin_bn6, aBin_be7, aBin_bn7, aBin_be8, aBin_bn8, aBin_be9, aBin_bn9, aUn_b, aUn_t, aUn_f, aUn_i, aNil_ptr, aNil_pv, aConv_int, aField_ptr, aField_pv, aIdx_sl, aIdx_prm, aIdx_row, aIdx_drow, aMake_i, aMake_s, aExtr_tup, aLen_ref, aLen_nil, aLen_sl, aLen_prm, aLen_str, aBuildL_some, aBuildS_some, aLoad_1b, aLoad_1d, aLoad_fb, aLoad_fd, aLoad_1p, aLoad_fp, aLoad_ep, aLoad_rr, aLoad_rd, aStore_1, aStore_f, aStore_r, aApp_some, aAppend_nil, aAppend_ref, aSlice_h, aSlice_l, aSlice_lh, aop_slice3, aSlice3_r, aop_field, aFld_agg, aBinW_f, aBinW_t, aWrap_mul, aWrap_add, isW_tmp, isW_mulc, isW_addc, isW_sub, isW_quo, isW_rem, isW_and, isW_or, isW_xor, isW_andNot, isW_shl, isW_shr, isW_eql, isW_neq, isW_lss, isW_leq, isW_gtr, isW_geq, Int.reduceLT, aBinW_dF, aBinW_dT, bc_draw, kregD_at, aopsD_nil, aopsD_plain, aopsD_guard, kontD_at, splW_t, splW_f, contD_at, yesD_at, noD_at, splD_bool, splD_undef, splD_skip, splD_int, splD_tt, splD_ff, splD_str, splD_nil, splD_sl, splD_prm, splD_ref, splD_ptr, splD_rp, splD_ep, splD_pv, splD_agg, splD_tup, splD_clo, gD_tt, gD_tf, gD_ft, gD_ff, gD_ts, gD_fs, slotO_some, addTr_nil, addTr_cons, memQ_nil, memQ_cons, clash_nil, clash_cons, regC_none, regC_nil, regC_cons, regR_nil, regR_cons, Int.toNat_zero, Int.toNat_one, rng0, rng1, rng2, rng3, rng4, SC.take, SC.drop, mp_nil, acond_ct, acond_cf, mp_one0, mp_one1, mp_one2, mp_one3, kcall_one, liveB_row, liveB_box, idx, cont, still, dies, lend, lendA, lendDies, snocs, SC.snoc, SC.app, meet, AV.cells, fillA, List.getD_cons_zero, List.getD_cons_succ, List.set_cons_zero, List.set_cons_succ, List.length_singleton, Nat.le_refl, Nat.lt_irrefl, Nat.reduceLT, Nat.reduceLeDiff, Option.map_some, Option.map_none, List.flatMap_nil, List.flatMap_cons, Nat.zero_add, BEq.rfl, kcall_two, mp_two0, mp_two1, mp_two2, mp_two3, mp_two4, aop_makeFunc, plainA, Bool.true_and, sl3, ty3, un3, sl78, ty78, un78, sl106, ty106, un106, sl104, ty104, un104, sl5, ty5, un5, sl2, ty2, un2, sl21, ty21, un21, sl4, ty4, un4, sl9, un9, sl24, ty24, un24, sl22, ty22, un22, sl42, ty42, un42, sl47, sl82, sl68, sl107, sl115, sl119, ty82, ty56, sl56, ty26, sl26, ty101, sl101, ty93, sl93, inR64, inRu64, inRu32, gm_spec_l15Put, Int.toNat_natCast]
  have hp := hc
  simp only [hasP, Bool.and_eq_true, decide_eq_true_eq] at hp
  rcases Nat.eq_zero_or_pos k with rfl | hk0
  · refine ⟨fun h => absurd h (by omega), fun _ => ⟨fun h => absurd h (by omega), fun _ => ?_⟩⟩
    exact absurd hp.1 (by rw [← h2]; simp [posF])
  obtain ⟨j, rfl⟩ : ∃ j, k = j + 1 := ⟨k - 1, by omega⟩
  have e0 : (((j + 1 : Nat) : Int) - 1).toNat = j := by omega
  simp only [e0]
  refine ⟨fun _ => ⟨by omega, by omega, fun hlt => ⟨by omega, klp_of j (by simp [St.conv, St.bf, getE, putE, getB, cv, cvL, cvB, idx, still, pack, lifts, liftOne, liftC, liftK, killB, cellsOfB, setB]) ⟨by omega, by rw [← posF_t hlt]; exact h2⟩ (by omega)⟩, fun hge => ⟨fun _ => ⟨by omega, by omega, fun he => ?_, fun he => ?_⟩, fun h => absurd h (by omega)⟩⟩, fun h => absurd h (by omega)⟩
  · trivial
  · rw [posF_f hge] at h2
    rw [← h2] at hp
    exact absurd hp.2 (by simpa using he)
set_option maxHeartbeats 1000000 in
set_option maxRecDepth 100000 in
theorem runs_spec_l15Put_2 (xs : List Int) (x : Int) (hp1 : xs.length ≤ 1099511627000) (hc : hasP xs x = false) : ARuns Try.prog 137 [.sl none (.ints .i64 xs), .int .i64 x] [] (.ref 0 (putL xs x).length) [.row 3 (.ints .i64 (putL xs x))] := by
  refine ARuns_bc G_spec_l15Put_ok is_spec_l15Put (by simp) fun hl hlB => ?_
  simp only [kcode_at, kreg_at, bc_skip, bc_seq, bc_cond, bc_block, bc_exit, bc_ret, bc_region, lkX_cons, acond_tmp, aCase_t, aCase_f, aCase_b, afin_nil, cvE_some, resL, resV, resC, cv, cvL, pack, entryE, inPrm, entryB, inPrms, bxCells, Option.getD_some, acall_clo, add_sp, add_lend, kcall_nil, selOf, selC, selA, inArgs, inA, inL, okA, okL, okBx, okC, outA, outL, outU, outB, deep, deepL, boxIds, AV.bid, List.map_nil, List.map_cons, List.all_nil, List.all_cons, BEq.rfl, Bool.and_true, Bool.true_and, List.append_nil, aops_nil, aops_plain, aops_guard, kont_at, yes_at, no_at, aop_move, aop_assign, aop_pick, aop_alloc, aop_box, aop_build, aop_buildSlice, aop_load, aop_store, aop_nilCheck, aop_binOp, aop_unOp, aop_convert, aop_fieldAddr, aop_indexAddr, aop_slice, aop_extract, aop_makeSlice, aop_len, aop_max, aMax_int, slTy2, SC0, aop_append, aop_call, evalE, getE, putE, getB, setB, St.put, setsB, nth, AV.ofV, AV.blk, AV.bid, AV.one, SC.len, SC.get, List.length_nil, List.length_cons, Nat.reduceEqDiff, Nat.reduceAdd, ↓reduceIte, true_and, and_true, Bool.true_eq_false, Bool.false_eq_true, false_imp_iff, true_imp_iff, decide_eq_true_eq, Bool.not_eq_true', Bool.not_eq_false', decide_eq_false_iff_not, Option.isSome, List.nil_append, List.cons_append, aGuardO_some, aGuard_tt, aGuard_tf, aGuard_ft, aGuard_ff, aGuard_tb, aGuard_fb, aGuard_ts, aGuard_fs, aPick_b, aPick_t, aPick_f, aAlloc_one, aAlloc_flat, aBox_some, aBuild_flat, aInt_add, aBin_add, aInt_sub, aBin_sub, aInt_mul, aBin_mul, aInt_quo, aBin_quo, aInt_rem, aBin_rem, aInt_and, aBin_and, aInt_or, aBin_or, aInt_xor, aBin_xor, aInt_andNot, aBin_andNot, aInt_eql, aBin_eql, aInt_neq, aBin_neq, aInt_lss, aBin_lss, aInt_leq, aBin_leq, aInt_gtr, aBin_gtr, aInt_geq, aBin_geq, aBin_shl, aBin_shr, aShift_shl, aShift_shr, aBin_be1, aBin_bn1, aBin_be2, aBin_bn2, aBin_be3, aBin_bn3, aBin_be4, aBin_bn4, aBin_be5, aBin_bn5, aBin_be6, aBin_bn6, aBin_be7, aBin_bn7, aBin_be8, aBin_bn8, aBin_be9, aBin_bn9, aUn_b, aUn_t, aUn_f, aUn_i, aNil_ptr, aNil_pv, aConv_int, aField_ptr, aField_pv, aIdx_sl, aIdx_prm, aIdx_row, aIdx_drow, aMake_i, aMake_s, aExtr_tup, aLen_ref, aLen_nil, aLen_sl, aLen_prm, aLen_str, aBuildL_some, aBuildS_some, aLoad_1b, aLoad_1d, aLoad_fb, aLoad_fd, aLoad_1p, aLoad_fp, aLoad_ep, aLoad_rr, aLoad_rd, aStore_1, aStore_f, aStore_r, aApp_some, aAppend_nil, aAppend_ref, aSlice_h, aSlice_l, aSlice_lh, aop_slice3, aSlice3_r, aop_field, aFld_agg, aBinW_f, aBinW_t, aWrap_mul, aWrap_add, isW_tmp, isW_mulc, isW_addc, isW_sub, isW_quo, isW_rem, isW_and, isW_or, isW_xor, isW_andNot, isW_shl, isW_shr, isW_eql, isW_neq, isW_lss, isW_leq, isW_gtr, isW_geq, Int.reduceLT, aBinW_dF, aBinW_dT, bc_draw, kregD_at, aopsD_nil, aopsD_plain, aopsD_guard, kontD_at, splW_t, splW_f, contD_at, yesD_at, noD_at, splD_bool, splD_undef, splD_skip, splD_int, splD_tt, splD_ff, splD_str, splD_nil, splD_sl, splD_prm, splD_ref, splD_ptr, splD_rp, splD_ep, splD_pv, splD_agg, splD_tup, splD_clo, gD_tt, gD_tf, gD_ft, gD_ff, gD_ts, gD_fs, slotO_some, addTr_nil, addTr_cons, memQ_nil, memQ_cons, clash_nil, clash_cons, regC_none, regC_nil, regC_cons, regR_nil, regR_cons, Int.toNat_zero, Int.toNat_one, rng0, rng1, rng2, rng3, rng4, SC.take, SC.drop, mp_nil, acond_ct, acond_cf, mp_one0, mp_one1, mp_one2, mp_one3, kcall_one, liveB_row, liveB_box, idx, cont, still, dies, lend, lendA, lendDies, snocs, SC.snoc, SC.app, meet, AV.cells, fillA, List.getD_cons_zero, List.getD_cons_succ, List.set_cons_zero, List.set_cons_succ, List.length_singleton, Nat.le_refl, Nat.lt_irrefl, Nat.reduceLT, Nat.reduceLeDiff, Option.map_some, Option.map_none, List.flatMap_nil, List.flatMap_cons, Nat.zero_add, BEq.rfl, kcall_two, mp_two0, mp_two1, mp_two2, mp_two3, mp_two4, aop_makeFunc, plainA, Bool.true_and, sl3, ty3, un3, sl78, ty78, un78, sl106, ty106, un106, sl104, ty104, un104, sl5, ty5, un5, sl2, ty2, un2, sl21, ty21, un21, sl4, ty4, un4, sl9, un9, sl24, ty24, un24, sl22, ty22, un22, sl42, ty42, un42, sl47, sl82, sl68, sl107, sl115, sl119, ty82, ty56, sl56, ty26, sl26, ty101, sl101, ty93, sl93, inR64, inRu64, inRu32, gm_spec_l15Put, Try.f137]
  refine bc_loop (fun k : Nat => k ≤ xs.length ∧ posF xs x k = posL xs x)
    (fun k => ⟨[(0, .prm 0 (.ints .i64 xs)), (1, .int .i64 x), (5, .int .i64 k)], []⟩) (fun k => k)
    [0, 1, 5] [] xs.length rfl (by simp [St.conv, St.bf, getE, putE, getB, cv, cvL, cvB, idx, still, pack, lifts, liftOne, liftC, liftK, killB, cellsOfB, setB]) ⟨Nat.le_refl _, rfl⟩ fun k ⟨h1, h2⟩ => ?_
  simp only [kcode_at, kreg_at, bc_skip, bc_seq, bc_cond, bc_block, bc_exit, bc_ret, bc_region, lkX_cons, acond_tmp, aCase_t, aCase_f, aCase_b, afin_nil, cvE_some, resL, resV, resC, cv, cvL, pack, entryE, inPrm, entryB, inPrms, bxCells, Option.getD_some, acall_clo, add_sp, add_lend, kcall_nil, selOf, selC, selA, inArgs, inA, inL, okA, okL, okBx, okC, outA, outL, outU, outB, deep, deepL, boxIds, AV.bid, List.map_nil, List.map_cons, List.all_nil, List.all_cons, BEq.rfl, Bool.and_true, Bool.true_and, List.append_nil, aops_nil, aops_plain, aops_guard, kont_at, yes_at, no_at, aop_move, aop_assign, aop_pick, aop_alloc, aop_box, aop_build, aop_buildSlice, aop_load, aop_store, aop_nilCheck, aop_binOp, aop_unOp, aop_convert, aop_fieldAddr, aop_indexAddr, aop_slice, aop_extract, aop_makeSlice, aop_len, aop_max, aMax_int, slTy2, SC0, aop_append, aop_call, evalE, getE, putE, getB, setB, St.put, setsB, nth, AV.ofV, AV.blk, AV.bid, AV.one, SC.len, SC.get, List.length_nil, List.length_cons, Nat.reduceEqDiff, Nat.reduceAdd, ↓reduceIte, true_and, and_true, Bool.true_eq_false, Bool.false_eq_true, false_imp_iff, true_imp_iff, decide_eq_true_eq, Bool.not_eq_true', Bool.not_eq_false', decide_eq_false_iff_not, Option.isSome, List.nil_append, List.cons_append, aGuardO_some, aGuard_tt, aGuard_tf, aGuard_ft, aGuard_ff, aGuard_tb, aGuard_fb, aGuard_ts, aGuard_fs, aPick_b, aPick_t, aPick_f, aAlloc_one, aAlloc_flat, aBox_some, aBuild_flat, aInt_add, aBin_add, aInt_sub, aBin_sub, aInt_mul, aBin_mul, aInt_quo, aBin_quo, aInt_rem, aBin_rem, aInt_and, aBin_and, aInt_or, aBin_or, aInt_xor, aBin_xor, aInt_andNot, aBin_andNot, aInt_eql, aBin_eql, aInt_neq, aBin_neq, aInt_lss, aBin_lss, aInt_leq, aBin_leq, aInt_gtr, aBin_gtr, aInt_geq, aBin_geq, aBin_shl, aBin_shr, aShift_shl, aShift_shr, aBin_be1, aBin_bn1, aBin_be2, aBin_bn2, aBin_be3, aBin_bn3, aBin_be4, aBin_bn4, aBin_be5, aBin_bn5, aBin_be6, aBin_bn6, aBin_be7, aBin_bn7, aBin_be8, aBin_bn8, aBin_be9, aBin_bn9, aUn_b, aUn_t, aUn_f, aUn_i, aNil_ptr, aNil_pv, aConv_int, aField_ptr, aField_pv, aIdx_sl, aIdx_prm, aIdx_row, aIdx_drow, aMake_i, aMake_s, aExtr_tup, aLen_ref, aLen_nil, aLen_sl, aLen_prm, aLen_str, aBuildL_some, aBuildS_some, aLoad_1b, aLoad_1d, aLoad_fb, aLoad_fd, aLoad_1p, aLoad_fp, aLoad_ep, aLoad_rr, aLoad_rd, aStore_1, aStore_f, aStore_r, aApp_some, aAppend_nil, aAppend_ref, aSlice_h, aSlice_l, aSlice_lh, aop_slice3, aSlice3_r, aop_field, aFld_agg, aBinW_f, aBinW_t, aWrap_mul, aWrap_add, isW_tmp, isW_mulc, isW_addc, isW_sub, isW_quo, isW_rem, isW_and, isW_or, isW_xor, isW_andNot, isW_shl, isW_shr, isW_eql, isW_neq, isW_lss, isW_leq, isW_gtr, isW_geq, Int.reduceLT, aBinW_dF, aBinW_dT, bc_draw, kregD_at, aopsD_nil, aopsD_plain, aopsD_guard, kontD_at, splW_t, splW_f, contD_at, yesD_at, noD_at, splD_bool, splD_undef, splD_skip, splD_int, splD_tt, splD_ff, splD_str, splD_nil, splD_sl, splD_prm, splD_ref, splD_ptr, splD_rp, splD_ep, splD_pv, splD_agg, splD_tup, splD_clo, gD_tt, gD_tf, gD_ft, gD_ff, gD_ts, gD_fs, slotO_some, addTr_nil, addTr_cons, memQ_nil, memQ_cons, clash_nil, clash_cons, regC_none, regC_nil, regC_cons, regR_nil, regR_cons, Int.toNat_zero, Int.toNat_one, rng0, rng1, rng2, rng3, rng4, SC.take, SC.drop, mp_nil, acond_ct, acond_cf, mp_one0, mp_one1, mp_one2, mp_one3, kcall_one, liveB_row, liveB_box, idx, cont, still, dies, lend, lendA, lendDies, snocs, SC.snoc, SC.app, meet, AV.cells, fillA, List.getD_cons_zero, List.getD_cons_succ, List.set_cons_zero, List.set_cons_succ, List.length_singleton, Nat.le_refl, Nat.lt_irrefl, Nat.reduceLT, Nat.reduceLeDiff, Option.map_some, Option.map_none, List.flatMap_nil, List.flatMap_cons, Nat.zero_add, BEq.rfl, kcall_two, mp_two0, mp_two1, mp_two2, mp_two3, mp_two4, aop_makeFunc, plainA, Bool.true_and, sl3, ty3, un3, sl78, ty78, un78, sl106, ty106, un106, sl104, ty104, un104, sl5, ty5, un5, sl2, ty2, un2, sl21, ty21, un21, sl4, ty4, un4, sl9, un9, sl24, ty24, un24, sl22, ty22, un22, sl42, ty42, un42, sl47, sl82, sl68, sl107, sl115, sl119, ty82, ty56, sl56, ty26, sl26, ty101, sl101, ty93, sl93, inR64, inRu64, inRu32, gm_spec_l15Put, Int.toNat_natCast]
  rcases Nat.eq_zero_or_pos k with rfl | hk0
  · refine ⟨fun h => absurd h (by omega), fun _ => ⟨fun h => absurd h (by omega), fun _ => ?_⟩⟩
    simp only [posF] at h2
    refine ⟨by omega, by simp only [List.length_take]; omega, by simp only [List.length_take]; omega, by omega, ⟨by simp, by simp only [List.length_take, List.length_drop]; omega⟩, ?_, ?_⟩
    · (repeat' apply And.intro) <;> (show ordB _ _ _ = true; kernel_rfl)
    · rw [putL_f hc, ← h2]
      exact afin_of [0] rfl rfl (by simp [St.conv, St.bf, getE, putE, getB, cv, cvL, cvB, idx, still, pack, lifts, liftOne, liftC, liftK, killB, cellsOfB, setB]; omega) (by simp [St.conv, St.bf, getE, putE, getB, cv, cvL, cvB, idx, still, pack, lifts, liftOne, liftC, liftK, killB, cellsOfB, setB])
  obtain ⟨j, rfl⟩ : ∃ j, k = j + 1 := ⟨k - 1, by omega⟩
  have e0 : (((j + 1 : Nat) : Int) - 1).toNat = j := by omega
  simp only [e0]
  refine ⟨fun _ => ⟨by omega, by omega, fun hlt => ⟨by omega, klp_of j (by simp [St.conv, St.bf, getE, putE, getB, cv, cvL, cvB, idx, still, pack, lifts, liftOne, liftC, liftK, killB, cellsOfB, setB]) ⟨by omega, by rw [← posF_t hlt]; exact h2⟩ (by omega)⟩, fun hge => ⟨fun _ => ⟨by omega, by omega, fun he => ?_, fun he => ?_⟩, fun h => absurd h (by omega)⟩⟩, fun h => absurd h (by omega)⟩
  · rw [posF_f hge] at h2
    have : hasP xs x = true := by simp only [hasP, ← h2]; simpa using he
    rw [hc] at this; exact absurd this (by decide)
  · rw [posF_f hge] at h2
    refine ⟨by omega, by simp only [List.length_take]; omega, by simp only [List.length_take]; omega, by omega, ⟨by simp, by simp only [List.length_take, List.length_drop]; omega⟩, ?_, ?_⟩
    · (repeat' apply And.intro) <;> (show ordB _ _ _ = true; kernel_rfl)
    · rw [putL_f hc, ← h2]
      exact afin_of [0] rfl rfl (by simp [St.conv, St.bf, getE, putE, getB, cv, cvL, cvB, idx, still, pack, lifts, liftOne, liftC, liftK, killB, cellsOfB, setB]; omega) (by simp [St.conv, St.bf, getE, putE, getB, cv, cvL, cvB, idx, still, pack, lifts, liftOne, liftC, liftK, killB, cellsOfB, setB])
def lend_spec_l15Put : List Nat := []
def sp_spec_l15Put : List AV → List Bx → (AV → List Bx → Prop) → Prop
  | [.sl none (.ints .i64 xs), .int .i64 x], [], K => (xs.length ≤ 1099511627000) ∧ (hasP xs x = true → K (.prm 0 (.ints .i64 xs)) []) ∧ (hasP xs x = false → K (.ref 0 (putL xs x).length) [.row 3 (.ints .i64 (putL xs x))])
  | _, _, _ => False
theorem at_spec_l15Put {xs : List Int} {x : Int} {K : AV → List Bx → Prop} : sp_spec_l15Put [.sl none (.ints .i64 xs), .int .i64 x] [] K = ((xs.length ≤ 1099511627000) ∧ (hasP xs x = true → K (.prm 0 (.ints .i64 xs)) []) ∧ (hasP xs x = false → K (.ref 0 (putL xs x).length) [.row 3 (.ints .i64 (putL xs x))])) := id rfl
theorem ok_spec_l15Put : ∀ args giv K, sp_spec_l15Put args giv K → ∃ r outs, ARuns Try.prog 137 args giv r outs ∧ K r outs := by
  intro args giv K hk
  unfold sp_spec_l15Put at hk
  split at hk
  · obtain ⟨hp1, hk1, hk2⟩ := hk
    exact pk_bool (fun hc => ⟨_, _, runs_spec_l15Put_1 _ _ hp1 hc, hk1 hc⟩) (fun hc => ⟨_, _, runs_spec_l15Put_2 _ _ hp1 hc, hk2 hc⟩)
  · exact hk.elim
theorem is_spec_l15Draw : FnIs Try.prog 159 28 [ResultVar.cell 4 26] (Try.f159.body.getD .skip) := ⟨⟨Try.f159, by kernel_rfl, by kernel_rfl, by kernel_rfl, by kernel_rfl⟩, by kernel_rfl, by kernel_rfl⟩
def G_spec_l15Draw : Gm := ((Gm.none.add 119 lend_spec_l1Below sp_spec_l1Below).add 137 lend_spec_l15Put sp_spec_l15Put)
theorem G_spec_l15Draw_ok : G_spec_l15Draw.ok Try.prog := (Gm.add_ok (Gm.add_ok Gm.none_ok ok_spec_l1Below) ok_spec_l15Put)
theorem gm_spec_l15Draw {r : List Oper} {n : Nat} : splB G_spec_l15Draw r n = true := rfl
theorem gs_spec_l15Draw_119 : G_spec_l15Draw.sp 119 = sp_spec_l1Below ∧ G_spec_l15Draw.lend 119 = lend_spec_l1Below := ⟨rfl, rfl⟩
theorem gs_spec_l15Draw_137 : G_spec_l15Draw.sp 137 = sp_spec_l15Put ∧ G_spec_l15Draw.lend 137 = lend_spec_l15Put := ⟨rfl, rfl⟩
set_option maxHeartbeats 1000000 in
set_option maxRecDepth 100000 in
theorem runs_spec_l15Draw (bs : List Int) (i h most : Int) (hp1 : OkBs bs) (hp2 : 0 ≤ i) (hp3 : 0 ≤ most ∧ most ≤ 6) : ARuns Try.prog 159 [.ptr 0 0, .int .i64 most] [.box [.sl none (.ints .u8 bs), .int .i64 i, .int .i64 h]] (.agg [.int .i64 (drN bs (i, h) most), .ref 1 (drL bs (i, h) most).length]) [.box [.prm 2 (.ints .u8 bs), .int .i64 (drC bs (i, h) most).1, .int .i64 (drC bs (i, h) most).2], .row 3 (.ints .i64 (drL bs (i, h) most))] := by
  refine ARuns_bc G_spec_l15Draw_ok is_spec_l15Draw (by simp) fun hl hlB => ?_
  simp only [kcode_at, kreg_at, bc_skip, bc_seq, bc_cond, bc_block, bc_exit, bc_ret, bc_region, lkX_cons, acond_tmp, aCase_t, aCase_f, aCase_b, afin_nil, cvE_some, resL, resV, resC, cv, cvL, pack, entryE, inPrm, entryB, inPrms, bxCells, Option.getD_some, acall_clo, add_sp, add_lend, kcall_nil, selOf, selC, selA, inArgs, inA, inL, okA, okL, okBx, okC, outA, outL, outU, outB, deep, deepL, boxIds, AV.bid, List.map_nil, List.map_cons, List.all_nil, List.all_cons, BEq.rfl, Bool.and_true, Bool.true_and, List.append_nil, aops_nil, aops_plain, aops_guard, kont_at, yes_at, no_at, aop_move, aop_assign, aop_pick, aop_alloc, aop_box, aop_build, aop_buildSlice, aop_load, aop_store, aop_nilCheck, aop_binOp, aop_unOp, aop_convert, aop_fieldAddr, aop_indexAddr, aop_slice, aop_extract, aop_makeSlice, aop_len, aop_max, aMax_int, slTy2, SC0, aop_append, aop_call, evalE, getE, putE, getB, setB, St.put, setsB, nth, AV.ofV, AV.blk, AV.bid, AV.one, SC.len, SC.get, List.length_nil, List.length_cons, Nat.reduceEqDiff, Nat.reduceAdd, ↓reduceIte, true_and, and_true, Bool.true_eq_false, Bool.false_eq_true, false_imp_iff, true_imp_iff, decide_eq_true_eq, Bool.not_eq_true', Bool.not_eq_false', decide_eq_false_iff_not, Option.isSome, List.nil_append, List.cons_append, aGuardO_some, aGuard_tt, aGuard_tf, aGuard_ft, aGuard_ff, aGuard_tb, aGuard_fb, aGuard_ts, aGuard_fs, aPick_b, aPick_t, aPick_f, aAlloc_one, aAlloc_flat, aBox_some, aBuild_flat, aInt_add, aBin_add, aInt_sub, aBin_sub, aInt_mul, aBin_mul, aInt_quo, aBin_quo, aInt_rem, aBin_rem, aInt_and, aBin_and, aInt_or, aBin_or, aInt_xor, aBin_xor, aInt_andNot, aBin_andNot, aInt_eql, aBin_eql, aInt_neq, aBin_neq, aInt_lss, aBin_lss, aInt_leq, aBin_leq, aInt_gtr, aBin_gtr, aInt_geq, aBin_geq, aBin_shl, aBin_shr, aShift_shl, aShift_shr, aBin_be1, aBin_bn1, aBin_be2, aBin_bn2, aBin_be3, aBin_bn3, aBin_be4, aBin_bn4, aBin_be5, aBin_bn5, aBin_be6, aBin_bn6, aBin_be7, aBin_bn7, aBin_be8, aBin_bn8, aBin_be9, aBin_bn9, aUn_b, aUn_t, aUn_f, aUn_i, aNil_ptr, aNil_pv, aConv_int, aField_ptr, aField_pv, aIdx_sl, aIdx_prm, aIdx_row, aIdx_drow, aMake_i, aMake_s, aExtr_tup, aLen_ref, aLen_nil, aLen_sl, aLen_prm, aLen_str, aBuildL_some, aBuildS_some, aLoad_1b, aLoad_1d, aLoad_fb, aLoad_fd, aLoad_1p, aLoad_fp, aLoad_ep, aLoad_rr, aLoad_rd, aStore_1, aStore_f, aStore_r, aApp_some, aAppend_nil, aAppend_ref, aSlice_h, aSlice_l, aSlice_lh, aop_slice3, aSlice3_r, aop_field, aFld_agg, aBinW_f, aBinW_t, aWrap_mul, aWrap_add, isW_tmp, isW_mulc, isW_addc, isW_sub, isW_quo, isW_rem, isW_and, isW_or, isW_xor, isW_andNot, isW_shl, isW_shr, isW_eql, isW_neq, isW_lss, isW_leq, isW_gtr, isW_geq, Int.reduceLT, aBinW_dF, aBinW_dT, bc_draw, kregD_at, aopsD_nil, aopsD_plain, aopsD_guard, kontD_at, splW_t, splW_f, contD_at, yesD_at, noD_at, splD_bool, splD_undef, splD_skip, splD_int, splD_tt, splD_ff, splD_str, splD_nil, splD_sl, splD_prm, splD_ref, splD_ptr, splD_rp, splD_ep, splD_pv, splD_agg, splD_tup, splD_clo, gD_tt, gD_tf, gD_ft, gD_ff, gD_ts, gD_fs, slotO_some, addTr_nil, addTr_cons, memQ_nil, memQ_cons, clash_nil, clash_cons, regC_none, regC_nil, regC_cons, regR_nil, regR_cons, Int.toNat_zero, Int.toNat_one, rng0, rng1, rng2, rng3, rng4, SC.take, SC.drop, mp_nil, acond_ct, acond_cf, mp_one0, mp_one1, mp_one2, mp_one3, kcall_one, liveB_row, liveB_box, idx, cont, still, dies, lend, lendA, lendDies, snocs, SC.snoc, SC.app, meet, AV.cells, fillA, List.getD_cons_zero, List.getD_cons_succ, List.set_cons_zero, List.set_cons_succ, List.length_singleton, Nat.le_refl, Nat.lt_irrefl, Nat.reduceLT, Nat.reduceLeDiff, Option.map_some, Option.map_none, List.flatMap_nil, List.flatMap_cons, Nat.zero_add, BEq.rfl, kcall_two, mp_two0, mp_two1, mp_two2, mp_two3, mp_two4, aop_makeFunc, plainA, Bool.true_and, sl3, ty3, un3, sl78, ty78, un78, sl106, ty106, un106, sl104, ty104, un104, sl5, ty5, un5, sl2, ty2, un2, sl21, ty21, un21, sl4, ty4, un4, sl9, un9, sl24, ty24, un24, sl22, ty22, un22, sl42, ty42, un42, sl47, sl82, sl68, sl107, sl115, sl119, ty82, ty56, sl56, ty26, sl26, ty101, sl101, ty93, sl93, inR64, inRu64, inRu32, gm_spec_l15Draw, gs_spec_l15Draw_119, at_spec_l1Below, lend_spec_l1Below, gs_spec_l15Draw_137, at_spec_l15Put, lend_spec_l15Put, cu_eta, Try.f159]
  have hk := @drK_le bs (i, h) most
  have hn := @belowV_bd bs (i, h) (most + 1) (by omega)
  have hc := @belowC_nn bs (belowC bs (i, h) (most + 1)) 7 (belowC_nn hp2)
  refine ⟨by omega, hp1, hp2, hp1, belowC_nn hp2, ?_⟩
  have hK : drA bs (i, h) most = drF bs (drN bs (i, h) most) (drK bs (i, h) most) (belowC bs (belowC bs (i, h) (most + 1)) 7) [] := rfl
  have hKv : belowV bs (belowC bs (i, h) (most + 1)) 7 = (drK bs (i, h) most : Int) := by
    have := @belowV_bd bs (belowC bs (i, h) (most + 1)) 7 (by omega)
    unfold drK; omega
  have hLl : drL bs (i, h) most = (drA bs (i, h) most).1 := rfl
  have hCc : drC bs (i, h) most = (drA bs (i, h) most).2 := rfl
  rw [hKv, hLl, hCc]
  have hN : belowV bs (i, h) (most + 1) = drN bs (i, h) most := rfl
  rw [hN] at hn ⊢
  generalize drA bs (i, h) most = D at *
  generalize drN bs (i, h) most = n at *
  generalize drK bs (i, h) most = K at *
  generalize belowC bs (belowC bs (i, h) (most + 1)) 7 = c0 at *
  have hpow := pow_le62 (e := n) (by omega)
  refine bc_loop (fun p : Nat × Cu × List Int => D = drF bs n p.1 p.2.1 p.2.2 ∧ 0 ≤ p.2.1.1 ∧ p.2.2.length + p.1 ≤ 6)
    (fun p => ⟨[(0, .ptr 0 0), (4, .ptr 1 0), (5, .int .i64 n), (6, .ref 2 p.2.2.length), (7, .int .i64 p.1)],
      [.box [.prm 2 (.ints .u8 bs), .int .i64 p.2.1.1, .int .i64 p.2.1.2], .box [.int .i64 0, .nil], .row 3 (.ints .i64 p.2.2)]⟩) (fun p => p.1)
    [0, 4, 5, 6, 7] [0, 1, 2] (K, c0, []) rfl (by simp [St.conv, St.bf, getE, putE, getB, cv, cvL, cvB, idx, still, pack, lifts, liftOne, liftC, liftK, killB, cellsOfB, setB]) (by refine ⟨hK, hc, by simp; omega⟩) fun ⟨k, c, l⟩ ⟨h1, h2, h3⟩ => ?_
  simp only at h1 h2 h3
  simp only [kcode_at, kreg_at, bc_skip, bc_seq, bc_cond, bc_block, bc_exit, bc_ret, bc_region, lkX_cons, acond_tmp, aCase_t, aCase_f, aCase_b, afin_nil, cvE_some, resL, resV, resC, cv, cvL, pack, entryE, inPrm, entryB, inPrms, bxCells, Option.getD_some, acall_clo, add_sp, add_lend, kcall_nil, selOf, selC, selA, inArgs, inA, inL, okA, okL, okBx, okC, outA, outL, outU, outB, deep, deepL, boxIds, AV.bid, List.map_nil, List.map_cons, List.all_nil, List.all_cons, BEq.rfl, Bool.and_true, Bool.true_and, List.append_nil, aops_nil, aops_plain, aops_guard, kont_at, yes_at, no_at, aop_move, aop_assign, aop_pick, aop_alloc, aop_box, aop_build, aop_buildSlice, aop_load, aop_store, aop_nilCheck, aop_binOp, aop_unOp, aop_convert, aop_fieldAddr, aop_indexAddr, aop_slice, aop_extract, aop_makeSlice, aop_len, aop_max, aMax_int, slTy2, SC0, aop_append, aop_call, evalE, getE, putE, getB, setB, St.put, setsB, nth, AV.ofV, AV.blk, AV.bid, AV.one, SC.len, SC.get, List.length_nil, List.length_cons, Nat.reduceEqDiff, Nat.reduceAdd, ↓reduceIte, true_and, and_true, Bool.true_eq_false, Bool.false_eq_true, false_imp_iff, true_imp_iff, decide_eq_true_eq, Bool.not_eq_true', Bool.not_eq_false', decide_eq_false_iff_not, Option.isSome, List.nil_append, List.cons_append, aGuardO_some, aGuard_tt, aGuard_tf, aGuard_ft, aGuard_ff, aGuard_tb, aGuard_fb, aGuard_ts, aGuard_fs, aPick_b, aPick_t, aPick_f, aAlloc_one, aAlloc_flat, aBox_some, aBuild_flat, aInt_add, aBin_add, aInt_sub, aBin_sub, aInt_mul, aBin_mul, aInt_quo, aBin_quo, aInt_rem, aBin_rem, aInt_and, aBin_and, aInt_or, aBin_or, aInt_xor, aBin_xor, aInt_andNot, aBin_andNot, aInt_eql, aBin_eql, aInt_neq, aBin_neq, aInt_lss, aBin_lss, aInt_leq, aBin_leq, aInt_gtr, aBin_gtr, aInt_geq, aBin_geq, aBin_shl, aBin_shr, aShift_shl, aShift_shr, aBin_be1, aBin_bn1, aBin_be2, aBin_bn2, aBin_be3, aBin_bn3, aBin_be4, aBin_bn4, aBin_be5, aBin_bn5, aBin_be6, aBin_bn6, aBin_be7, aBin_bn7, aBin_be8, aBin_bn8, aBin_be9, aBin_bn9, aUn_b, aUn_t, aUn_f, aUn_i, aNil_ptr, aNil_pv, aConv_int, aField_ptr, aField_pv, aIdx_sl, aIdx_prm, aIdx_row, aIdx_drow, aMake_i, aMake_s, aExtr_tup, aLen_ref, aLen_nil, aLen_sl, aLen_prm, aLen_str, aBuildL_some, aBuildS_some, aLoad_1b, aLoad_1d, aLoad_fb, aLoad_fd, aLoad_1p, aLoad_fp, aLoad_ep, aLoad_rr, aLoad_rd, aStore_1, aStore_f, aStore_r, aApp_some, aAppend_nil, aAppend_ref, aSlice_h, aSlice_l, aSlice_lh, aop_slice3, aSlice3_r, aop_field, aFld_agg, aBinW_f, aBinW_t, aWrap_mul, aWrap_add, isW_tmp, isW_mulc, isW_addc, isW_sub, isW_quo, isW_rem, isW_and, isW_or, isW_xor, isW_andNot, isW_shl, isW_shr, isW_eql, isW_neq, isW_lss, isW_leq, isW_gtr, isW_geq, Int.reduceLT, aBinW_dF, aBinW_dT, bc_draw, kregD_at, aopsD_nil, aopsD_plain, aopsD_guard, kontD_at, splW_t, splW_f, contD_at, yesD_at, noD_at, splD_bool, splD_undef, splD_skip, splD_int, splD_tt, splD_ff, splD_str, splD_nil, splD_sl, splD_prm, splD_ref, splD_ptr, splD_rp, splD_ep, splD_pv, splD_agg, splD_tup, splD_clo, gD_tt, gD_tf, gD_ft, gD_ff, gD_ts, gD_fs, slotO_some, addTr_nil, addTr_cons, memQ_nil, memQ_cons, clash_nil, clash_cons, regC_none, regC_nil, regC_cons, regR_nil, regR_cons, Int.toNat_zero, Int.toNat_one, rng0, rng1, rng2, rng3, rng4, SC.take, SC.drop, mp_nil, acond_ct, acond_cf, mp_one0, mp_one1, mp_one2, mp_one3, kcall_one, liveB_row, liveB_box, idx, cont, still, dies, lend, lendA, lendDies, snocs, SC.snoc, SC.app, meet, AV.cells, fillA, List.getD_cons_zero, List.getD_cons_succ, List.set_cons_zero, List.set_cons_succ, List.length_singleton, Nat.le_refl, Nat.lt_irrefl, Nat.reduceLT, Nat.reduceLeDiff, Option.map_some, Option.map_none, List.flatMap_nil, List.flatMap_cons, Nat.zero_add, BEq.rfl, kcall_two, mp_two0, mp_two1, mp_two2, mp_two3, mp_two4, aop_makeFunc, plainA, Bool.true_and, sl3, ty3, un3, sl78, ty78, un78, sl106, ty106, un106, sl104, ty104, un104, sl5, ty5, un5, sl2, ty2, un2, sl21, ty21, un21, sl4, ty4, un4, sl9, un9, sl24, ty24, un24, sl22, ty22, un22, sl42, ty42, un42, sl47, sl82, sl68, sl107, sl115, sl119, ty82, ty56, sl56, ty26, sl26, ty101, sl101, ty93, sl93, inR64, inRu64, inRu32, gm_spec_l15Draw, gs_spec_l15Draw_119, at_spec_l1Below, lend_spec_l1Below, gs_spec_l15Draw_137, at_spec_l15Put, lend_spec_l15Put, cu_eta, Int.toNat_natCast]
  simp only [IntKind.bits]
  refine ⟨fun hlt => ?_, fun hge => ?_⟩
  · obtain ⟨m, rfl⟩ : ∃ m, k = m + 1 := ⟨k - 1, by omega⟩
    have hpl := putL_len (xs := l) (x := belowV bs c (1 * 2 ^ n.toNat))
    have hc2 := @belowC_nn bs c (1 * 2 ^ n.toNat) h2
    rw [drF_succ] at h1
    refine ⟨by omega, hp1, h2, by omega, fun hh => ⟨by omega, klp_of (m, belowC bs c (1 * 2 ^ n.toNat), putL l (belowV bs c (1 * 2 ^ n.toNat))) ?_ ⟨h1, hc2, by (simp only; omega)⟩ (by simp)⟩, fun hh => ⟨by omega, klp_ofK [0, 1, 3] rfl (m, belowC bs c (1 * 2 ^ n.toNat), putL l (belowV bs c (1 * 2 ^ n.toNat))) ?_ ⟨h1, hc2, by (simp only; omega)⟩ (by simp)⟩⟩
    · rw [putL_t hh]; simp [St.conv, St.bf, getE, putE, getB, cv, cvL, cvB, idx, still, pack, lifts, liftOne, liftC, liftK, killB, cellsOfB, setB]
    · simp [St.conv, St.bf, getE, putE, getB, cv, cvL, cvB, idx, still, pack, lifts, liftOne, liftC, liftK, killB, cellsOfB, setB]
  · have : k = 0 := by omega
    subst this
    rw [h1]
    simp only [drF]
    exact ⟨rfl, afin_of [0, 2] rfl (by simp only [resL, resV, resC, getE, putE, getB, setB, lifts, liftOne, liftC, liftK, killB, cellsOfB, List.length_cons, List.length_nil, List.nil_append, List.cons_append, Nat.reduceAdd, Nat.reduceEqDiff, ↓reduceIte, ty3, ty78, ty106, ty104, ty5, ty2, ty21, ty4, ty24, ty22, ty42, ty82, ty56, ty26, ty101, ty93]; rfl) (by simp [St.conv, St.bf, getE, putE, getB, cv, cvL, cvB, idx, still, pack, lifts, liftOne, liftC, liftK, killB, cellsOfB, setB]) (by simp [St.conv, St.bf, getE, putE, getB, cv, cvL, cvB, idx, still, pack, lifts, liftOne, liftC, liftK, killB, cellsOfB, setB])⟩
def lend_spec_l15Draw : List Nat := [0]
def sp_spec_l15Draw : List AV → List Bx → (AV → List Bx → Prop) → Prop
  | [.ptr 0 0, .int .i64 most], [.box [.sl none (.ints .u8 bs), .int .i64 i, .int .i64 h]], K => (OkBs bs) ∧ (0 ≤ i) ∧ (0 ≤ most ∧ most ≤ 6) ∧ K (.agg [.int .i64 (drN bs (i, h) most), .ref 1 (drL bs (i, h) most).length]) [.box [.prm 2 (.ints .u8 bs), .int .i64 (drC bs (i, h) most).1, .int .i64 (drC bs (i, h) most).2], .row 3 (.ints .i64 (drL bs (i, h) most))]
  | _, _, _ => False
theorem at_spec_l15Draw {bs : List Int} {i h most : Int} {K : AV → List Bx → Prop} : sp_spec_l15Draw [.ptr 0 0, .int .i64 most] [.box [.sl none (.ints .u8 bs), .int .i64 i, .int .i64 h]] K = ((OkBs bs) ∧ (0 ≤ i) ∧ (0 ≤ most ∧ most ≤ 6) ∧ K (.agg [.int .i64 (drN bs (i, h) most), .ref 1 (drL bs (i, h) most).length]) [.box [.prm 2 (.ints .u8 bs), .int .i64 (drC bs (i, h) most).1, .int .i64 (drC bs (i, h) most).2], .row 3 (.ints .i64 (drL bs (i, h) most))]) := id rfl
theorem ok_spec_l15Draw : ∀ args giv K, sp_spec_l15Draw args giv K → ∃ r outs, ARuns Try.prog 159 args giv r outs ∧ K r outs := by
  intro args giv K hk
  unfold sp_spec_l15Draw at hk
  split at hk
  · obtain ⟨hp1, hp2, hp3, hk⟩ := hk; exact ⟨_, _, runs_spec_l15Draw _ _ _ _ hp1 hp2 hp3, hk⟩
  · exact hk.elim
theorem is_spec_l15Any : FnIs Try.prog 98 25 [ResultVar.cell 2 26] (Try.f98.body.getD .skip) := ⟨⟨Try.f98, by kernel_rfl, by kernel_rfl, by kernel_rfl, by kernel_rfl⟩, by kernel_rfl, by kernel_rfl⟩
def G_spec_l15Any : Gm := (((Gm.none.add 119 lend_spec_l1Below sp_spec_l1Below).add 158 lend_spec_l1PickInt sp_spec_l1PickInt).add 159 lend_spec_l15Draw sp_spec_l15Draw)
theorem G_spec_l15Any_ok : G_spec_l15Any.ok Try.prog := (Gm.add_ok (Gm.add_ok (Gm.add_ok Gm.none_ok ok_spec_l1Below) ok_spec_l1PickInt) ok_spec_l15Draw)
theorem gm_spec_l15Any {r : List Oper} {n : Nat} : splB G_spec_l15Any r n = true := rfl
theorem gs_spec_l15Any_119 : G_spec_l15Any.sp 119 = sp_spec_l1Below ∧ G_spec_l15Any.lend 119 = lend_spec_l1Below := ⟨rfl, rfl⟩
theorem gs_spec_l15Any_158 : G_spec_l15Any.sp 158 = sp_spec_l1PickInt ∧ G_spec_l15Any.lend 158 = lend_spec_l1PickInt := ⟨rfl, rfl⟩
theorem gs_spec_l15Any_159 : G_spec_l15Any.sp 159 = sp_spec_l15Draw ∧ G_spec_l15Any.lend 159 = lend_spec_l15Draw := ⟨rfl, rfl⟩
set_option maxHeartbeats 1000000 in
set_option maxRecDepth 100000 in
theorem runs_spec_l15Any (bs : List Int) (i h : Int) (hp1 : OkBs bs) (hp2 : 0 ≤ i) : ARuns Try.prog 98 [.ptr 0 0] [.box [.sl none (.ints .u8 bs), .int .i64 i, .int .i64 h]] (.agg [.int .i64 (anyN bs (i, h)), .ref 1 (anyL bs (i, h)).length]) [.box [.prm 1 (.ints .u8 bs), .int .i64 (anyC bs (i, h)).1, .int .i64 (anyC bs (i, h)).2], .row 3 (.ints .i64 (anyL bs (i, h)))] := by
  refine ARuns_bc G_spec_l15Any_ok is_spec_l15Any (by simp) fun hl hlB => ?_
  simp only [kcode_at, kreg_at, bc_skip, bc_seq, bc_cond, bc_block, bc_exit, bc_ret, bc_region, lkX_cons, acond_tmp, aCase_t, aCase_f, aCase_b, afin_nil, cvE_some, resL, resV, resC, cv, cvL, pack, entryE, inPrm, entryB, inPrms, bxCells, Option.getD_some, acall_clo, add_sp, add_lend, kcall_nil, selOf, selC, selA, inArgs, inA, inL, okA, okL, okBx, okC, outA, outL, outU, outB, deep, deepL, boxIds, AV.bid, List.map_nil, List.map_cons, List.all_nil, List.all_cons, BEq.rfl, Bool.and_true, Bool.true_and, List.append_nil, aops_nil, aops_plain, aops_guard, kont_at, yes_at, no_at, aop_move, aop_assign, aop_pick, aop_alloc, aop_box, aop_build, aop_buildSlice, aop_load, aop_store, aop_nilCheck, aop_binOp, aop_unOp, aop_convert, aop_fieldAddr, aop_indexAddr, aop_slice, aop_extract, aop_makeSlice, aop_len, aop_max, aMax_int, slTy2, SC0, aop_append, aop_call, evalE, getE, putE, getB, setB, St.put, setsB, nth, AV.ofV, AV.blk, AV.bid, AV.one, SC.len, SC.get, List.length_nil, List.length_cons, Nat.reduceEqDiff, Nat.reduceAdd, ↓reduceIte, true_and, and_true, Bool.true_eq_false, Bool.false_eq_true, false_imp_iff, true_imp_iff, decide_eq_true_eq, Bool.not_eq_true', Bool.not_eq_false', decide_eq_false_iff_not, Option.isSome, List.nil_append, List.cons_append, aGuardO_some, aGuard_tt, aGuard_tf, aGuard_ft, aGuard_ff, aGuard_tb, aGuard_fb, aGuard_ts, aGuard_fs, aPick_b, aPick_t, aPick_f, aAlloc_one, aAlloc_flat, aBox_some, aBuild_flat, aInt_add, aBin_add, aInt_sub, aBin_sub, aInt_mul, aBin_mul, aInt_quo, aBin_quo, aInt_rem, aBin_rem, aInt_and, aBin_and, aInt_or, aBin_or, aInt_xor, aBin_xor, aInt_andNot, aBin_andNot, aInt_eql, aBin_eql, aInt_neq, aBin_neq, aInt_lss, aBin_lss, aInt_leq, aBin_leq, aInt_gtr, aBin_gtr, aInt_geq, aBin_geq, aBin_shl, aBin_shr, aShift_shl, aShift_shr, aBin_be1, aBin_bn1, aBin_be2, aBin_bn2, aBin_be3, aBin_bn3, aBin_be4, aBin_bn4, aBin_be5, aBin_bn5, aBin_be6, aBin_bn6, aBin_be7, aBin_bn7, aBin_be8, aBin_bn8, aBin_be9, aBin_bn9, aUn_b, aUn_t, aUn_f, aUn_i, aNil_ptr, aNil_pv, aConv_int, aField_ptr, aField_pv, aIdx_sl, aIdx_prm, aIdx_row, aIdx_drow, aMake_i, aMake_s, aExtr_tup, aLen_ref, aLen_nil, aLen_sl, aLen_prm, aLen_str, aBuildL_some, aBuildS_some, aLoad_1b, aLoad_1d, aLoad_fb, aLoad_fd, aLoad_1p, aLoad_fp, aLoad_ep, aLoad_rr, aLoad_rd, aStore_1, aStore_f, aStore_r, aApp_some, aAppend_nil, aAppend_ref, aSlice_h, aSlice_l, aSlice_lh, aop_slice3, aSlice3_r, aop_field, aFld_agg, aBinW_f, aBinW_t, aWrap_mul, aWrap_add, isW_tmp, isW_mulc, isW_addc, isW_sub, isW_quo, isW_rem, isW_and, isW_or, isW_xor, isW_andNot, isW_shl, isW_shr, isW_eql, isW_neq, isW_lss, isW_leq, isW_gtr, isW_geq, Int.reduceLT, aBinW_dF, aBinW_dT, bc_draw, kregD_at, aopsD_nil, aopsD_plain, aopsD_guard, kontD_at, splW_t, splW_f, contD_at, yesD_at, noD_at, splD_bool, splD_undef, splD_skip, splD_int, splD_tt, splD_ff, splD_str, splD_nil, splD_sl, splD_prm, splD_ref, splD_ptr, splD_rp, splD_ep, splD_pv, splD_agg, splD_tup, splD_clo, gD_tt, gD_tf, gD_ft, gD_ff, gD_ts, gD_fs, slotO_some, addTr_nil, addTr_cons, memQ_nil, memQ_cons, clash_nil, clash_cons, regC_none, regC_nil, regC_cons, regR_nil, regR_cons, Int.toNat_zero, Int.toNat_one, rng0, rng1, rng2, rng3, rng4, SC.take, SC.drop, mp_nil, acond_ct, acond_cf, mp_one0, mp_one1, mp_one2, mp_one3, kcall_one, liveB_row, liveB_box, idx, cont, still, dies, lend, lendA, lendDies, snocs, SC.snoc, SC.app, meet, AV.cells, fillA, List.getD_cons_zero, List.getD_cons_succ, List.set_cons_zero, List.set_cons_succ, List.length_singleton, Nat.le_refl, Nat.lt_irrefl, Nat.reduceLT, Nat.reduceLeDiff, Option.map_some, Option.map_none, List.flatMap_nil, List.flatMap_cons, Nat.zero_add, BEq.rfl, kcall_two, mp_two0, mp_two1, mp_two2, mp_two3, mp_two4, aop_makeFunc, plainA, Bool.true_and, sl3, ty3, un3, sl78, ty78, un78, sl106, ty106, un106, sl104, ty104, un104, sl5, ty5, un5, sl2, ty2, un2, sl21, ty21, un21, sl4, ty4, un4, sl9, un9, sl24, ty24, un24, sl22, ty22, un22, sl42, ty42, un42, sl47, sl82, sl68, sl107, sl115, sl119, ty82, ty56, sl56, ty26, sl26, ty101, sl101, ty93, sl93, inR64, inRu64, inRu32, gm_spec_l15Any, gs_spec_l15Any_119, at_spec_l1Below, lend_spec_l1Below, gs_spec_l15Any_158, at_spec_l1PickInt, lend_spec_l1PickInt, gs_spec_l15Any_159, at_spec_l15Draw, lend_spec_l15Draw, cu_eta, Try.f98]
  have hd := @drC_nn bs (i, h) 5 hp2
  have hk : anyK bs (i, h) = belowV bs (drC bs (i, h) 5) 14 := rfl
  have hD : anyD bs (i, h) = belowC bs (drC bs (i, h) 5) 14 := rfl
  have hdd : 0 ≤ (anyD bs (i, h)).1 := belowC_nn hd
  rw [← hk, ← hD]
  have hl6 := @drL_len bs (i, h) 5
  refine ⟨hp1, hp2, by omega, hp1, hd, fun h0 => ?_, fun h0 => ⟨fun h1 => ?_, fun h1 => ?_⟩⟩
  · obtain ⟨e1, e2, e3⟩ := any_0 h0
    rw [e1, e2, e3]
    exact ⟨rfl, hp1, hdd, afin_of [0, 2] rfl (by simp only [resL, resV, resC, getE, putE, getB, setB, lifts, liftOne, liftC, liftK, killB, cellsOfB, List.length_cons, List.length_nil, List.nil_append, List.cons_append, Nat.reduceAdd, Nat.reduceEqDiff, ↓reduceIte, ty3, ty78, ty106, ty104, ty5, ty2, ty21, ty4, ty24, ty22, ty42, ty82, ty56, ty26, ty101, ty93]; rfl) (by simp [St.conv, St.bf, getE, putE, getB, cv, cvL, cvB, idx, still, pack, lifts, liftOne, liftC, liftK, killB, cellsOfB, setB] <;> first | rfl | exact ⟨rfl, rfl⟩ | exact ⟨⟨rfl, rfl⟩, rfl⟩ | exact ⟨rfl, rfl, rfl⟩) (by simp [St.conv, St.bf, getE, putE, getB, cv, cvL, cvB, idx, still, pack, lifts, liftOne, liftC, liftK, killB, cellsOfB, setB] <;> first | rfl | exact ⟨rfl, rfl⟩ | exact ⟨⟨rfl, rfl⟩, rfl⟩ | exact ⟨rfl, rfl, rfl⟩)⟩
  · obtain ⟨e1, e2, e3⟩ := any_1 h1
    rw [e1, e2, e3]
    exact ⟨rfl, hp1, hdd, by omega, (by (repeat' apply And.intro) <;> (show ordB _ _ _ = true; kernel_rfl)), afin_of [0, 2] rfl (by simp only [resL, resV, resC, getE, putE, getB, setB, lifts, liftOne, liftC, liftK, killB, cellsOfB, List.length_cons, List.length_nil, List.nil_append, List.cons_append, Nat.reduceAdd, Nat.reduceEqDiff, ↓reduceIte, ty3, ty78, ty106, ty104, ty5, ty2, ty21, ty4, ty24, ty22, ty42, ty82, ty56, ty26, ty101, ty93]; rfl) (by simp [St.conv, St.bf, getE, putE, getB, cv, cvL, cvB, idx, still, pack, lifts, liftOne, liftC, liftK, killB, cellsOfB, setB]) (by simp [St.conv, St.bf, getE, putE, getB, cv, cvL, cvB, idx, still, pack, lifts, liftOne, liftC, liftK, killB, cellsOfB, setB] <;> first | rfl | exact ⟨rfl, rfl⟩ | exact ⟨⟨rfl, rfl⟩, rfl⟩ | exact ⟨rfl, rfl, rfl⟩)⟩
  · obtain ⟨e1, e2, e3⟩ := any_2 h0 h1
    rw [e1, e2, e3]
    exact afin_of [0, 2] rfl (by simp only [resL, resV, resC, getE, putE, getB, setB, lifts, liftOne, liftC, liftK, killB, cellsOfB, List.length_cons, List.length_nil, List.nil_append, List.cons_append, Nat.reduceAdd, Nat.reduceEqDiff, ↓reduceIte, ty3, ty78, ty106, ty104, ty5, ty2, ty21, ty4, ty24, ty22, ty42, ty82, ty56, ty26, ty101, ty93]; rfl) (by simp [St.conv, St.bf, getE, putE, getB, cv, cvL, cvB, idx, still, pack, lifts, liftOne, liftC, liftK, killB, cellsOfB, setB]) (by simp [St.conv, St.bf, getE, putE, getB, cv, cvL, cvB, idx, still, pack, lifts, liftOne, liftC, liftK, killB, cellsOfB, setB])
def lend_spec_l15Any : List Nat := [0]
def sp_spec_l15Any : List AV → List Bx → (AV → List Bx → Prop) → Prop
  | [.ptr 0 0], [.box [.sl none (.ints .u8 bs), .int .i64 i, .int .i64 h]], K => (OkBs bs) ∧ (0 ≤ i) ∧ K (.agg [.int .i64 (anyN bs (i, h)), .ref 1 (anyL bs (i, h)).length]) [.box [.prm 1 (.ints .u8 bs), .int .i64 (anyC bs (i, h)).1, .int .i64 (anyC bs (i, h)).2], .row 3 (.ints .i64 (anyL bs (i, h)))]
  | _, _, _ => False
theorem at_spec_l15Any {bs : List Int} {i h : Int} {K : AV → List Bx → Prop} : sp_spec_l15Any [.ptr 0 0] [.box [.sl none (.ints .u8 bs), .int .i64 i, .int .i64 h]] K = ((OkBs bs) ∧ (0 ≤ i) ∧ K (.agg [.int .i64 (anyN bs (i, h)), .ref 1 (anyL bs (i, h)).length]) [.box [.prm 1 (.ints .u8 bs), .int .i64 (anyC bs (i, h)).1, .int .i64 (anyC bs (i, h)).2], .row 3 (.ints .i64 (anyL bs (i, h)))]) := id rfl
theorem ok_spec_l15Any : ∀ args giv K, sp_spec_l15Any args giv K → ∃ r outs, ARuns Try.prog 98 args giv r outs ∧ K r outs := by
  intro args giv K hk
  unfold sp_spec_l15Any at hk
  split at hk
  · obtain ⟨hp1, hp2, hk⟩ := hk; exact ⟨_, _, runs_spec_l15Any _ _ _ hp1 hp2, hk⟩
  · exact hk.elim
theorem is_spec_l1New : FnIs Try.prog 99 32 [.tmp 2] (Try.f99.body.getD .skip) := ⟨⟨Try.f99, by kernel_rfl, by kernel_rfl, by kernel_rfl, by kernel_rfl⟩, by kernel_rfl, by kernel_rfl⟩
def G_spec_l1New : Gm := Gm.none
theorem G_spec_l1New_ok : G_spec_l1New.ok Try.prog := Gm.none_ok
theorem gm_spec_l1New {r : List Oper} {n : Nat} : splB G_spec_l1New r n = true := rfl
set_option maxHeartbeats 1000000 in
set_option maxRecDepth 100000 in
theorem runs_spec_l1New (bs : List Int) (hp1 : OkBs bs) : ARuns Try.prog 99 [.sl none (.ints .u8 bs)] [] (.ptr 0 0) [.box [.prm 0 (.ints .u8 bs), .int .i64 (newC bs).1, .int .i64 (newC bs).2]] := by
  refine ARuns_bc G_spec_l1New_ok is_spec_l1New (by simp) fun hl hlB => ?_
  simp only [kcode_at, kreg_at, bc_skip, bc_seq, bc_cond, bc_block, bc_exit, bc_ret, bc_region, lkX_cons, acond_tmp, aCase_t, aCase_f, aCase_b, afin_nil, cvE_some, resL, resV, resC, cv, cvL, pack, entryE, inPrm, entryB, inPrms, bxCells, Option.getD_some, acall_clo, add_sp, add_lend, kcall_nil, selOf, selC, selA, inArgs, inA, inL, okA, okL, okBx, okC, outA, outL, outU, outB, deep, deepL, boxIds, AV.bid, List.map_nil, List.map_cons, List.all_nil, List.all_cons, BEq.rfl, Bool.and_true, Bool.true_and, List.append_nil, aops_nil, aops_plain, aops_guard, kont_at, yes_at, no_at, aop_move, aop_assign, aop_pick, aop_alloc, aop_box, aop_build, aop_buildSlice, aop_load, aop_store, aop_nilCheck, aop_binOp, aop_unOp, aop_convert, aop_fieldAddr, aop_indexAddr, aop_slice, aop_extract, aop_makeSlice, aop_len, aop_max, aMax_int, slTy2, SC0, aop_append, aop_call, evalE, getE, putE, getB, setB, St.put, setsB, nth, AV.ofV, AV.blk, AV.bid, AV.one, SC.len, SC.get, List.length_nil, List.length_cons, Nat.reduceEqDiff, Nat.reduceAdd, ↓reduceIte, true_and, and_true, Bool.true_eq_false, Bool.false_eq_true, false_imp_iff, true_imp_iff, decide_eq_true_eq, Bool.not_eq_true', Bool.not_eq_false', decide_eq_false_iff_not, Option.isSome, List.nil_append, List.cons_append, aGuardO_some, aGuard_tt, aGuard_tf, aGuard_ft, aGuard_ff, aGuard_tb, aGuard_fb, aGuard_ts, aGuard_fs, aPick_b, aPick_t, aPick_f, aAlloc_one, aAlloc_flat, aBox_some, aBuild_flat, aInt_add, aBin_add, aInt_sub, aBin_sub, aInt_mul, aBin_mul, aInt_quo, aBin_quo, aInt_rem, aBin_rem, aInt_and, aBin_and, aInt_or, aBin_or, aInt_xor, aBin_xor, aInt_andNot, aBin_andNot, aInt_eql, aBin_eql, aInt_neq, aBin_neq, aInt_lss, aBin_lss, aInt_leq, aBin_leq, aInt_gtr, aBin_gtr, aInt_geq, aBin_geq, aBin_shl, aBin_shr, aShift_shl, aShift_shr, aBin_be1, aBin_bn1, aBin_be2, aBin_bn2, aBin_be3, aBin_bn3, aBin_be4, aBin_bn4, aBin_be5, aBin_bn5, aBin_be6, aBin_bn6, aBin_be7, aBin_bn7, aBin_be8, aBin_bn8, aBin_be9, aBin_bn9, aUn_b, aUn_t, aUn_f, aUn_i, aNil_ptr, aNil_pv, aConv_int, aField_ptr, aField_pv, aIdx_sl, aIdx_prm, aIdx_row, aIdx_drow, aMake_i, aMake_s, aExtr_tup, aLen_ref, aLen_nil, aLen_sl, aLen_prm, aLen_str, aBuildL_some, aBuildS_some, aLoad_1b, aLoad_1d, aLoad_fb, aLoad_fd, aLoad_1p, aLoad_fp, aLoad_ep, aLoad_rr, aLoad_rd, aStore_1, aStore_f, aStore_r, aApp_some, aAppend_nil, aAppend_ref, aSlice_h, aSlice_l, aSlice_lh, aop_slice3, aSlice3_r, aop_field, aFld_agg, aBinW_f, aBinW_t, aWrap_mul, aWrap_add, isW_tmp, isW_mulc, isW_addc, isW_sub, isW_quo, isW_rem, isW_and, isW_or, isW_xor, isW_andNot, isW_shl, isW_shr, isW_eql, isW_neq, isW_lss, isW_leq, isW_gtr, isW_geq, Int.reduceLT, aBinW_dF, aBinW_dT, bc_draw, kregD_at, aopsD_nil, aopsD_plain, aopsD_guard, kontD_at, splW_t, splW_f, contD_at, yesD_at, noD_at, splD_bool, splD_undef, splD_skip, splD_int, splD_tt, splD_ff, splD_str, splD_nil, splD_sl, splD_prm, splD_ref, splD_ptr, splD_rp, splD_ep, splD_pv, splD_agg, splD_tup, splD_clo, gD_tt, gD_tf, gD_ft, gD_ff, gD_ts, gD_fs, slotO_some, addTr_nil, addTr_cons, memQ_nil, memQ_cons, clash_nil, clash_cons, regC_none, regC_nil, regC_cons, regR_nil, regR_cons, Int.toNat_zero, Int.toNat_one, rng0, rng1, rng2, rng3, rng4, SC.take, SC.drop, mp_nil, acond_ct, acond_cf, mp_one0, mp_one1, mp_one2, mp_one3, kcall_one, liveB_row, liveB_box, idx, cont, still, dies, lend, lendA, lendDies, snocs, SC.snoc, SC.app, meet, AV.cells, fillA, List.getD_cons_zero, List.getD_cons_succ, List.set_cons_zero, List.set_cons_succ, List.length_singleton, Nat.le_refl, Nat.lt_irrefl, Nat.reduceLT, Nat.reduceLeDiff, Option.map_some, Option.map_none, List.flatMap_nil, List.flatMap_cons, Nat.zero_add, BEq.rfl, kcall_two, mp_two0, mp_two1, mp_two2, mp_two3, mp_two4, aop_makeFunc, plainA, Bool.true_and, sl3, ty3, un3, sl78, ty78, un78, sl106, ty106, un106, sl104, ty104, un104, sl5, ty5, un5, sl2, ty2, un2, sl21, ty21, un21, sl4, ty4, un4, sl9, un9, sl24, ty24, un24, sl22, ty22, un22, sl42, ty42, un42, sl47, sl82, sl68, sl107, sl115, sl119, ty82, ty56, sl56, ty26, sl26, ty101, sl101, ty93, sl93, inR64, inRu64, inRu32, gm_spec_l1New, Try.f99]
  obtain ⟨hp2, hp1⟩ := hp1
  refine ⟨by omega, ?_⟩
  refine bc_loop (fun i : Nat => i ≤ bs.length ∧ i ≤ 4000)
    (fun i => ⟨[(0, .prm 0 (.ints .u8 bs)), (3, .int .i64 (newF bs i)), (4, .int .i64 i)], []⟩) (fun i => bs.length - i)
    [0, 3, 4] [] 0 rfl (by simp [St.conv, St.bf, getE, putE, getB, cv, cvL, cvB, idx, still, pack, lifts, liftOne, liftC, liftK, killB, cellsOfB, setB]; rfl) (by omega) fun i ⟨h1, h2⟩ => ?_
  simp only [kcode_at, kreg_at, bc_skip, bc_seq, bc_cond, bc_block, bc_exit, bc_ret, bc_region, lkX_cons, acond_tmp, aCase_t, aCase_f, aCase_b, afin_nil, cvE_some, resL, resV, resC, cv, cvL, pack, entryE, inPrm, entryB, inPrms, bxCells, Option.getD_some, acall_clo, add_sp, add_lend, kcall_nil, selOf, selC, selA, inArgs, inA, inL, okA, okL, okBx, okC, outA, outL, outU, outB, deep, deepL, boxIds, AV.bid, List.map_nil, List.map_cons, List.all_nil, List.all_cons, BEq.rfl, Bool.and_true, Bool.true_and, List.append_nil, aops_nil, aops_plain, aops_guard, kont_at, yes_at, no_at, aop_move, aop_assign, aop_pick, aop_alloc, aop_box, aop_build, aop_buildSlice, aop_load, aop_store, aop_nilCheck, aop_binOp, aop_unOp, aop_convert, aop_fieldAddr, aop_indexAddr, aop_slice, aop_extract, aop_makeSlice, aop_len, aop_max, aMax_int, slTy2, SC0, aop_append, aop_call, evalE, getE, putE, getB, setB, St.put, setsB, nth, AV.ofV, AV.blk, AV.bid, AV.one, SC.len, SC.get, List.length_nil, List.length_cons, Nat.reduceEqDiff, Nat.reduceAdd, ↓reduceIte, true_and, and_true, Bool.true_eq_false, Bool.false_eq_true, false_imp_iff, true_imp_iff, decide_eq_true_eq, Bool.not_eq_true', Bool.not_eq_false', decide_eq_false_iff_not, Option.isSome, List.nil_append, List.cons_append, aGuardO_some, aGuard_tt, aGuard_tf, aGuard_ft, aGuard_ff, aGuard_tb, aGuard_fb, aGuard_ts, aGuard_fs, aPick_b, aPick_t, aPick_f, aAlloc_one, aAlloc_flat, aBox_some, aBuild_flat, aInt_add, aBin_add, aInt_sub, aBin_sub, aInt_mul, aBin_mul, aInt_quo, aBin_quo, aInt_rem, aBin_rem, aInt_and, aBin_and, aInt_or, aBin_or, aInt_xor, aBin_xor, aInt_andNot, aBin_andNot, aInt_eql, aBin_eql, aInt_neq, aBin_neq, aInt_lss, aBin_lss, aInt_leq, aBin_leq, aInt_gtr, aBin_gtr, aInt_geq, aBin_geq, aBin_shl, aBin_shr, aShift_shl, aShift_shr, aBin_be1, aBin_bn1, aBin_be2, aBin_bn2, aBin_be3, aBin_bn3, aBin_be4, aBin_bn4, aBin_be5, aBin_bn5, aBin_be6, aBin_bn6, aBin_be7, aBin_bn7, aBin_be8, aBin_bn8, aBin_be9, aBin_bn9, aUn_b, aUn_t, aUn_f, aUn_i, aNil_ptr, aNil_pv, aConv_int, aField_ptr, aField_pv, aIdx_sl, aIdx_prm, aIdx_row, aIdx_drow, aMake_i, aMake_s, aExtr_tup, aLen_ref, aLen_nil, aLen_sl, aLen_prm, aLen_str, aBuildL_some, aBuildS_some, aLoad_1b, aLoad_1d, aLoad_fb, aLoad_fd, aLoad_1p, aLoad_fp, aLoad_ep, aLoad_rr, aLoad_rd, aStore_1, aStore_f, aStore_r, aApp_some, aAppend_nil, aAppend_ref, aSlice_h, aSlice_l, aSlice_lh, aop_slice3, aSlice3_r, aop_field, aFld_agg, aBinW_f, aBinW_t, aWrap_mul, aWrap_add, isW_tmp, isW_mulc, isW_addc, isW_sub, isW_quo, isW_rem, isW_and, isW_or, isW_xor, isW_andNot, isW_shl, isW_shr, isW_eql, isW_neq, isW_lss, isW_leq, isW_gtr, isW_geq, Int.reduceLT, aBinW_dF, aBinW_dT, bc_draw, kregD_at, aopsD_nil, aopsD_plain, aopsD_guard, kontD_at, splW_t, splW_f, contD_at, yesD_at, noD_at, splD_bool, splD_undef, splD_skip, splD_int, splD_tt, splD_ff, splD_str, splD_nil, splD_sl, splD_prm, splD_ref, splD_ptr, splD_rp, splD_ep, splD_pv, splD_agg, splD_tup, splD_clo, gD_tt, gD_tf, gD_ft, gD_ff, gD_ts, gD_fs, slotO_some, addTr_nil, addTr_cons, memQ_nil, memQ_cons, clash_nil, clash_cons, regC_none, regC_nil, regC_cons, regR_nil, regR_cons, Int.toNat_zero, Int.toNat_one, rng0, rng1, rng2, rng3, rng4, SC.take, SC.drop, mp_nil, acond_ct, acond_cf, mp_one0, mp_one1, mp_one2, mp_one3, kcall_one, liveB_row, liveB_box, idx, cont, still, dies, lend, lendA, lendDies, snocs, SC.snoc, SC.app, meet, AV.cells, fillA, List.getD_cons_zero, List.getD_cons_succ, List.set_cons_zero, List.set_cons_succ, List.length_singleton, Nat.le_refl, Nat.lt_irrefl, Nat.reduceLT, Nat.reduceLeDiff, Option.map_some, Option.map_none, List.flatMap_nil, List.flatMap_cons, Nat.zero_add, BEq.rfl, kcall_two, mp_two0, mp_two1, mp_two2, mp_two3, mp_two4, aop_makeFunc, plainA, Bool.true_and, sl3, ty3, un3, sl78, ty78, un78, sl106, ty106, un106, sl104, ty104, un104, sl5, ty5, un5, sl2, ty2, un2, sl21, ty21, un21, sl4, ty4, un4, sl9, un9, sl24, ty24, un24, sl22, ty22, un22, sl42, ty42, un42, sl47, sl82, sl68, sl107, sl115, sl119, ty82, ty56, sl56, ty26, sl26, ty101, sl101, ty93, sl93, inR64, inRu64, inRu32, gm_spec_l1New, Int.toNat_natCast]
  have hb := newF_bd (bs := bs) (i := i)
  refine ⟨fun hlt => ⟨fun h4 => ?_, fun h4 => ?_⟩, fun hge => ?_⟩
  · have hz := hp1 i (by omega)
    refine ⟨by omega, by omega, by omega, by omega, by omega, by omega, klp_of (i + 1) (by simp [St.conv, St.bf, getE, putE, getB, cv, cvL, cvB, idx, still, pack, lifts, liftOne, liftC, liftK, killB, cellsOfB, setB]; rfl) (by omega) (by omega)⟩
  · have e : min bs.length 4000 = i := by omega
    rw [newC, e]
    exact ⟨rfl, afin_of [0] rfl rfl (by simp [St.conv, St.bf, getE, putE, getB, cv, cvL, cvB, idx, still, pack, lifts, liftOne, liftC, liftK, killB, cellsOfB, setB]) (by simp [St.conv, St.bf, getE, putE, getB, cv, cvL, cvB, idx, still, pack, lifts, liftOne, liftC, liftK, killB, cellsOfB, setB])⟩
  · have e : min bs.length 4000 = i := by omega
    rw [newC, e]
    exact ⟨rfl, afin_of [0] rfl rfl (by simp [St.conv, St.bf, getE, putE, getB, cv, cvL, cvB, idx, still, pack, lifts, liftOne, liftC, liftK, killB, cellsOfB, setB]) (by simp [St.conv, St.bf, getE, putE, getB, cv, cvL, cvB, idx, still, pack, lifts, liftOne, liftC, liftK, killB, cellsOfB, setB])⟩
def lend_spec_l1New : List Nat := []
def sp_spec_l1New : List AV → List Bx → (AV → List Bx → Prop) → Prop
  | [.sl none (.ints .u8 bs)], [], K => (OkBs bs) ∧ K (.ptr 0 0) [.box [.prm 0 (.ints .u8 bs), .int .i64 (newC bs).1, .int .i64 (newC bs).2]]
  | _, _, _ => False
theorem at_spec_l1New {bs : List Int} {K : AV → List Bx → Prop} : sp_spec_l1New [.sl none (.ints .u8 bs)] [] K = ((OkBs bs) ∧ K (.ptr 0 0) [.box [.prm 0 (.ints .u8 bs), .int .i64 (newC bs).1, .int .i64 (newC bs).2]]) := id rfl
theorem ok_spec_l1New : ∀ args giv K, sp_spec_l1New args giv K → ∃ r outs, ARuns Try.prog 99 args giv r outs ∧ K r outs := by
  intro args giv K hk
  unfold sp_spec_l1New at hk
  split at hk
  · obtain ⟨hp1, hk⟩ := hk; exact ⟨_, _, runs_spec_l1New _ hp1, hk⟩
  · exact hk.elim
theorem is_spec_DrawShatteredSets : FnIs Try.prog 10 6 [ResultVar.cell 2 26] (Try.f10.body.getD .skip) := ⟨⟨Try.f10, by kernel_rfl, by kernel_rfl, by kernel_rfl, by kernel_rfl⟩, by kernel_rfl, by kernel_rfl⟩
def G_spec_DrawShatteredSets : Gm := ((Gm.none.add 98 lend_spec_l15Any sp_spec_l15Any).add 99 lend_spec_l1New sp_spec_l1New)
theorem G_spec_DrawShatteredSets_ok : G_spec_DrawShatteredSets.ok Try.prog := (Gm.add_ok (Gm.add_ok Gm.none_ok ok_spec_l15Any) ok_spec_l1New)
theorem gm_spec_DrawShatteredSets {r : List Oper} {n : Nat} : splB G_spec_DrawShatteredSets r n = true := rfl
theorem gs_spec_DrawShatteredSets_98 : G_spec_DrawShatteredSets.sp 98 = sp_spec_l15Any ∧ G_spec_DrawShatteredSets.lend 98 = lend_spec_l15Any := ⟨rfl, rfl⟩
theorem gs_spec_DrawShatteredSets_99 : G_spec_DrawShatteredSets.sp 99 = sp_spec_l1New ∧ G_spec_DrawShatteredSets.lend 99 = lend_spec_l1New := ⟨rfl, rfl⟩
set_option maxHeartbeats 1000000 in
set_option maxRecDepth 100000 in
theorem runs_spec_DrawShatteredSets (bs : List Int) (hp1 : OkBs bs) : ARuns Try.prog 10 [.sl none (.ints .u8 bs)] [] (.agg [.int .i64 (anyN bs (newC bs)), .ref 0 (anyL bs (newC bs)).length]) [.row 3 (.ints .i64 (anyL bs (newC bs)))] := by
  refine ARuns_bc G_spec_DrawShatteredSets_ok is_spec_DrawShatteredSets (by simp) fun hl hlB => ?_
  simp only [kcode_at, kreg_at, bc_skip, bc_seq, bc_cond, bc_block, bc_exit, bc_ret, bc_region, lkX_cons, acond_tmp, aCase_t, aCase_f, aCase_b, afin_nil, cvE_some, resL, resV, resC, cv, cvL, pack, entryE, inPrm, entryB, inPrms, bxCells, Option.getD_some, acall_clo, add_sp, add_lend, kcall_nil, selOf, selC, selA, inArgs, inA, inL, okA, okL, okBx, okC, outA, outL, outU, outB, deep, deepL, boxIds, AV.bid, List.map_nil, List.map_cons, List.all_nil, List.all_cons, BEq.rfl, Bool.and_true, Bool.true_and, List.append_nil, aops_nil, aops_plain, aops_guard, kont_at, yes_at, no_at, aop_move, aop_assign, aop_pick, aop_alloc, aop_box, aop_build, aop_buildSlice, aop_load, aop_store, aop_nilCheck, aop_binOp, aop_unOp, aop_convert, aop_fieldAddr, aop_indexAddr, aop_slice, aop_extract, aop_makeSlice, aop_len, aop_max, aMax_int, slTy2, SC0, aop_append, aop_call, evalE, getE, putE, getB, setB, St.put, setsB, nth, AV.ofV, AV.blk, AV.bid, AV.one, SC.len, SC.get, List.length_nil, List.length_cons, Nat.reduceEqDiff, Nat.reduceAdd, ↓reduceIte, true_and, and_true, Bool.true_eq_false, Bool.false_eq_true, false_imp_iff, true_imp_iff, decide_eq_true_eq, Bool.not_eq_true', Bool.not_eq_false', decide_eq_false_iff_not, Option.isSome, List.nil_append, List.cons_append, aGuardO_some, aGuard_tt, aGuard_tf, aGuard_ft, aGuard_ff, aGuard_tb, aGuard_fb, aGuard_ts, aGuard_fs, aPick_b, aPick_t, aPick_f, aAlloc_one, aAlloc_flat, aBox_some, aBuild_flat, aInt_add, aBin_add, aInt_sub, aBin_sub, aInt_mul, aBin_mul, aInt_quo, aBin_quo, aInt_rem, aBin_rem, aInt_and, aBin_and, aInt_or, aBin_or, aInt_xor, aBin_xor, aInt_andNot, aBin_andNot, aInt_eql, aBin_eql, aInt_neq, aBin_neq, aInt_lss, aBin_lss, aInt_leq, aBin_leq, aInt_gtr, aBin_gtr, aInt_geq, aBin_geq, aBin_shl, aBin_shr, aShift_shl, aShift_shr, aBin_be1, aBin_bn1, aBin_be2, aBin_bn2, aBin_be3, aBin_bn3, aBin_be4, aBin_bn4, aBin_be5, aBin_bn5, aBin_be6, aBin_bn6, aBin_be7, aBin_bn7, aBin_be8, aBin_bn8, aBin_be9, aBin_bn9, aUn_b, aUn_t, aUn_f, aUn_i, aNil_ptr, aNil_pv, aConv_int, aField_ptr, aField_pv, aIdx_sl, aIdx_prm, aIdx_row, aIdx_drow, aMake_i, aMake_s, aExtr_tup, aLen_ref, aLen_nil, aLen_sl, aLen_prm, aLen_str, aBuildL_some, aBuildS_some, aLoad_1b, aLoad_1d, aLoad_fb, aLoad_fd, aLoad_1p, aLoad_fp, aLoad_ep, aLoad_rr, aLoad_rd, aStore_1, aStore_f, aStore_r, aApp_some, aAppend_nil, aAppend_ref, aSlice_h, aSlice_l, aSlice_lh, aop_slice3, aSlice3_r, aop_field, aFld_agg, aBinW_f, aBinW_t, aWrap_mul, aWrap_add, isW_tmp, isW_mulc, isW_addc, isW_sub, isW_quo, isW_rem, isW_and, isW_or, isW_xor, isW_andNot, isW_shl, isW_shr, isW_eql, isW_neq, isW_lss, isW_leq, isW_gtr, isW_geq, Int.reduceLT, aBinW_dF, aBinW_dT, bc_draw, kregD_at, aopsD_nil, aopsD_plain, aopsD_guard, kontD_at, splW_t, splW_f, contD_at, yesD_at, noD_at, splD_bool, splD_undef, splD_skip, splD_int, splD_tt, splD_ff, splD_str, splD_nil, splD_sl, splD_prm, splD_ref, splD_ptr, splD_rp, splD_ep, splD_pv, splD_agg, splD_tup, splD_clo, gD_tt, gD_tf, gD_ft, gD_ff, gD_ts, gD_fs, slotO_some, addTr_nil, addTr_cons, memQ_nil, memQ_cons, clash_nil, clash_cons, regC_none, regC_nil, regC_cons, regR_nil, regR_cons, Int.toNat_zero, Int.toNat_one, rng0, rng1, rng2, rng3, rng4, SC.take, SC.drop, mp_nil, acond_ct, acond_cf, mp_one0, mp_one1, mp_one2, mp_one3, kcall_one, liveB_row, liveB_box, idx, cont, still, dies, lend, lendA, lendDies, snocs, SC.snoc, SC.app, meet, AV.cells, fillA, List.getD_cons_zero, List.getD_cons_succ, List.set_cons_zero, List.set_cons_succ, List.length_singleton, Nat.le_refl, Nat.lt_irrefl, Nat.reduceLT, Nat.reduceLeDiff, Option.map_some, Option.map_none, List.flatMap_nil, List.flatMap_cons, Nat.zero_add, BEq.rfl, kcall_two, mp_two0, mp_two1, mp_two2, mp_two3, mp_two4, aop_makeFunc, plainA, Bool.true_and, sl3, ty3, un3, sl78, ty78, un78, sl106, ty106, un106, sl104, ty104, un104, sl5, ty5, un5, sl2, ty2, un2, sl21, ty21, un21, sl4, ty4, un4, sl9, un9, sl24, ty24, un24, sl22, ty22, un22, sl42, ty42, un42, sl47, sl82, sl68, sl107, sl115, sl119, ty82, ty56, sl56, ty26, sl26, ty101, sl101, ty93, sl93, inR64, inRu64, inRu32, gm_spec_DrawShatteredSets, gs_spec_DrawShatteredSets_98, at_spec_l15Any, lend_spec_l15Any, gs_spec_DrawShatteredSets_99, at_spec_l1New, lend_spec_l1New, cu_eta, Try.f10]
  exact ⟨hp1, hp1, newC_nn, afin_of [2] rfl (by simp only [resL, resV, resC, getE, putE, getB, setB, lifts, liftOne, liftC, liftK, killB, cellsOfB, List.length_cons, List.length_nil, List.nil_append, List.cons_append, Nat.reduceAdd, Nat.reduceEqDiff, ↓reduceIte, ty3, ty78, ty106, ty104, ty5, ty2, ty21, ty4, ty24, ty22, ty42, ty82, ty56, ty26, ty101, ty93]; rfl) (by simp [St.conv, St.bf, getE, putE, getB, cv, cvL, cvB, idx, still, pack, lifts, liftOne, liftC, liftK, killB, cellsOfB, setB]) (by simp [St.conv, St.bf, getE, putE, getB, cv, cvL, cvB, idx, still, pack, lifts, liftOne, liftC, liftK, killB, cellsOfB, setB])⟩
def lend_spec_DrawShatteredSets : List Nat := []
def sp_spec_DrawShatteredSets : List AV → List Bx → (AV → List Bx → Prop) → Prop
  | [.sl none (.ints .u8 bs)], [], K => (OkBs bs) ∧ K (.agg [.int .i64 (anyN bs (newC bs)), .ref 0 (anyL bs (newC bs)).length]) [.row 3 (.ints .i64 (anyL bs (newC bs)))]
  | _, _, _ => False
theorem at_spec_DrawShatteredSets {bs : List Int} {K : AV → List Bx → Prop} : sp_spec_DrawShatteredSets [.sl none (.ints .u8 bs)] [] K = ((OkBs bs) ∧ K (.agg [.int .i64 (anyN bs (newC bs)), .ref 0 (anyL bs (newC bs)).length]) [.row 3 (.ints .i64 (anyL bs (newC bs)))]) := id rfl
theorem ok_spec_DrawShatteredSets : ∀ args giv K, sp_spec_DrawShatteredSets args giv K → ∃ r outs, ARuns Try.prog 10 args giv r outs ∧ K r outs := by
  intro args giv K hk
  unfold sp_spec_DrawShatteredSets at hk
  split at hk
  · obtain ⟨hp1, hk⟩ := hk; exact ⟨_, _, runs_spec_DrawShatteredSets _ hp1, hk⟩
  · exact hk.elim
theorem is_impl_within : FnIs Try.prog 110 15 [.tmp 6] (Try.f110.body.getD .skip) := ⟨⟨Try.f110, by kernel_rfl, by kernel_rfl, by kernel_rfl, by kernel_rfl⟩, by kernel_rfl, by kernel_rfl⟩
def G_impl_within : Gm := Gm.none
theorem G_impl_within_ok : G_impl_within.ok Try.prog := Gm.none_ok
theorem gm_impl_within {r : List Oper} {n : Nat} : splB G_impl_within r n = true := rfl
set_option maxHeartbeats 1000000 in
set_option maxRecDepth 100000 in
theorem runs_impl_within (n l m : Int) : ARuns Try.prog 110 [.int .i64 n, .int .i64 l, .int .i64 m] [] (.bool (inB n l m)) [] := by
  refine ARuns_bc G_impl_within_ok is_impl_within (by simp) fun hl hlB => ?_
  simp only [kcode_at, kreg_at, bc_skip, bc_seq, bc_cond, bc_block, bc_exit, bc_ret, bc_region, lkX_cons, acond_tmp, aCase_t, aCase_f, aCase_b, afin_nil, cvE_some, resL, resV, resC, cv, cvL, pack, entryE, inPrm, entryB, inPrms, bxCells, Option.getD_some, acall_clo, add_sp, add_lend, kcall_nil, selOf, selC, selA, inArgs, inA, inL, okA, okL, okBx, okC, outA, outL, outU, outB, deep, deepL, boxIds, AV.bid, List.map_nil, List.map_cons, List.all_nil, List.all_cons, BEq.rfl, Bool.and_true, Bool.true_and, List.append_nil, aops_nil, aops_plain, aops_guard, kont_at, yes_at, no_at, aop_move, aop_assign, aop_pick, aop_alloc, aop_box, aop_build, aop_buildSlice, aop_load, aop_store, aop_nilCheck, aop_binOp, aop_unOp, aop_convert, aop_fieldAddr, aop_indexAddr, aop_slice, aop_extract, aop_makeSlice, aop_len, aop_max, aMax_int, slTy2, SC0, aop_append, aop_call, evalE, getE, putE, getB, setB, St.put, setsB, nth, AV.ofV, AV.blk, AV.bid, AV.one, SC.len, SC.get, List.length_nil, List.length_cons, Nat.reduceEqDiff, Nat.reduceAdd, ↓reduceIte, true_and, and_true, Bool.true_eq_false, Bool.false_eq_true, false_imp_iff, true_imp_iff, decide_eq_true_eq, Bool.not_eq_true', Bool.not_eq_false', decide_eq_false_iff_not, Option.isSome, List.nil_append, List.cons_append, aGuardO_some, aGuard_tt, aGuard_tf, aGuard_ft, aGuard_ff, aGuard_tb, aGuard_fb, aGuard_ts, aGuard_fs, aPick_b, aPick_t, aPick_f, aAlloc_one, aAlloc_flat, aBox_some, aBuild_flat, aInt_add, aBin_add, aInt_sub, aBin_sub, aInt_mul, aBin_mul, aInt_quo, aBin_quo, aInt_rem, aBin_rem, aInt_and, aBin_and, aInt_or, aBin_or, aInt_xor, aBin_xor, aInt_andNot, aBin_andNot, aInt_eql, aBin_eql, aInt_neq, aBin_neq, aInt_lss, aBin_lss, aInt_leq, aBin_leq, aInt_gtr, aBin_gtr, aInt_geq, aBin_geq, aBin_shl, aBin_shr, aShift_shl, aShift_shr, aBin_be1, aBin_bn1, aBin_be2, aBin_bn2, aBin_be3, aBin_bn3, aBin_be4, aBin_bn4, aBin_be5, aBin_bn5, aBin_be6, aBin_bn6, aBin_be7, aBin_bn7, aBin_be8, aBin_bn8, aBin_be9, aBin_bn9, aUn_b, aUn_t, aUn_f, aUn_i, aNil_ptr, aNil_pv, aConv_int, aField_ptr, aField_pv, aIdx_sl, aIdx_prm, aIdx_row, aIdx_drow, aMake_i, aMake_s, aExtr_tup, aLen_ref, aLen_nil, aLen_sl, aLen_prm, aLen_str, aBuildL_some, aBuildS_some, aLoad_1b, aLoad_1d, aLoad_fb, aLoad_fd, aLoad_1p, aLoad_fp, aLoad_ep, aLoad_rr, aLoad_rd, aStore_1, aStore_f, aStore_r, aApp_some, aAppend_nil, aAppend_ref, aSlice_h, aSlice_l, aSlice_lh, aop_slice3, aSlice3_r, aop_field, aFld_agg, aBinW_f, aBinW_t, aWrap_mul, aWrap_add, isW_tmp, isW_mulc, isW_addc, isW_sub, isW_quo, isW_rem, isW_and, isW_or, isW_xor, isW_andNot, isW_shl, isW_shr, isW_eql, isW_neq, isW_lss, isW_leq, isW_gtr, isW_geq, Int.reduceLT, aBinW_dF, aBinW_dT, bc_draw, kregD_at, aopsD_nil, aopsD_plain, aopsD_guard, kontD_at, splW_t, splW_f, contD_at, yesD_at, noD_at, splD_bool, splD_undef, splD_skip, splD_int, splD_tt, splD_ff, splD_str, splD_nil, splD_sl, splD_prm, splD_ref, splD_ptr, splD_rp, splD_ep, splD_pv, splD_agg, splD_tup, splD_clo, gD_tt, gD_tf, gD_ft, gD_ff, gD_ts, gD_fs, slotO_some, addTr_nil, addTr_cons, memQ_nil, memQ_cons, clash_nil, clash_cons, regC_none, regC_nil, regC_cons, regR_nil, regR_cons, Int.toNat_zero, Int.toNat_one, rng0, rng1, rng2, rng3, rng4, SC.take, SC.drop, mp_nil, acond_ct, acond_cf, mp_one0, mp_one1, mp_one2, mp_one3, kcall_one, liveB_row, liveB_box, idx, cont, still, dies, lend, lendA, lendDies, snocs, SC.snoc, SC.app, meet, AV.cells, fillA, List.getD_cons_zero, List.getD_cons_succ, List.set_cons_zero, List.set_cons_succ, List.length_singleton, Nat.le_refl, Nat.lt_irrefl, Nat.reduceLT, Nat.reduceLeDiff, Option.map_some, Option.map_none, List.flatMap_nil, List.flatMap_cons, Nat.zero_add, BEq.rfl, kcall_two, mp_two0, mp_two1, mp_two2, mp_two3, mp_two4, aop_makeFunc, plainA, Bool.true_and, sl3, ty3, un3, sl78, ty78, un78, sl106, ty106, un106, sl104, ty104, un104, sl5, ty5, un5, sl2, ty2, un2, sl21, ty21, un21, sl4, ty4, un4, sl9, un9, sl24, ty24, un24, sl22, ty22, un22, sl42, ty42, un42, sl47, sl82, sl68, sl107, sl115, sl119, ty82, ty56, sl56, ty26, sl26, ty101, sl101, ty93, sl93, inR64, inRu64, inRu32, gm_impl_within, Try.f110]
  refine ⟨fun h => ?_, fun h => ?_⟩ <;> simp [h, inB]
def lend_impl_within : List Nat := []
def sp_impl_within : List AV → List Bx → (AV → List Bx → Prop) → Prop
  | [.int .i64 n, .int .i64 l, .int .i64 m], [], K => K (.bool (inB n l m)) []
  | _, _, _ => False
theorem at_impl_within {n l m : Int} {K : AV → List Bx → Prop} : sp_impl_within [.int .i64 n, .int .i64 l, .int .i64 m] [] K = (K (.bool (inB n l m)) []) := id rfl
theorem ok_impl_within : ∀ args giv K, sp_impl_within args giv K → ∃ r outs, ARuns Try.prog 110 args giv r outs ∧ K r outs := by
  intro args giv K hk
  unfold sp_impl_within at hk
  split at hk
  · exact ⟨_, _, runs_impl_within _ _ _ , hk⟩
  · exact hk.elim
theorem is_impl_isSetOf : FnIs Try.prog 116 14 [.tmp 4] (Try.f116.body.getD .skip) := ⟨⟨Try.f116, by kernel_rfl, by kernel_rfl, by kernel_rfl, by kernel_rfl⟩, by kernel_rfl, by kernel_rfl⟩
def G_impl_isSetOf : Gm := Gm.none
theorem G_impl_isSetOf_ok : G_impl_isSetOf.ok Try.prog := Gm.none_ok
theorem gm_impl_isSetOf {r : List Oper} {n : Nat} : splB G_impl_isSetOf r n = true := rfl
set_option maxHeartbeats 1000000 in
set_option maxRecDepth 100000 in
theorem runs_impl_isSetOf (n s : Int) (hp1 : 0 ≤ n ∧ n ≤ 62) : ARuns Try.prog 116 [.int .i64 n, .int .i64 s] [] (.bool (inS n s)) [] := by
  refine ARuns_bc G_impl_isSetOf_ok is_impl_isSetOf (by simp) fun hl hlB => ?_
  simp only [kcode_at, kreg_at, bc_skip, bc_seq, bc_cond, bc_block, bc_exit, bc_ret, bc_region, lkX_cons, acond_tmp, aCase_t, aCase_f, aCase_b, afin_nil, cvE_some, resL, resV, resC, cv, cvL, pack, entryE, inPrm, entryB, inPrms, bxCells, Option.getD_some, acall_clo, add_sp, add_lend, kcall_nil, selOf, selC, selA, inArgs, inA, inL, okA, okL, okBx, okC, outA, outL, outU, outB, deep, deepL, boxIds, AV.bid, List.map_nil, List.map_cons, List.all_nil, List.all_cons, BEq.rfl, Bool.and_true, Bool.true_and, List.append_nil, aops_nil, aops_plain, aops_guard, kont_at, yes_at, no_at, aop_move, aop_assign, aop_pick, aop_alloc, aop_box, aop_build, aop_buildSlice, aop_load, aop_store, aop_nilCheck, aop_binOp, aop_unOp, aop_convert, aop_fieldAddr, aop_indexAddr, aop_slice, aop_extract, aop_makeSlice, aop_len, aop_max, aMax_int, slTy2, SC0, aop_append, aop_call, evalE, getE, putE, getB, setB, St.put, setsB, nth, AV.ofV, AV.blk, AV.bid, AV.one, SC.len, SC.get, List.length_nil, List.length_cons, Nat.reduceEqDiff, Nat.reduceAdd, ↓reduceIte, true_and, and_true, Bool.true_eq_false, Bool.false_eq_true, false_imp_iff, true_imp_iff, decide_eq_true_eq, Bool.not_eq_true', Bool.not_eq_false', decide_eq_false_iff_not, Option.isSome, List.nil_append, List.cons_append, aGuardO_some, aGuard_tt, aGuard_tf, aGuard_ft, aGuard_ff, aGuard_tb, aGuard_fb, aGuard_ts, aGuard_fs, aPick_b, aPick_t, aPick_f, aAlloc_one, aAlloc_flat, aBox_some, aBuild_flat, aInt_add, aBin_add, aInt_sub, aBin_sub, aInt_mul, aBin_mul, aInt_quo, aBin_quo, aInt_rem, aBin_rem, aInt_and, aBin_and, aInt_or, aBin_or, aInt_xor, aBin_xor, aInt_andNot, aBin_andNot, aInt_eql, aBin_eql, aInt_neq, aBin_neq, aInt_lss, aBin_lss, aInt_leq, aBin_leq, aInt_gtr, aBin_gtr, aInt_geq, aBin_geq, aBin_shl, aBin_shr, aShift_shl, aShift_shr, aBin_be1, aBin_bn1, aBin_be2, aBin_bn2, aBin_be3, aBin_bn3, aBin_be4, aBin_bn4, aBin_be5, aBin_bn5, aBin_be6, aBin_bn6, aBin_be7, aBin_bn7, aBin_be8, aBin_bn8, aBin_be9, aBin_bn9, aUn_b, aUn_t, aUn_f, aUn_i, aNil_ptr, aNil_pv, aConv_int, aField_ptr, aField_pv, aIdx_sl, aIdx_prm, aIdx_row, aIdx_drow, aMake_i, aMake_s, aExtr_tup, aLen_ref, aLen_nil, aLen_sl, aLen_prm, aLen_str, aBuildL_some, aBuildS_some, aLoad_1b, aLoad_1d, aLoad_fb, aLoad_fd, aLoad_1p, aLoad_fp, aLoad_ep, aLoad_rr, aLoad_rd, aStore_1, aStore_f, aStore_r, aApp_some, aAppend_nil, aAppend_ref, aSlice_h, aSlice_l, aSlice_lh, aop_slice3, aSlice3_r, aop_field, aFld_agg, aBinW_f, aBinW_t, aWrap_mul, aWrap_add, isW_tmp, isW_mulc, isW_addc, isW_sub, isW_quo, isW_rem, isW_and, isW_or, isW_xor, isW_andNot, isW_shl, isW_shr, isW_eql, isW_neq, isW_lss, isW_leq, isW_gtr, isW_geq, Int.reduceLT, aBinW_dF, aBinW_dT, bc_draw, kregD_at, aopsD_nil, aopsD_plain, aopsD_guard, kontD_at, splW_t, splW_f, contD_at, yesD_at, noD_at, splD_bool, splD_undef, splD_skip, splD_int, splD_tt, splD_ff, splD_str, splD_nil, splD_sl, splD_prm, splD_ref, splD_ptr, splD_rp, splD_ep, splD_pv, splD_agg, splD_tup, splD_clo, gD_tt, gD_tf, gD_ft, gD_ff, gD_ts, gD_fs, slotO_some, addTr_nil, addTr_cons, memQ_nil, memQ_cons, clash_nil, clash_cons, regC_none, regC_nil, regC_cons, regR_nil, regR_cons, Int.toNat_zero, Int.toNat_one, rng0, rng1, rng2, rng3, rng4, SC.take, SC.drop, mp_nil, acond_ct, acond_cf, mp_one0, mp_one1, mp_one2, mp_one3, kcall_one, liveB_row, liveB_box, idx, cont, still, dies, lend, lendA, lendDies, snocs, SC.snoc, SC.app, meet, AV.cells, fillA, List.getD_cons_zero, List.getD_cons_succ, List.set_cons_zero, List.set_cons_succ, List.length_singleton, Nat.le_refl, Nat.lt_irrefl, Nat.reduceLT, Nat.reduceLeDiff, Option.map_some, Option.map_none, List.flatMap_nil, List.flatMap_cons, Nat.zero_add, BEq.rfl, kcall_two, mp_two0, mp_two1, mp_two2, mp_two3, mp_two4, aop_makeFunc, plainA, Bool.true_and, sl3, ty3, un3, sl78, ty78, un78, sl106, ty106, un106, sl104, ty104, un104, sl5, ty5, un5, sl2, ty2, un2, sl21, ty21, un21, sl4, ty4, un4, sl9, un9, sl24, ty24, un24, sl22, ty22, un22, sl42, ty42, un42, sl47, sl82, sl68, sl107, sl115, sl119, ty82, ty56, sl56, ty26, sl26, ty101, sl101, ty93, sl93, inR64, inRu64, inRu32, gm_impl_isSetOf, Try.f116]
  have hb : (2 : Int) ^ n.toNat ≤ 2 ^ 62 := by
    have : (2 : Nat) ^ n.toNat ≤ 2 ^ 62 := Nat.pow_le_pow_right (by omega) (by omega)
    have h := Int.ofNat_le.2 this
    simpa using h
  have h0 : (0 : Int) ≤ 2 ^ n.toNat := Int.pow_nonneg (by omega)
  have e : inS n s = (decide (0 ≤ s) && decide (s ≤ 2 ^ n.toNat - 1)) := rfl
  rw [e]
  simp only [IntKind.bits]
  generalize (2 : Int) ^ n.toNat = q at *
  refine ⟨fun h => ⟨by omega, by omega, ?_⟩, fun h => ?_⟩
  · congr 1; rw [Bool.eq_iff_iff]; simp; omega
  · congr 1; rw [Bool.eq_iff_iff]; simp; omega
def lend_impl_isSetOf : List Nat := []
def sp_impl_isSetOf : List AV → List Bx → (AV → List Bx → Prop) → Prop
  | [.int .i64 n, .int .i64 s], [], K => (0 ≤ n ∧ n ≤ 62) ∧ K (.bool (inS n s)) []
  | _, _, _ => False
theorem at_impl_isSetOf {n s : Int} {K : AV → List Bx → Prop} : sp_impl_isSetOf [.int .i64 n, .int .i64 s] [] K = ((0 ≤ n ∧ n ≤ 62) ∧ K (.bool (inS n s)) []) := id rfl
theorem ok_impl_isSetOf : ∀ args giv K, sp_impl_isSetOf args giv K → ∃ r outs, ARuns Try.prog 116 args giv r outs ∧ K r outs := by
  intro args giv K hk
  unfold sp_impl_isSetOf at hk
  split at hk
  · obtain ⟨hp1, hk⟩ := hk; exact ⟨_, _, runs_impl_isSetOf _ _ hp1, hk⟩
  · exact hk.elim
theorem is_impl_areSets : FnIs Try.prog 160 21 [.tmp 4] (Try.f160.body.getD .skip) := ⟨⟨Try.f160, by kernel_rfl, by kernel_rfl, by kernel_rfl, by kernel_rfl⟩, by kernel_rfl, by kernel_rfl⟩
def G_impl_areSets : Gm := ((Gm.none.add 110 lend_impl_within sp_impl_within).add 116 lend_impl_isSetOf sp_impl_isSetOf)
theorem G_impl_areSets_ok : G_impl_areSets.ok Try.prog := (Gm.add_ok (Gm.add_ok Gm.none_ok ok_impl_within) ok_impl_isSetOf)
theorem gm_impl_areSets {r : List Oper} {n : Nat} : splB G_impl_areSets r n = true := rfl
theorem gs_impl_areSets_110 : G_impl_areSets.sp 110 = sp_impl_within ∧ G_impl_areSets.lend 110 = lend_impl_within := ⟨rfl, rfl⟩
theorem gs_impl_areSets_116 : G_impl_areSets.sp 116 = sp_impl_isSetOf ∧ G_impl_areSets.lend 116 = lend_impl_isSetOf := ⟨rfl, rfl⟩
set_option maxHeartbeats 1000000 in
set_option maxRecDepth 100000 in
theorem runs_impl_areSets (n : Int) (xs : List Int) : ARuns Try.prog 160 [.int .i64 n, .sl none (.ints .i64 xs)] [] (.bool (setsOk n xs)) [] := by
  refine ARuns_bc G_impl_areSets_ok is_impl_areSets (by simp) fun hl hlB => ?_
  simp only [kcode_at, kreg_at, bc_skip, bc_seq, bc_cond, bc_block, bc_exit, bc_ret, bc_region, lkX_cons, acond_tmp, aCase_t, aCase_f, aCase_b, afin_nil, cvE_some, resL, resV, resC, cv, cvL, pack, entryE, inPrm, entryB, inPrms, bxCells, Option.getD_some, acall_clo, add_sp, add_lend, kcall_nil, selOf, selC, selA, inArgs, inA, inL, okA, okL, okBx, okC, outA, outL, outU, outB, deep, deepL, boxIds, AV.bid, List.map_nil, List.map_cons, List.all_nil, List.all_cons, BEq.rfl, Bool.and_true, Bool.true_and, List.append_nil, aops_nil, aops_plain, aops_guard, kont_at, yes_at, no_at, aop_move, aop_assign, aop_pick, aop_alloc, aop_box, aop_build, aop_buildSlice, aop_load, aop_store, aop_nilCheck, aop_binOp, aop_unOp, aop_convert, aop_fieldAddr, aop_indexAddr, aop_slice, aop_extract, aop_makeSlice, aop_len, aop_max, aMax_int, slTy2, SC0, aop_append, aop_call, evalE, getE, putE, getB, setB, St.put, setsB, nth, AV.ofV, AV.blk, AV.bid, AV.one, SC.len, SC.get, List.length_nil, List.length_cons, Nat.reduceEqDiff, Nat.reduceAdd, ↓reduceIte, true_and, and_true, Bool.true_eq_false, Bool.false_eq_true, false_imp_iff, true_imp_iff, decide_eq_true_eq, Bool.not_eq_true', Bool.not_eq_false', decide_eq_false_iff_not, Option.isSome, List.nil_append, List.cons_append, aGuardO_some, aGuard_tt, aGuard_tf, aGuard_ft, aGuard_ff, aGuard_tb, aGuard_fb, aGuard_ts, aGuard_fs, aPick_b, aPick_t, aPick_f, aAlloc_one, aAlloc_flat, aBox_some, aBuild_flat, aInt_add, aBin_add, aInt_sub, aBin_sub, aInt_mul, aBin_mul, aInt_quo, aBin_quo, aInt_rem, aBin_rem, aInt_and, aBin_and, aInt_or, aBin_or, aInt_xor, aBin_xor, aInt_andNot, aBin_andNot, aInt_eql, aBin_eql, aInt_neq, aBin_neq, aInt_lss, aBin_lss, aInt_leq, aBin_leq, aInt_gtr, aBin_gtr, aInt_geq, aBin_geq, aBin_shl, aBin_shr, aShift_shl, aShift_shr, aBin_be1, aBin_bn1, aBin_be2, aBin_bn2, aBin_be3, aBin_bn3, aBin_be4, aBin_bn4, aBin_be5, aBin_bn5, aBin_be6, aBin_bn6, aBin_be7, aBin_bn7, aBin_be8, aBin_bn8, aBin_be9, aBin_bn9, aUn_b, aUn_t, aUn_f, aUn_i, aNil_ptr, aNil_pv, aConv_int, aField_ptr, aField_pv, aIdx_sl, aIdx_prm, aIdx_row, aIdx_drow, aMake_i, aMake_s, aExtr_tup, aLen_ref, aLen_nil, aLen_sl, aLen_prm, aLen_str, aBuildL_some, aBuildS_some, aLoad_1b, aLoad_1d, aLoad_fb, aLoad_fd, aLoad_1p, aLoad_fp, aLoad_ep, aLoad_rr, aLoad_rd, aStore_1, aStore_f, aStore_r, aApp_some, aAppend_nil, aAppend_ref, aSlice_h, aSlice_l, aSlice_lh, aop_slice3, aSlice3_r, aop_field, aFld_agg, aBinW_f, aBinW_t, aWrap_mul, aWrap_add, isW_tmp, isW_mulc, isW_addc, isW_sub, isW_quo, isW_rem, isW_and, isW_or, isW_xor, isW_andNot, isW_shl, isW_shr, isW_eql, isW_neq, isW_lss, isW_leq, isW_gtr, isW_geq, Int.reduceLT, aBinW_dF, aBinW_dT, bc_draw, kregD_at, aopsD_nil, aopsD_plain, aopsD_guard, kontD_at, splW_t, splW_f, contD_at, yesD_at, noD_at, splD_bool, splD_undef, splD_skip, splD_int, splD_tt, splD_ff, splD_str, splD_nil, splD_sl, splD_prm, splD_ref, splD_ptr, splD_rp, splD_ep, splD_pv, splD_agg, splD_tup, splD_clo, gD_tt, gD_tf, gD_ft, gD_ff, gD_ts, gD_fs, slotO_some, addTr_nil, addTr_cons, memQ_nil, memQ_cons, clash_nil, clash_cons, regC_none, regC_nil, regC_cons, regR_nil, regR_cons, Int.toNat_zero, Int.toNat_one, rng0, rng1, rng2, rng3, rng4, SC.take, SC.drop, mp_nil, acond_ct, acond_cf, mp_one0, mp_one1, mp_one2, mp_one3, kcall_one, liveB_row, liveB_box, idx, cont, still, dies, lend, lendA, lendDies, snocs, SC.snoc, SC.app, meet, AV.cells, fillA, List.getD_cons_zero, List.getD_cons_succ, List.set_cons_zero, List.set_cons_succ, List.length_singleton, Nat.le_refl, Nat.lt_irrefl, Nat.reduceLT, Nat.reduceLeDiff, Option.map_some, Option.map_none, List.flatMap_nil, List.flatMap_cons, Nat.zero_add, BEq.rfl, kcall_two, mp_two0, mp_two1, mp_two2, mp_two3, mp_two4, aop_makeFunc, plainA, Bool.true_and, sl3, ty3, un3, sl78, ty78, un78, sl106, ty106, un106, sl104, ty104, un104, sl5, ty5, un5, sl2, ty2, un2, sl21, ty21, un21, sl4, ty4, un4, sl9, un9, sl24, ty24, un24, sl22, ty22, un22, sl42, ty42, un42, sl47, sl82, sl68, sl107, sl115, sl119, ty82, ty56, sl56, ty26, sl26, ty101, sl101, ty93, sl93, inR64, inRu64, inRu32, gm_impl_areSets, gs_impl_areSets_110, at_impl_within, lend_impl_within, gs_impl_areSets_116, at_impl_isSetOf, lend_impl_isSetOf, Try.f160]
  simp only [lensA, lenA, lenSC] at hl
  refine ⟨fun h => by rw [setsOk, h]; rfl, fun hn => ?_⟩
  refine bc_loop (fun i : Nat => i ≤ xs.length ∧ ∀ k, k < i → inS n (xs.getD k 0) = true)
    (fun i => ⟨[(0, .int .i64 n), (10, .prm 1 (.ints .i64 xs)), (11, .int .i64 xs.length), (12, .int .i64 i)], []⟩) (fun i => xs.length - i)
    [0, 10, 11, 12] [] 0 rfl rfl (by simp) fun i ⟨h1, h2⟩ => ?_
  simp only [kcode_at, kreg_at, bc_skip, bc_seq, bc_cond, bc_block, bc_exit, bc_ret, bc_region, lkX_cons, acond_tmp, aCase_t, aCase_f, aCase_b, afin_nil, cvE_some, resL, resV, resC, cv, cvL, pack, entryE, inPrm, entryB, inPrms, bxCells, Option.getD_some, acall_clo, add_sp, add_lend, kcall_nil, selOf, selC, selA, inArgs, inA, inL, okA, okL, okBx, okC, outA, outL, outU, outB, deep, deepL, boxIds, AV.bid, List.map_nil, List.map_cons, List.all_nil, List.all_cons, BEq.rfl, Bool.and_true, Bool.true_and, List.append_nil, aops_nil, aops_plain, aops_guard, kont_at, yes_at, no_at, aop_move, aop_assign, aop_pick, aop_alloc, aop_box, aop_build, aop_buildSlice, aop_load, aop_store, aop_nilCheck, aop_binOp, aop_unOp, aop_convert, aop_fieldAddr, aop_indexAddr, aop_slice, aop_extract, aop_makeSlice, aop_len, aop_max, aMax_int, slTy2, SC0, aop_append, aop_call, evalE, getE, putE, getB, setB, St.put, setsB, nth, AV.ofV, AV.blk, AV.bid, AV.one, SC.len, SC.get, List.length_nil, List.length_cons, Nat.reduceEqDiff, Nat.reduceAdd, ↓reduceIte, true_and, and_true, Bool.true_eq_false, Bool.false_eq_true, false_imp_iff, true_imp_iff, decide_eq_true_eq, Bool.not_eq_true', Bool.not_eq_false', decide_eq_false_iff_not, Option.isSome, List.nil_append, List.cons_append, aGuardO_some, aGuard_tt, aGuard_tf, aGuard_ft, aGuard_ff, aGuard_tb, aGuard_fb, aGuard_ts, aGuard_fs, aPick_b, aPick_t, aPick_f, aAlloc_one, aAlloc_flat, aBox_some, aBuild_flat, aInt_add, aBin_add, aInt_sub, aBin_sub, aInt_mul, aBin_mul, aInt_quo, aBin_quo, aInt_rem, aBin_rem, aInt_and, aBin_and, aInt_or, aBin_or, aInt_xor, aBin_xor, aInt_andNot, aBin_andNot, aInt_eql, aBin_eql, aInt_neq, aBin_neq, aInt_lss, aBin_lss, aInt_leq, aBin_leq, aInt_gtr, aBin_gtr, aInt_geq, aBin_geq, aBin_shl, aBin_shr, aShift_shl, aShift_shr, aBin_be1, aBin_bn1, aBin_be2, aBin_bn2, aBin_be3, aBin_bn3, aBin_be4, aBin_bn4, aBin_be5, aBin_bn5, aBin_be6, aBin_bn6, aBin_be7, aBin_bn7, aBin_be8, aBin_bn8, aBin_be9, aBin_bn9, aUn_b, aUn_t, aUn_f, aUn_i, aNil_ptr, aNil_pv, aConv_int, aField_ptr, aField_pv, aIdx_sl, aIdx_prm, aIdx_row, aIdx_drow, aMake_i, aMake_s, aExtr_tup, aLen_ref, aLen_nil, aLen_sl, aLen_prm, aLen_str, aBuildL_some, aBuildS_some, aLoad_1b, aLoad_1d, aLoad_fb, aLoad_fd, aLoad_1p, aLoad_fp, aLoad_ep, aLoad_rr, aLoad_rd, aStore_1, aStore_f, aStore_r, aApp_some, aAppend_nil, aAppend_ref, aSlice_h, aSlice_l, aSlice_lh, aop_slice3, aSlice3_r, aop_field, aFld_agg, aBinW_f, aBinW_t, aWrap_mul, aWrap_add, isW_tmp, isW_mulc, isW_addc, isW_sub, isW_quo, isW_rem, isW_and, isW_or, isW_xor, isW_andNot, isW_shl, isW_shr, isW_eql, isW_neq, isW_lss, isW_leq, isW_gtr, isW_geq, Int.reduceLT, aBinW_dF, aBinW_dT, bc_draw, kregD_at, aopsD_nil, aopsD_plain, aopsD_guard, kontD_at, splW_t, splW_f, contD_at, yesD_at, noD_at, splD_bool, splD_undef, splD_skip, splD_int, splD_tt, splD_ff, splD_str, splD_nil, splD_sl, splD_prm, splD_ref, splD_ptr, splD_rp, splD_ep, splD_pv, splD_agg, splD_tup, splD_clo, gD_tt, gD_tf, gD_ft, gD_ff, gD_ts, gD_fs, slotO_some, addTr_nil, addTr_cons, memQ_nil, memQ_cons, clash_nil, clash_cons, regC_none, regC_nil, regC_cons, regR_nil, regR_cons, Int.toNat_zero, Int.toNat_one, rng0, rng1, rng2, rng3, rng4, SC.take, SC.drop, mp_nil, acond_ct, acond_cf, mp_one0, mp_one1, mp_one2, mp_one3, kcall_one, liveB_row, liveB_box, idx, cont, still, dies, lend, lendA, lendDies, snocs, SC.snoc, SC.app, meet, AV.cells, fillA, List.getD_cons_zero, List.getD_cons_succ, List.set_cons_zero, List.set_cons_succ, List.length_singleton, Nat.le_refl, Nat.lt_irrefl, Nat.reduceLT, Nat.reduceLeDiff, Option.map_some, Option.map_none, List.flatMap_nil, List.flatMap_cons, Nat.zero_add, BEq.rfl, kcall_two, mp_two0, mp_two1, mp_two2, mp_two3, mp_two4, aop_makeFunc, plainA, Bool.true_and, sl3, ty3, un3, sl78, ty78, un78, sl106, ty106, un106, sl104, ty104, un104, sl5, ty5, un5, sl2, ty2, un2, sl21, ty21, un21, sl4, ty4, un4, sl9, un9, sl24, ty24, un24, sl22, ty22, un22, sl42, ty42, un42, sl47, sl82, sl68, sl107, sl115, sl119, ty82, ty56, sl56, ty26, sl26, ty101, sl101, ty93, sl93, inR64, inRu64, inRu32, gm_impl_areSets, gs_impl_areSets_110, at_impl_within, lend_impl_within, gs_impl_areSets_116, at_impl_isSetOf, lend_impl_isSetOf, Int.toNat_natCast]
  have hb := hn
  rw [inB_t] at hb
  refine ⟨fun hi => ⟨by omega, by omega, fun hf => ?_, fun ht => ⟨by omega, ?_⟩⟩, fun hi => ?_⟩
  · rw [setsOk, allN_f i (by omega) hf]; simp
  · exact klp_of (i + 1) rfl ⟨by omega, upto_succ h2 ht⟩ (by omega)
  · have : i = xs.length := by omega
    subst this
    rw [setsOk, hn, allN_t h2]; rfl
def lend_impl_areSets : List Nat := []
def sp_impl_areSets : List AV → List Bx → (AV → List Bx → Prop) → Prop
  | [.int .i64 n, .sl none (.ints .i64 xs)], [], K => K (.bool (setsOk n xs)) []
  | _, _, _ => False
theorem at_impl_areSets {n : Int} {xs : List Int} {K : AV → List Bx → Prop} : sp_impl_areSets [.int .i64 n, .sl none (.ints .i64 xs)] [] K = (K (.bool (setsOk n xs)) []) := id rfl
theorem ok_impl_areSets : ∀ args giv K, sp_impl_areSets args giv K → ∃ r outs, ARuns Try.prog 160 args giv r outs ∧ K r outs := by
  intro args giv K hk
  unfold sp_impl_areSets at hk
  split at hk
  · exact ⟨_, _, runs_impl_areSets _ _ , hk⟩
  · exact hk.elim
theorem is_impl_IsFamily : FnIs Try.prog 100 29 [.tmp 2] (Try.f100.body.getD .skip) := ⟨⟨Try.f100, by kernel_rfl, by kernel_rfl, by kernel_rfl, by kernel_rfl⟩, by kernel_rfl, by kernel_rfl⟩
def G_impl_IsFamily : Gm := (Gm.none.add 160 lend_impl_areSets sp_impl_areSets)
theorem G_impl_IsFamily_ok : G_impl_IsFamily.ok Try.prog := (Gm.add_ok Gm.none_ok ok_impl_areSets)
theorem gm_impl_IsFamily {r : List Oper} {n : Nat} : splB G_impl_IsFamily r n = true := rfl
theorem gs_impl_IsFamily_160 : G_impl_IsFamily.sp 160 = sp_impl_areSets ∧ G_impl_IsFamily.lend 160 = lend_impl_areSets := ⟨rfl, rfl⟩
set_option maxHeartbeats 1000000 in
set_option maxRecDepth 100000 in
theorem runs_impl_IsFamily (n : Int) (xs : List Int) : ARuns Try.prog 100 [.agg [.int .i64 n, .sl none (.ints .i64 xs)]] [] (.bool (famB n xs)) [] := by
  refine ARuns_bc G_impl_IsFamily_ok is_impl_IsFamily (by simp) fun hl hlB => ?_
  simp only [kcode_at, kreg_at, bc_skip, bc_seq, bc_cond, bc_block, bc_exit, bc_ret, bc_region, lkX_cons, acond_tmp, aCase_t, aCase_f, aCase_b, afin_nil, cvE_some, resL, resV, resC, cv, cvL, pack, entryE, inPrm, entryB, inPrms, bxCells, Option.getD_some, acall_clo, add_sp, add_lend, kcall_nil, selOf, selC, selA, inArgs, inA, inL, okA, okL, okBx, okC, outA, outL, outU, outB, deep, deepL, boxIds, AV.bid, List.map_nil, List.map_cons, List.all_nil, List.all_cons, BEq.rfl, Bool.and_true, Bool.true_and, List.append_nil, aops_nil, aops_plain, aops_guard, kont_at, yes_at, no_at, aop_move, aop_assign, aop_pick, aop_alloc, aop_box, aop_build, aop_buildSlice, aop_load, aop_store, aop_nilCheck, aop_binOp, aop_unOp, aop_convert, aop_fieldAddr, aop_indexAddr, aop_slice, aop_extract, aop_makeSlice, aop_len, aop_max, aMax_int, slTy2, SC0, aop_append, aop_call, evalE, getE, putE, getB, setB, St.put, setsB, nth, AV.ofV, AV.blk, AV.bid, AV.one, SC.len, SC.get, List.length_nil, List.length_cons, Nat.reduceEqDiff, Nat.reduceAdd, ↓reduceIte, true_and, and_true, Bool.true_eq_false, Bool.false_eq_true, false_imp_iff, true_imp_iff, decide_eq_true_eq, Bool.not_eq_true', Bool.not_eq_false', decide_eq_false_iff_not, Option.isSome, List.nil_append, List.cons_append, aGuardO_some, aGuard_tt, aGuard_tf, aGuard_ft, aGuard_ff, aGuard_tb, aGuard_fb, aGuard_ts, aGuard_fs, aPick_b, aPick_t, aPick_f, aAlloc_one, aAlloc_flat, aBox_some, aBuild_flat, aInt_add, aBin_add, aInt_sub, aBin_sub, aInt_mul, aBin_mul, aInt_quo, aBin_quo, aInt_rem, aBin_rem, aInt_and, aBin_and, aInt_or, aBin_or, aInt_xor, aBin_xor, aInt_andNot, aBin_andNot, aInt_eql, aBin_eql, aInt_neq, aBin_neq, aInt_lss, aBin_lss, aInt_leq, aBin_leq, aInt_gtr, aBin_gtr, aInt_geq, aBin_geq, aBin_shl, aBin_shr, aShift_shl, aShift_shr, aBin_be1, aBin_bn1, aBin_be2, aBin_bn2, aBin_be3, aBin_bn3, aBin_be4, aBin_bn4, aBin_be5, aBin_bn5, aBin_be6, aBin_bn6, aBin_be7, aBin_bn7, aBin_be8, aBin_bn8, aBin_be9, aBin_bn9, aUn_b, aUn_t, aUn_f, aUn_i, aNil_ptr, aNil_pv, aConv_int, aField_ptr, aField_pv, aIdx_sl, aIdx_prm, aIdx_row, aIdx_drow, aMake_i, aMake_s, aExtr_tup, aLen_ref, aLen_nil, aLen_sl, aLen_prm, aLen_str, aBuildL_some, aBuildS_some, aLoad_1b, aLoad_1d, aLoad_fb, aLoad_fd, aLoad_1p, aLoad_fp, aLoad_ep, aLoad_rr, aLoad_rd, aStore_1, aStore_f, aStore_r, aApp_some, aAppend_nil, aAppend_ref, aSlice_h, aSlice_l, aSlice_lh, aop_slice3, aSlice3_r, aop_field, aFld_agg, aBinW_f, aBinW_t, aWrap_mul, aWrap_add, isW_tmp, isW_mulc, isW_addc, isW_sub, isW_quo, isW_rem, isW_and, isW_or, isW_xor, isW_andNot, isW_shl, isW_shr, isW_eql, isW_neq, isW_lss, isW_leq, isW_gtr, isW_geq, Int.reduceLT, aBinW_dF, aBinW_dT, bc_draw, kregD_at, aopsD_nil, aopsD_plain, aopsD_guard, kontD_at, splW_t, splW_f, contD_at, yesD_at, noD_at, splD_bool, splD_undef, splD_skip, splD_int, splD_tt, splD_ff, splD_str, splD_nil, splD_sl, splD_prm, splD_ref, splD_ptr, splD_rp, splD_ep, splD_pv, splD_agg, splD_tup, splD_clo, gD_tt, gD_tf, gD_ft, gD_ff, gD_ts, gD_fs, slotO_some, addTr_nil, addTr_cons, memQ_nil, memQ_cons, clash_nil, clash_cons, regC_none, regC_nil, regC_cons, regR_nil, regR_cons, Int.toNat_zero, Int.toNat_one, rng0, rng1, rng2, rng3, rng4, SC.take, SC.drop, mp_nil, acond_ct, acond_cf, mp_one0, mp_one1, mp_one2, mp_one3, kcall_one, liveB_row, liveB_box, idx, cont, still, dies, lend, lendA, lendDies, snocs, SC.snoc, SC.app, meet, AV.cells, fillA, List.getD_cons_zero, List.getD_cons_succ, List.set_cons_zero, List.set_cons_succ, List.length_singleton, Nat.le_refl, Nat.lt_irrefl, Nat.reduceLT, Nat.reduceLeDiff, Option.map_some, Option.map_none, List.flatMap_nil, List.flatMap_cons, Nat.zero_add, BEq.rfl, kcall_two, mp_two0, mp_two1, mp_two2, mp_two3, mp_two4, aop_makeFunc, plainA, Bool.true_and, sl3, ty3, un3, sl78, ty78, un78, sl106, ty106, un106, sl104, ty104, un104, sl5, ty5, un5, sl2, ty2, un2, sl21, ty21, un21, sl4, ty4, un4, sl9, un9, sl24, ty24, un24, sl22, ty22, un22, sl42, ty42, un42, sl47, sl82, sl68, sl107, sl115, sl119, ty82, ty56, sl56, ty26, sl26, ty101, sl101, ty93, sl93, inR64, inRu64, inRu32, gm_impl_IsFamily, gs_impl_IsFamily_160, at_impl_areSets, lend_impl_areSets, Try.f100]
  simp only [lensA, lenA, lenSC] at hl
  refine ⟨fun h => by rw [famB, h]; rfl, fun hn => ?_⟩
  refine bc_loop (fun i : Nat => 1 ≤ i ∧ (i ≤ xs.length ∨ i = 1) ∧ ∀ k, k < i → ascAt xs k = true)
    (fun i => ⟨[(1, .ptr 0 0), (3, .int .i64 i)], [.box [.int .i64 n, .sl none (.ints .i64 xs)]]⟩) (fun i => xs.length - i)
    [1, 3] [0] 1 rfl (by simp [St.conv, St.bf, getE, putE, getB, cv, cvL, cvB, idx, still, pack, lifts, liftOne, liftC, liftK, killB, cellsOfB, setB]) ⟨by omega, by omega, fun k hk => by rw [ascAt_iff]; omega⟩ fun i ⟨h1, h2, h3⟩ => ?_
  simp only [kcode_at, kreg_at, bc_skip, bc_seq, bc_cond, bc_block, bc_exit, bc_ret, bc_region, lkX_cons, acond_tmp, aCase_t, aCase_f, aCase_b, afin_nil, cvE_some, resL, resV, resC, cv, cvL, pack, entryE, inPrm, entryB, inPrms, bxCells, Option.getD_some, acall_clo, add_sp, add_lend, kcall_nil, selOf, selC, selA, inArgs, inA, inL, okA, okL, okBx, okC, outA, outL, outU, outB, deep, deepL, boxIds, AV.bid, List.map_nil, List.map_cons, List.all_nil, List.all_cons, BEq.rfl, Bool.and_true, Bool.true_and, List.append_nil, aops_nil, aops_plain, aops_guard, kont_at, yes_at, no_at, aop_move, aop_assign, aop_pick, aop_alloc, aop_box, aop_build, aop_buildSlice, aop_load, aop_store, aop_nilCheck, aop_binOp, aop_unOp, aop_convert, aop_fieldAddr, aop_indexAddr, aop_slice, aop_extract, aop_makeSlice, aop_len, aop_max, aMax_int, slTy2, SC0, aop_append, aop_call, evalE, getE, putE, getB, setB, St.put, setsB, nth, AV.ofV, AV.blk, AV.bid, AV.one, SC.len, SC.get, List.length_nil, List.length_cons, Nat.reduceEqDiff, Nat.reduceAdd, ↓reduceIte, true_and, and_true, Bool.true_eq_false, Bool.false_eq_true, false_imp_iff, true_imp_iff, decide_eq_true_eq, Bool.not_eq_true', Bool.not_eq_false', decide_eq_false_iff_not, Option.isSome, List.nil_append, List.cons_append, aGuardO_some, aGuard_tt, aGuard_tf, aGuard_ft, aGuard_ff, aGuard_tb, aGuard_fb, aGuard_ts, aGuard_fs, aPick_b, aPick_t, aPick_f, aAlloc_one, aAlloc_flat, aBox_some, aBuild_flat, aInt_add, aBin_add, aInt_sub, aBin_sub, aInt_mul, aBin_mul, aInt_quo, aBin_quo, aInt_rem, aBin_rem, aInt_and, aBin_and, aInt_or, aBin_or, aInt_xor, aBin_xor, aInt_andNot, aBin_andNot, aInt_eql, aBin_eql, aInt_neq, aBin_neq, aInt_lss, aBin_lss, aInt_leq, aBin_leq, aInt_gtr, aBin_gtr, aInt_geq, aBin_geq, aBin_shl, aBin_shr, aShift_shl, aShift_shr, aBin_be1, aBin_bn1, aBin_be2, aBin_bn2, aBin_be3, aBin_bn3, aBin_be4, aBin_bn4, aBin_be5, aBin_bn5, aBin_be6, aBin_bn6, aBin_be7, aBin_bn7, aBin_be8, aBin_bn8, aBin_be9, aBin_bn9, aUn_b, aUn_t, aUn_f, aUn_i, aNil_ptr, aNil_pv, aConv_int, aField_ptr, aField_pv, aIdx_sl, aIdx_prm, aIdx_row, aIdx_drow, aMake_i, aMake_s, aExtr_tup, aLen_ref, aLen_nil, aLen_sl, aLen_prm, aLen_str, aBuildL_some, aBuildS_some, aLoad_1b, aLoad_1d, aLoad_fb, aLoad_fd, aLoad_1p, aLoad_fp, aLoad_ep, aLoad_rr, aLoad_rd, aStore_1, aStore_f, aStore_r, aApp_some, aAppend_nil, aAppend_ref, aSlice_h, aSlice_l, aSlice_lh, aop_slice3, aSlice3_r, aop_field, aFld_agg, aBinW_f, aBinW_t, aWrap_mul, aWrap_add, isW_tmp, isW_mulc, isW_addc, isW_sub, isW_quo, isW_rem, isW_and, isW_or, isW_xor, isW_andNot, isW_shl, isW_shr, isW_eql, isW_neq, isW_lss, isW_leq, isW_gtr, isW_geq, Int.reduceLT, aBinW_dF, aBinW_dT, bc_draw, kregD_at, aopsD_nil, aopsD_plain, aopsD_guard, kontD_at, splW_t, splW_f, contD_at, yesD_at, noD_at, splD_bool, splD_undef, splD_skip, splD_int, splD_tt, splD_ff, splD_str, splD_nil, splD_sl, splD_prm, splD_ref, splD_ptr, splD_rp, splD_ep, splD_pv, splD_agg, splD_tup, splD_clo, gD_tt, gD_tf, gD_ft, gD_ff, gD_ts, gD_fs, slotO_some, addTr_nil, addTr_cons, memQ_nil, memQ_cons, clash_nil, clash_cons, regC_none, regC_nil, regC_cons, regR_nil, regR_cons, Int.toNat_zero, Int.toNat_one, rng0, rng1, rng2, rng3, rng4, SC.take, SC.drop, mp_nil, acond_ct, acond_cf, mp_one0, mp_one1, mp_one2, mp_one3, kcall_one, liveB_row, liveB_box, idx, cont, still, dies, lend, lendA, lendDies, snocs, SC.snoc, SC.app, meet, AV.cells, fillA, List.getD_cons_zero, List.getD_cons_succ, List.set_cons_zero, List.set_cons_succ, List.length_singleton, Nat.le_refl, Nat.lt_irrefl, Nat.reduceLT, Nat.reduceLeDiff, Option.map_some, Option.map_none, List.flatMap_nil, List.flatMap_cons, Nat.zero_add, BEq.rfl, kcall_two, mp_two0, mp_two1, mp_two2, mp_two3, mp_two4, aop_makeFunc, plainA, Bool.true_and, sl3, ty3, un3, sl78, ty78, un78, sl106, ty106, un106, sl104, ty104, un104, sl5, ty5, un5, sl2, ty2, un2, sl21, ty21, un21, sl4, ty4, un4, sl9, un9, sl24, ty24, un24, sl22, ty22, un22, sl42, ty42, un42, sl47, sl82, sl68, sl107, sl115, sl119, ty82, ty56, sl56, ty26, sl26, ty101, sl101, ty93, sl93, inR64, inRu64, inRu32, gm_impl_IsFamily, gs_impl_IsFamily_160, at_impl_areSets, lend_impl_areSets, Int.toNat_natCast]
  have e0 : ((i : Int) - 1).toNat = i - 1 := by omega
  rw [e0]
  refine ⟨fun hi => ⟨by omega, by omega, by omega, fun hle => ?_, fun hle => ⟨by omega, ?_⟩⟩, fun hi => ?_⟩
  · rw [famB, allN_f i (by omega) (by have : ¬ ascAt xs i = true := by rw [ascAt_iff]; omega
                                      simpa using this)]; simp
  · exact klp_of (i + 1) (by simp [St.conv, St.bf, getE, putE, getB, cv, cvL, cvB, idx, still, pack, lifts, liftOne, liftC, liftK, killB, cellsOfB, setB]) ⟨by omega, by omega, upto_succ h3 (by rw [ascAt_iff]; omega)⟩ (by omega)
  · rw [famB, hn, allN_t fun k hk => h3 k (by omega)]; rfl
def lend_impl_IsFamily : List Nat := []
def sp_impl_IsFamily : List AV → List Bx → (AV → List Bx → Prop) → Prop
  | [.agg [.int .i64 n, .sl none (.ints .i64 xs)]], [], K => K (.bool (famB n xs)) []
  | _, _, _ => False
theorem at_impl_IsFamily {n : Int} {xs : List Int} {K : AV → List Bx → Prop} : sp_impl_IsFamily [.agg [.int .i64 n, .sl none (.ints .i64 xs)]] [] K = (K (.bool (famB n xs)) []) := id rfl
theorem ok_impl_IsFamily : ∀ args giv K, sp_impl_IsFamily args giv K → ∃ r outs, ARuns Try.prog 100 args giv r outs ∧ K r outs := by
  intro args giv K hk
  unfold sp_impl_IsFamily at hk
  split at hk
  · exact ⟨_, _, runs_impl_IsFamily _ _ , hk⟩
  · exact hk.elim
theorem is_slices_Clone_int_int : FnIs Try.prog 120 8 [.tmp 2] (Try.f120.body.getD .skip) := ⟨⟨Try.f120, by kernel_rfl, by kernel_rfl, by kernel_rfl, by kernel_rfl⟩, by kernel_rfl, by kernel_rfl⟩
def G_slices_Clone_int_int : Gm := Gm.none
theorem G_slices_Clone_int_int_ok : G_slices_Clone_int_int.ok Try.prog := Gm.none_ok
theorem gm_slices_Clone_int_int {r : List Oper} {n : Nat} : splB G_slices_Clone_int_int r n = true := rfl
set_option maxHeartbeats 1000000 in
set_option maxRecDepth 100000 in
theorem runs_slices_Clone_int_int (xs : List Int) (hp1 : xs.length ≤ 1099511627776) : ARuns Try.prog 120 [.sl none (.ints .i64 xs)] [] (.ref 0 xs.length) [.row 3 (.ints .i64 xs)] := by
  exact ARuns_clone is_slices_Clone_int_int.callable (fun b off n c zs w h1 h2 h3 => Try.slices_Clone_int b off n c zs w h1 h2 h3) (fun n c w => Try.slices_Clone_int_nil n c w) (fun a c w => Try.slices_Clone_int_zero a c w) hp1
def lend_slices_Clone_int_int : List Nat := []
def sp_slices_Clone_int_int : List AV → List Bx → (AV → List Bx → Prop) → Prop
  | [.sl none (.ints .i64 xs)], [], K => (xs.length ≤ 1099511627776) ∧ K (.ref 0 xs.length) [.row 3 (.ints .i64 xs)]
  | _, _, _ => False
theorem at_slices_Clone_int_int {xs : List Int} {K : AV → List Bx → Prop} : sp_slices_Clone_int_int [.sl none (.ints .i64 xs)] [] K = ((xs.length ≤ 1099511627776) ∧ K (.ref 0 xs.length) [.row 3 (.ints .i64 xs)]) := id rfl
theorem ok_slices_Clone_int_int : ∀ args giv K, sp_slices_Clone_int_int args giv K → ∃ r outs, ARuns Try.prog 120 args giv r outs ∧ K r outs := by
  intro args giv K hk
  unfold sp_slices_Clone_int_int at hk
  split at hk
  · obtain ⟨hp1, hk⟩ := hk; exact ⟨_, _, runs_slices_Clone_int_int _ hp1, hk⟩
  · exact hk.elim
theorem is_slices_Sort_int_int : FnIs Try.prog 169 11 [] (Try.f169.body.getD .skip) := ⟨⟨Try.f169, by kernel_rfl, by kernel_rfl, by kernel_rfl, by kernel_rfl⟩, by kernel_rfl, by kernel_rfl⟩
def G_slices_Sort_int_int : Gm := Gm.none
theorem G_slices_Sort_int_int_ok : G_slices_Sort_int_int.ok Try.prog := Gm.none_ok
theorem gm_slices_Sort_int_int {r : List Oper} {n : Nat} : splB G_slices_Sort_int_int r n = true := rfl
set_option maxHeartbeats 1000000 in
set_option maxRecDepth 100000 in
theorem runs_slices_Sort_int_int (e : TypeId) (n : Nat) (xs : List Int) (hp1 : n = xs.length) (hp2 : xs.length ≤ 1099511627776) : ARuns Try.prog 169 [.ref 0 n] [.row e (.ints .i64 xs)] (.tup []) [.row e (.ints .i64 (xs.mergeSort fun x y => decide (x ≤ y)))] := by
  exact ARuns_place is_slices_Sort_int_int.callable hp1 (List.length_mergeSort _) (fun blk cap w h1 h2 => Try.slices_Sort_int blk 0 cap xs w h1 h2 (by omega)) (fun _ p cap w => Try.slices_Sort_int_none p cap w)
def lend_slices_Sort_int_int : List Nat := [0]
def sp_slices_Sort_int_int : List AV → List Bx → (AV → List Bx → Prop) → Prop
  | [.ref 0 n], [.row e (.ints .i64 xs)], K => (n = xs.length) ∧ (xs.length ≤ 1099511627776) ∧ K (.tup []) [.row e (.ints .i64 (xs.mergeSort fun x y => decide (x ≤ y)))]
  | _, _, _ => False
theorem at_slices_Sort_int_int {e : TypeId} {n : Nat} {xs : List Int} {K : AV → List Bx → Prop} : sp_slices_Sort_int_int [.ref 0 n] [.row e (.ints .i64 xs)] K = ((n = xs.length) ∧ (xs.length ≤ 1099511627776) ∧ K (.tup []) [.row e (.ints .i64 (xs.mergeSort fun x y => decide (x ≤ y)))]) := id rfl
theorem ok_slices_Sort_int_int : ∀ args giv K, sp_slices_Sort_int_int args giv K → ∃ r outs, ARuns Try.prog 169 args giv r outs ∧ K r outs := by
  intro args giv K hk
  unfold sp_slices_Sort_int_int at hk
  split at hk
  · obtain ⟨hp1, hp2, hk⟩ := hk; exact ⟨_, _, runs_slices_Sort_int_int _ _ _ hp1 hp2, hk⟩
  · exact hk.elim
theorem is_slices_Clip_int_int : FnIs Try.prog 170 9 [.tmp 2] (Try.f170.body.getD .skip) := ⟨⟨Try.f170, by kernel_rfl, by kernel_rfl, by kernel_rfl, by kernel_rfl⟩, by kernel_rfl, by kernel_rfl⟩
def G_slices_Clip_int_int : Gm := Gm.none
theorem G_slices_Clip_int_int_ok : G_slices_Clip_int_int.ok Try.prog := Gm.none_ok
theorem gm_slices_Clip_int_int {r : List Oper} {n : Nat} : splB G_slices_Clip_int_int r n = true := rfl
set_option maxHeartbeats 1000000 in
set_option maxRecDepth 100000 in
theorem runs_slices_Clip_int_int (n : Nat) (xs : List Int) (hp1 : n = xs.length) : ARuns Try.prog 170 [.ref 0 n] [.row 3 (.ints .i64 xs)] (.ref 1 xs.length) [.gone, .row 3 (.ints .i64 xs)] := by
  refine ARuns_bc G_slices_Clip_int_int_ok is_slices_Clip_int_int (by simp) fun hl hlB => ?_
  simp only [kcode_at, kreg_at, bc_skip, bc_seq, bc_cond, bc_block, bc_exit, bc_ret, bc_region, lkX_cons, acond_tmp, aCase_t, aCase_f, aCase_b, afin_nil, cvE_some, resL, resV, resC, cv, cvL, pack, entryE, inPrm, entryB, inPrms, bxCells, Option.getD_some, acall_clo, add_sp, add_lend, kcall_nil, selOf, selC, selA, inArgs, inA, inL, okA, okL, okBx, okC, outA, outL, outU, outB, deep, deepL, boxIds, AV.bid, List.map_nil, List.map_cons, List.all_nil, List.all_cons, BEq.rfl, Bool.and_true, Bool.true_and, List.append_nil, aops_nil, aops_plain, aops_guard, kont_at, yes_at, no_at, aop_move, aop_assign, aop_pick, aop_alloc, aop_box, aop_build, aop_buildSlice, aop_load, aop_store, aop_nilCheck, aop_binOp, aop_unOp, aop_convert, aop_fieldAddr, aop_indexAddr, aop_slice, aop_extract, aop_makeSlice, aop_len, aop_max, aMax_int, slTy2, SC0, aop_append, aop_call, evalE, getE, putE, getB, setB, St.put, setsB, nth, AV.ofV, AV.blk, AV.bid, AV.one, SC.len, SC.get, List.length_nil, List.length_cons, Nat.reduceEqDiff, Nat.reduceAdd, ↓reduceIte, true_and, and_true, Bool.true_eq_false, Bool.false_eq_true, false_imp_iff, true_imp_iff, decide_eq_true_eq, Bool.not_eq_true', Bool.not_eq_false', decide_eq_false_iff_not, Option.isSome, List.nil_append, List.cons_append, aGuardO_some, aGuard_tt, aGuard_tf, aGuard_ft, aGuard_ff, aGuard_tb, aGuard_fb, aGuard_ts, aGuard_fs, aPick_b, aPick_t, aPick_f, aAlloc_one, aAlloc_flat, aBox_some, aBuild_flat, aInt_add, aBin_add, aInt_sub, aBin_sub, aInt_mul, aBin_mul, aInt_quo, aBin_quo, aInt_rem, aBin_rem, aInt_and, aBin_and, aInt_or, aBin_or, aInt_xor, aBin_xor, aInt_andNot, aBin_andNot, aInt_eql, aBin_eql, aInt_neq, aBin_neq, aInt_lss, aBin_lss, aInt_leq, aBin_leq, aInt_gtr, aBin_gtr, aInt_geq, aBin_geq, aBin_shl, aBin_shr, aShift_shl, aShift_shr, aBin_be1, aBin_bn1, aBin_be2, aBin_bn2, aBin_be3, aBin_bn3, aBin_be4, aBin_bn4, aBin_be5, aBin_bn5, aBin_be6, aBin_bn6, aBin_be7, aBin_bn7, aBin_be8, aBin_bn8, aBin_be9, aBin_bn9, aUn_b, aUn_t, aUn_f, aUn_i, aNil_ptr, aNil_pv, aConv_int, aField_ptr, aField_pv, aIdx_sl, aIdx_prm, aIdx_row, aIdx_drow, aMake_i, aMake_s, aExtr_tup, aLen_ref, aLen_nil, aLen_sl, aLen_prm, aLen_str, aBuildL_some, aBuildS_some, aLoad_1b, aLoad_1d, aLoad_fb, aLoad_fd, aLoad_1p, aLoad_fp, aLoad_ep, aLoad_rr, aLoad_rd, aStore_1, aStore_f, aStore_r, aApp_some, aAppend_nil, aAppend_ref, aSlice_h, aSlice_l, aSlice_lh, aop_slice3, aSlice3_r, aop_field, aFld_agg, aBinW_f, aBinW_t, aWrap_mul, aWrap_add, isW_tmp, isW_mulc, isW_addc, isW_sub, isW_quo, isW_rem, isW_and, isW_or, isW_xor, isW_andNot, isW_shl, isW_shr, isW_eql, isW_neq, isW_lss, isW_leq, isW_gtr, isW_geq, Int.reduceLT, aBinW_dF, aBinW_dT, bc_draw, kregD_at, aopsD_nil, aopsD_plain, aopsD_guard, kontD_at, splW_t, splW_f, contD_at, yesD_at, noD_at, splD_bool, splD_undef, splD_skip, splD_int, splD_tt, splD_ff, splD_str, splD_nil, splD_sl, splD_prm, splD_ref, splD_ptr, splD_rp, splD_ep, splD_pv, splD_agg, splD_tup, splD_clo, gD_tt, gD_tf, gD_ft, gD_ff, gD_ts, gD_fs, slotO_some, addTr_nil, addTr_cons, memQ_nil, memQ_cons, clash_nil, clash_cons, regC_none, regC_nil, regC_cons, regR_nil, regR_cons, Int.toNat_zero, Int.toNat_one, rng0, rng1, rng2, rng3, rng4, SC.take, SC.drop, mp_nil, acond_ct, acond_cf, mp_one0, mp_one1, mp_one2, mp_one3, kcall_one, liveB_row, liveB_box, idx, cont, still, dies, lend, lendA, lendDies, snocs, SC.snoc, SC.app, meet, AV.cells, fillA, List.getD_cons_zero, List.getD_cons_succ, List.set_cons_zero, List.set_cons_succ, List.length_singleton, Nat.le_refl, Nat.lt_irrefl, Nat.reduceLT, Nat.reduceLeDiff, Option.map_some, Option.map_none, List.flatMap_nil, List.flatMap_cons, Nat.zero_add, BEq.rfl, kcall_two, mp_two0, mp_two1, mp_two2, mp_two3, mp_two4, aop_makeFunc, plainA, Bool.true_and, sl3, ty3, un3, sl78, ty78, un78, sl106, ty106, un106, sl104, ty104, un104, sl5, ty5, un5, sl2, ty2, un2, sl21, ty21, un21, sl4, ty4, un4, sl9, un9, sl24, ty24, un24, sl22, ty22, un22, sl42, ty42, un42, sl47, sl82, sl68, sl107, sl115, sl119, ty82, ty56, sl56, ty26, sl26, ty101, sl101, ty93, sl93, inR64, inRu64, inRu32, gm_slices_Clip_int_int, Try.f170]
  subst hp1
  rw [Int.toNat_natCast, List.take_length]
  exact ⟨by omega, afin_of [0, 1] rfl rfl (by simp [St.conv, St.bf, getE, putE, getB, cv, cvL, cvB, idx, still, pack, lifts, liftOne, liftC, liftK, killB, cellsOfB, setB]) (by simp [St.conv, St.bf, getE, putE, getB, cv, cvL, cvB, idx, still, pack, lifts, liftOne, liftC, liftK, killB, cellsOfB, setB])⟩
def lend_slices_Clip_int_int : List Nat := [0]
def sp_slices_Clip_int_int : List AV → List Bx → (AV → List Bx → Prop) → Prop
  | [.ref 0 n], [.row 3 (.ints .i64 xs)], K => (n = xs.length) ∧ K (.ref 1 xs.length) [.gone, .row 3 (.ints .i64 xs)]
  | _, _, _ => False
theorem at_slices_Clip_int_int {n : Nat} {xs : List Int} {K : AV → List Bx → Prop} : sp_slices_Clip_int_int [.ref 0 n] [.row 3 (.ints .i64 xs)] K = ((n = xs.length) ∧ K (.ref 1 xs.length) [.gone, .row 3 (.ints .i64 xs)]) := id rfl
theorem ok_slices_Clip_int_int : ∀ args giv K, sp_slices_Clip_int_int args giv K → ∃ r outs, ARuns Try.prog 170 args giv r outs ∧ K r outs := by
  intro args giv K hk
  unfold sp_slices_Clip_int_int at hk
  split at hk
  · obtain ⟨hp1, hk⟩ := hk; exact ⟨_, _, runs_slices_Clip_int_int _ _ hp1, hk⟩
  · exact hk.elim
theorem is_slices_Compact_int_int : FnIs Try.prog 171 61 [.tmp 2] (Try.f171.body.getD .skip) := ⟨⟨Try.f171, by kernel_rfl, by kernel_rfl, by kernel_rfl, by kernel_rfl⟩, by kernel_rfl, by kernel_rfl⟩
def G_slices_Compact_int_int : Gm := Gm.none
theorem G_slices_Compact_int_int_ok : G_slices_Compact_int_int.ok Try.prog := Gm.none_ok
theorem gm_slices_Compact_int_int {r : List Oper} {n : Nat} : splB G_slices_Compact_int_int r n = true := rfl
set_option maxHeartbeats 1000000 in
set_option maxRecDepth 100000 in
theorem runs_slices_Compact_int_int (e : TypeId) (n : Nat) (xs : List Int) (hp1 : n = xs.length) (hp2 : xs.length ≤ 1099511627776) : ARuns Try.prog 171 [.ref 0 n] [.row e (.ints .i64 xs)] (.ref 1 (Lib.compact xs).length) [.gone, .row e (.ints .i64 (Lib.compact xs))] := by
  exact ARuns_compact is_slices_Compact_int_int.callable (fun blk off cap zs w h1 h2 h3 => Try.slices_Compact_int blk off cap zs w h1 h2 h3) (fun a cap w => Try.slices_Compact_int_empty a cap w) hp1 hp2
def lend_slices_Compact_int_int : List Nat := [0]
def sp_slices_Compact_int_int : List AV → List Bx → (AV → List Bx → Prop) → Prop
  | [.ref 0 n], [.row e (.ints .i64 xs)], K => (n = xs.length) ∧ (xs.length ≤ 1099511627776) ∧ K (.ref 1 (Lib.compact xs).length) [.gone, .row e (.ints .i64 (Lib.compact xs))]
  | _, _, _ => False
theorem at_slices_Compact_int_int {e : TypeId} {n : Nat} {xs : List Int} {K : AV → List Bx → Prop} : sp_slices_Compact_int_int [.ref 0 n] [.row e (.ints .i64 xs)] K = ((n = xs.length) ∧ (xs.length ≤ 1099511627776) ∧ K (.ref 1 (Lib.compact xs).length) [.gone, .row e (.ints .i64 (Lib.compact xs))]) := id rfl
theorem ok_slices_Compact_int_int : ∀ args giv K, sp_slices_Compact_int_int args giv K → ∃ r outs, ARuns Try.prog 171 args giv r outs ∧ K r outs := by
  intro args giv K hk
  unfold sp_slices_Compact_int_int at hk
  split at hk
  · obtain ⟨hp1, hp2, hk⟩ := hk; exact ⟨_, _, runs_slices_Compact_int_int _ _ _ hp1 hp2, hk⟩
  · exact hk.elim
theorem is_impl_gather : FnIs Try.prog 133 15 [ResultVar.cell 4 26] (Try.f133.body.getD .skip) := ⟨⟨Try.f133, by kernel_rfl, by kernel_rfl, by kernel_rfl, by kernel_rfl⟩, by kernel_rfl, by kernel_rfl⟩
def G_impl_gather : Gm := ((((Gm.none.add 120 lend_slices_Clone_int_int sp_slices_Clone_int_int).add 169 lend_slices_Sort_int_int sp_slices_Sort_int_int).add 170 lend_slices_Clip_int_int sp_slices_Clip_int_int).add 171 lend_slices_Compact_int_int sp_slices_Compact_int_int)
theorem G_impl_gather_ok : G_impl_gather.ok Try.prog := (Gm.add_ok (Gm.add_ok (Gm.add_ok (Gm.add_ok Gm.none_ok ok_slices_Clone_int_int) ok_slices_Sort_int_int) ok_slices_Clip_int_int) ok_slices_Compact_int_int)
theorem gm_impl_gather {r : List Oper} {n : Nat} : splB G_impl_gather r n = true := rfl
theorem gs_impl_gather_120 : G_impl_gather.sp 120 = sp_slices_Clone_int_int ∧ G_impl_gather.lend 120 = lend_slices_Clone_int_int := ⟨rfl, rfl⟩
theorem gs_impl_gather_169 : G_impl_gather.sp 169 = sp_slices_Sort_int_int ∧ G_impl_gather.lend 169 = lend_slices_Sort_int_int := ⟨rfl, rfl⟩
theorem gs_impl_gather_170 : G_impl_gather.sp 170 = sp_slices_Clip_int_int ∧ G_impl_gather.lend 170 = lend_slices_Clip_int_int := ⟨rfl, rfl⟩
theorem gs_impl_gather_171 : G_impl_gather.sp 171 = sp_slices_Compact_int_int ∧ G_impl_gather.lend 171 = lend_slices_Compact_int_int := ⟨rfl, rfl⟩
set_option maxHeartbeats 1000000 in
set_option maxRecDepth 100000 in
theorem runs_impl_gather (n : Int) (l : List Int) (hp1 : l.length ≤ 1099511627776) : ARuns Try.prog 133 [.int .i64 n, .sl none (.ints .i64 l)] [] (.agg [.int .i64 n, .ref 0 (gathL l).length]) [.row 3 (.ints .i64 (gathL l))] := by
  refine ARuns_bc G_impl_gather_ok is_impl_gather (by simp) fun hl hlB => ?_
  simp only [kcode_at, kreg_at, bc_skip, bc_seq, bc_cond, bc_block, bc_exit, bc_ret, bc_region, lkX_cons, acond_tmp, aCase_t, aCase_f, aCase_b, afin_nil, cvE_some, resL, resV, resC, cv, cvL, pack, entryE, inPrm, entryB, inPrms, bxCells, Option.getD_some, acall_clo, add_sp, add_lend, kcall_nil, selOf, selC, selA, inArgs, inA, inL, okA, okL, okBx, okC, outA, outL, outU, outB, deep, deepL, boxIds, AV.bid, List.map_nil, List.map_cons, List.all_nil, List.all_cons, BEq.rfl, Bool.and_true, Bool.true_and, List.append_nil, aops_nil, aops_plain, aops_guard, kont_at, yes_at, no_at, aop_move, aop_assign, aop_pick, aop_alloc, aop_box, aop_build, aop_buildSlice, aop_load, aop_store, aop_nilCheck, aop_binOp, aop_unOp, aop_convert, aop_fieldAddr, aop_indexAddr, aop_slice, aop_extract, aop_makeSlice, aop_len, aop_max, aMax_int, slTy2, SC0, aop_append, aop_call, evalE, getE, putE, getB, setB, St.put, setsB, nth, AV.ofV, AV.blk, AV.bid, AV.one, SC.len, SC.get, List.length_nil, List.length_cons, Nat.reduceEqDiff, Nat.reduceAdd, ↓reduceIte, true_and, and_true, Bool.true_eq_false, Bool.false_eq_true, false_imp_iff, true_imp_iff, decide_eq_true_eq, Bool.not_eq_true', Bool.not_eq_false', decide_eq_false_iff_not, Option.isSome, List.nil_append, List.cons_append, aGuardO_some, aGuard_tt, aGuard_tf, aGuard_ft, aGuard_ff, aGuard_tb, aGuard_fb, aGuard_ts, aGuard_fs, aPick_b, aPick_t, aPick_f, aAlloc_one, aAlloc_flat, aBox_some, aBuild_flat, aInt_add, aBin_add, aInt_sub, aBin_sub, aInt_mul, aBin_mul, aInt_quo, aBin_quo, aInt_rem, aBin_rem, aInt_and, aBin_and, aInt_or, aBin_or, aInt_xor, aBin_xor, aInt_andNot, aBin_andNot, aInt_eql, aBin_eql, aInt_neq, aBin_neq, aInt_lss, aBin_lss, aInt_leq, aBin_leq, aInt_gtr, aBin_gtr, aInt_geq, aBin_geq, aBin_shl, aBin_shr, aShift_shl, aShift_shr, aBin_be1, aBin_bn1, aBin_be2, aBin_bn2, aBin_be3, aBin_bn3, aBin_be4, aBin_bn4, aBin_be5, aBin_bn5, aBin_be6, aBin_bn6, aBin_be7, aBin_bn7, aBin_be8, aBin_bn8, aBin_be9, aBin_bn9, aUn_b, aUn_t, aUn_f, aUn_i, aNil_ptr, aNil_pv, aConv_int, aField_ptr, aField_pv, aIdx_sl, aIdx_prm, aIdx_row, aIdx_drow, aMake_i, aMake_s, aExtr_tup, aLen_ref, aLen_nil, aLen_sl, aLen_prm, aLen_str, aBuildL_some, aBuildS_some, aLoad_1b, aLoad_1d, aLoad_fb, aLoad_fd, aLoad_1p, aLoad_fp, aLoad_ep, aLoad_rr, aLoad_rd, aStore_1, aStore_f, aStore_r, aApp_some, aAppend_nil, aAppend_ref, aSlice_h, aSlice_l, aSlice_lh, aop_slice3, aSlice3_r, aop_field, aFld_agg, aBinW_f, aBinW_t, aWrap_mul, aWrap_add, isW_tmp, isW_mulc, isW_addc, isW_sub, isW_quo, isW_rem, isW_and, isW_or, isW_xor, isW_andNot, isW_shl, isW_shr, isW_eql, isW_neq, isW_lss, isW_leq, isW_gtr, isW_geq, Int.reduceLT, aBinW_dF, aBinW_dT, bc_draw, kregD_at, aopsD_nil, aopsD_plain, aopsD_guard, kontD_at, splW_t, splW_f, contD_at, yesD_at, noD_at, splD_bool, splD_undef, splD_skip, splD_int, splD_tt, splD_ff, splD_str, splD_nil, splD_sl, splD_prm, splD_ref, splD_ptr, splD_rp, splD_ep, splD_pv, splD_agg, splD_tup, splD_clo, gD_tt, gD_tf, gD_ft, gD_ff, gD_ts, gD_fs, slotO_some, addTr_nil, addTr_cons, memQ_nil, memQ_cons, clash_nil, clash_cons, regC_none, regC_nil, regC_cons, regR_nil, regR_cons, Int.toNat_zero, Int.toNat_one, rng0, rng1, rng2, rng3, rng4, SC.take, SC.drop, mp_nil, acond_ct, acond_cf, mp_one0, mp_one1, mp_one2, mp_one3, kcall_one, liveB_row, liveB_box, idx, cont, still, dies, lend, lendA, lendDies, snocs, SC.snoc, SC.app, meet, AV.cells, fillA, List.getD_cons_zero, List.getD_cons_succ, List.set_cons_zero, List.set_cons_succ, List.length_singleton, Nat.le_refl, Nat.lt_irrefl, Nat.reduceLT, Nat.reduceLeDiff, Option.map_some, Option.map_none, List.flatMap_nil, List.flatMap_cons, Nat.zero_add, BEq.rfl, kcall_two, mp_two0, mp_two1, mp_two2, mp_two3, mp_two4, aop_makeFunc, plainA, Bool.true_and, sl3, ty3, un3, sl78, ty78, un78, sl106, ty106, un106, sl104, ty104, un104, sl5, ty5, un5, sl2, ty2, un2, sl21, ty21, un21, sl4, ty4, un4, sl9, un9, sl24, ty24, un24, sl22, ty22, un22, sl42, ty42, un42, sl47, sl82, sl68, sl107, sl115, sl119, ty82, ty56, sl56, ty26, sl26, ty101, sl101, ty93, sl93, inR64, inRu64, inRu32, gm_impl_gather, gs_impl_gather_120, at_slices_Clone_int_int, lend_slices_Clone_int_int, gs_impl_gather_169, at_slices_Sort_int_int, lend_slices_Sort_int_int, gs_impl_gather_170, at_slices_Clip_int_int, lend_slices_Clip_int_int, gs_impl_gather_171, at_slices_Compact_int_int, lend_slices_Compact_int_int, Try.f133]
  have hm := List.length_mergeSort (le := fun x y : Int => decide (x ≤ y)) l
  exact ⟨hp1, hp1, hm.symm, by omega, rfl, afin_of [3] rfl (by simp only [resL, resV, resC, getE, putE, getB, setB, lifts, liftOne, liftC, liftK, killB, cellsOfB, List.length_cons, List.length_nil, List.nil_append, List.cons_append, Nat.reduceAdd, Nat.reduceEqDiff, ↓reduceIte, ty3, ty78, ty106, ty104, ty5, ty2, ty21, ty4, ty24, ty22, ty42, ty82, ty56, ty26, ty101, ty93]; rfl) (by simp [St.conv, St.bf, getE, putE, getB, cv, cvL, cvB, idx, still, pack, lifts, liftOne, liftC, liftK, killB, cellsOfB, setB]; rfl) (by simp [St.conv, St.bf, getE, putE, getB, cv, cvL, cvB, idx, still, pack, lifts, liftOne, liftC, liftK, killB, cellsOfB, setB]; rfl)⟩
def lend_impl_gather : List Nat := []
def sp_impl_gather : List AV → List Bx → (AV → List Bx → Prop) → Prop
  | [.int .i64 n, .sl none (.ints .i64 l)], [], K => (l.length ≤ 1099511627776) ∧ K (.agg [.int .i64 n, .ref 0 (gathL l).length]) [.row 3 (.ints .i64 (gathL l))]
  | _, _, _ => False
theorem at_impl_gather {n : Int} {l : List Int} {K : AV → List Bx → Prop} : sp_impl_gather [.int .i64 n, .sl none (.ints .i64 l)] [] K = ((l.length ≤ 1099511627776) ∧ K (.agg [.int .i64 n, .ref 0 (gathL l).length]) [.row 3 (.ints .i64 (gathL l))]) := id rfl
theorem ok_impl_gather : ∀ args giv K, sp_impl_gather args giv K → ∃ r outs, ARuns Try.prog 133 args giv r outs ∧ K r outs := by
  intro args giv K hk
  unfold sp_impl_gather at hk
  split at hk
  · obtain ⟨hp1, hk⟩ := hk; exact ⟨_, _, runs_impl_gather _ _ hp1, hk⟩
  · exact hk.elim
theorem is_impl_traces : FnIs Try.prog 106 26 [ResultVar.cell 4 26] (Try.f106.body.getD .skip) := ⟨⟨Try.f106, by kernel_rfl, by kernel_rfl, by kernel_rfl, by kernel_rfl⟩, by kernel_rfl, by kernel_rfl⟩
def G_impl_traces : Gm := (Gm.none.add 133 lend_impl_gather sp_impl_gather)
theorem G_impl_traces_ok : G_impl_traces.ok Try.prog := (Gm.add_ok Gm.none_ok ok_impl_gather)
theorem gm_impl_traces {r : List Oper} {n : Nat} : splB G_impl_traces r n = true := rfl
theorem gs_impl_traces_133 : G_impl_traces.sp 133 = sp_impl_gather ∧ G_impl_traces.lend 133 = lend_impl_gather := ⟨rfl, rfl⟩
set_option maxHeartbeats 1000000 in
set_option maxRecDepth 100000 in
theorem runs_impl_traces (n : Int) (xs : List Int) (s : Int) (hp1 : xs.length ≤ 1048576) : ARuns Try.prog 106 [.agg [.int .i64 n, .sl none (.ints .i64 xs)], .int .i64 s] [] (.agg [.int .i64 n, .ref 0 (trL xs s).length]) [.row 3 (.ints .i64 (trL xs s))] := by
  refine ARuns_bc G_impl_traces_ok is_impl_traces (by simp) fun hl hlB => ?_
  simp only [kcode_at, kreg_at, bc_skip, bc_seq, bc_cond, bc_block, bc_exit, bc_ret, bc_region, lkX_cons, acond_tmp, aCase_t, aCase_f, aCase_b, afin_nil, cvE_some, resL, resV, resC, cv, cvL, pack, entryE, inPrm, entryB, inPrms, bxCells, Option.getD_some, acall_clo, add_sp, add_lend, kcall_nil, selOf, selC, selA, inArgs, inA, inL, okA, okL, okBx, okC, outA, outL, outU, outB, deep, deepL, boxIds, AV.bid, List.map_nil, List.map_cons, List.all_nil, List.all_cons, BEq.rfl, Bool.and_true, Bool.true_and, List.append_nil, aops_nil, aops_plain, aops_guard, kont_at, yes_at, no_at, aop_move, aop_assign, aop_pick, aop_alloc, aop_box, aop_build, aop_buildSlice, aop_load, aop_store, aop_nilCheck, aop_binOp, aop_unOp, aop_convert, aop_fieldAddr, aop_indexAddr, aop_slice, aop_extract, aop_makeSlice, aop_len, aop_max, aMax_int, slTy2, SC0, aop_append, aop_call, evalE, getE, putE, getB, setB, St.put, setsB, nth, AV.ofV, AV.blk, AV.bid, AV.one, SC.len, SC.get, List.length_nil, List.length_cons, Nat.reduceEqDiff, Nat.reduceAdd, ↓reduceIte, true_and, and_true, Bool.true_eq_false, Bool.false_eq_true, false_imp_iff, true_imp_iff, decide_eq_true_eq, Bool.not_eq_true', Bool.not_eq_false', decide_eq_false_iff_not, Option.isSome, List.nil_append, List.cons_append, aGuardO_some, aGuard_tt, aGuard_tf, aGuard_ft, aGuard_ff, aGuard_tb, aGuard_fb, aGuard_ts, aGuard_fs, aPick_b, aPick_t, aPick_f, aAlloc_one, aAlloc_flat, aBox_some, aBuild_flat, aInt_add, aBin_add, aInt_sub, aBin_sub, aInt_mul, aBin_mul, aInt_quo, aBin_quo, aInt_rem, aBin_rem, aInt_and, aBin_and, aInt_or, aBin_or, aInt_xor, aBin_xor, aInt_andNot, aBin_andNot, aInt_eql, aBin_eql, aInt_neq, aBin_neq, aInt_lss, aBin_lss, aInt_leq, aBin_leq, aInt_gtr, aBin_gtr, aInt_geq, aBin_geq, aBin_shl, aBin_shr, aShift_shl, aShift_shr, aBin_be1, aBin_bn1, aBin_be2, aBin_bn2, aBin_be3, aBin_bn3, aBin_be4, aBin_bn4, aBin_be5, aBin_bn5, aBin_be6, aBin_bn6, aBin_be7, aBin_bn7, aBin_be8, aBin_bn8, aBin_be9, aBin_bn9, aUn_b, aUn_t, aUn_f, aUn_i, aNil_ptr, aNil_pv, aConv_int, aField_ptr, aField_pv, aIdx_sl, aIdx_prm, aIdx_row, aIdx_drow, aMake_i, aMake_s, aExtr_tup, aLen_ref, aLen_nil, aLen_sl, aLen_prm, aLen_str, aBuildL_some, aBuildS_some, aLoad_1b, aLoad_1d, aLoad_fb, aLoad_fd, aLoad_1p, aLoad_fp, aLoad_ep, aLoad_rr, aLoad_rd, aStore_1, aStore_f, aStore_r, aApp_some, aAppend_nil, aAppend_ref, aSlice_h, aSlice_l, aSlice_lh, aop_slice3, aSlice3_r, aop_field, aFld_agg, aBinW_f, aBinW_t, aWrap_mul, aWrap_add, isW_tmp, isW_mulc, isW_addc, isW_sub, isW_quo, isW_rem, isW_and, isW_or, isW_xor, isW_andNot, isW_shl, isW_shr, isW_eql, isW_neq, isW_lss, isW_leq, isW_gtr, isW_geq, Int.reduceLT, aBinW_dF, aBinW_dT, bc_draw, kregD_at, aopsD_nil, aopsD_plain, aopsD_guard, kontD_at, splW_t, splW_f, contD_at, yesD_at, noD_at, splD_bool, splD_undef, splD_skip, splD_int, splD_tt, splD_ff, splD_str, splD_nil, splD_sl, splD_prm, splD_ref, splD_ptr, splD_rp, splD_ep, splD_pv, splD_agg, splD_tup, splD_clo, gD_tt, gD_tf, gD_ft, gD_ff, gD_ts, gD_fs, slotO_some, addTr_nil, addTr_cons, memQ_nil, memQ_cons, clash_nil, clash_cons, regC_none, regC_nil, regC_cons, regR_nil, regR_cons, Int.toNat_zero, Int.toNat_one, rng0, rng1, rng2, rng3, rng4, SC.take, SC.drop, mp_nil, acond_ct, acond_cf, mp_one0, mp_one1, mp_one2, mp_one3, kcall_one, liveB_row, liveB_box, idx, cont, still, dies, lend, lendA, lendDies, snocs, SC.snoc, SC.app, meet, AV.cells, fillA, List.getD_cons_zero, List.getD_cons_succ, List.set_cons_zero, List.set_cons_succ, List.length_singleton, Nat.le_refl, Nat.lt_irrefl, Nat.reduceLT, Nat.reduceLeDiff, Option.map_some, Option.map_none, List.flatMap_nil, List.flatMap_cons, Nat.zero_add, BEq.rfl, kcall_two, mp_two0, mp_two1, mp_two2, mp_two3, mp_two4, aop_makeFunc, plainA, Bool.true_and, sl3, ty3, un3, sl78, ty78, un78, sl106, ty106, un106, sl104, ty104, un104, sl5, ty5, un5, sl2, ty2, un2, sl21, ty21, un21, sl4, ty4, un4, sl9, un9, sl24, ty24, un24, sl22, ty22, un22, sl42, ty42, un42, sl47, sl82, sl68, sl107, sl115, sl119, ty82, ty56, sl56, ty26, sl26, ty101, sl101, ty93, sl93, inR64, inRu64, inRu32, gm_impl_traces, gs_impl_traces_133, at_impl_gather, lend_impl_gather, Try.f106]
  refine bc_loopN [(5, 3, .ints .i64 [])] (fun i : Nat => i ≤ xs.length)
    (fun i => ⟨[(1, .int .i64 s), (2, .ptr 0 0), (4, .ptr 1 0), (5, .ref 2 ((xs.take i).map fun t => band .i64 s t).length), (9, .sl none (.ints .i64 xs)), (10, .int .i64 xs.length), (11, .int .i64 i)], [.box [.int .i64 n, .sl none (.ints .i64 xs)], .box [.int .i64 0, .nil], .row 3 (.ints .i64 ((xs.take i).map fun t => band .i64 s t))]⟩) (fun i => xs.length - i)
    [1, 2, 4, 5, 9, 10, 11] [0, 1, 2] 0 rfl rfl (by simp [St.conv, St.bf, getE, putE, getB, cv, cvL, cvB, idx, still, pack, lifts, liftOne, liftC, liftK, killB, cellsOfB, setB]) (by simp) fun i hi => ?_
  simp only [kcode_at, kreg_at, bc_skip, bc_seq, bc_cond, bc_block, bc_exit, bc_ret, bc_region, lkX_cons, acond_tmp, aCase_t, aCase_f, aCase_b, afin_nil, cvE_some, resL, resV, resC, cv, cvL, pack, entryE, inPrm, entryB, inPrms, bxCells, Option.getD_some, acall_clo, add_sp, add_lend, kcall_nil, selOf, selC, selA, inArgs, inA, inL, okA, okL, okBx, okC, outA, outL, outU, outB, deep, deepL, boxIds, AV.bid, List.map_nil, List.map_cons, List.all_nil, List.all_cons, BEq.rfl, Bool.and_true, Bool.true_and, List.append_nil, aops_nil, aops_plain, aops_guard, kont_at, yes_at, no_at, aop_move, aop_assign, aop_pick, aop_alloc, aop_box, aop_build, aop_buildSlice, aop_load, aop_store, aop_nilCheck, aop_binOp, aop_unOp, aop_convert, aop_fieldAddr, aop_indexAddr, aop_slice, aop_extract, aop_makeSlice, aop_len, aop_max, aMax_int, slTy2, SC0, aop_append, aop_call, evalE, getE, putE, getB, setB, St.put, setsB, nth, AV.ofV, AV.blk, AV.bid, AV.one, SC.len, SC.get, List.length_nil, List.length_cons, Nat.reduceEqDiff, Nat.reduceAdd, ↓reduceIte, true_and, and_true, Bool.true_eq_false, Bool.false_eq_true, false_imp_iff, true_imp_iff, decide_eq_true_eq, Bool.not_eq_true', Bool.not_eq_false', decide_eq_false_iff_not, Option.isSome, List.nil_append, List.cons_append, aGuardO_some, aGuard_tt, aGuard_tf, aGuard_ft, aGuard_ff, aGuard_tb, aGuard_fb, aGuard_ts, aGuard_fs, aPick_b, aPick_t, aPick_f, aAlloc_one, aAlloc_flat, aBox_some, aBuild_flat, aInt_add, aBin_add, aInt_sub, aBin_sub, aInt_mul, aBin_mul, aInt_quo, aBin_quo, aInt_rem, aBin_rem, aInt_and, aBin_and, aInt_or, aBin_or, aInt_xor, aBin_xor, aInt_andNot, aBin_andNot, aInt_eql, aBin_eql, aInt_neq, aBin_neq, aInt_lss, aBin_lss, aInt_leq, aBin_leq, aInt_gtr, aBin_gtr, aInt_geq, aBin_geq, aBin_shl, aBin_shr, aShift_shl, aShift_shr, aBin_be1, aBin_bn1, aBin_be2, aBin_bn2, aBin_be3, aBin_bn3, aBin_be4, aBin_bn4, aBin_be5, aBin_bn5, aBin_be6, aBin_bn6, aBin_be7, aBin_bn7, aBin_be8, aBin_bn8, aBin_be9, aBin_bn9, aUn_b, aUn_t, aUn_f, aUn_i, aNil_ptr, aNil_pv, aConv_int, aField_ptr, aField_pv, aIdx_sl, aIdx_prm, aIdx_row, aIdx_drow, aMake_i, aMake_s, aExtr_tup, aLen_ref, aLen_nil, aLen_sl, aLen_prm, aLen_str, aBuildL_some, aBuildS_some, aLoad_1b, aLoad_1d, aLoad_fb, aLoad_fd, aLoad_1p, aLoad_fp, aLoad_ep, aLoad_rr, aLoad_rd, aStore_1, aStore_f, aStore_r, aApp_some, aAppend_nil, aAppend_ref, aSlice_h, aSlice_l, aSlice_lh, aop_slice3, aSlice3_r, aop_field, aFld_agg, aBinW_f, aBinW_t, aWrap_mul, aWrap_add, isW_tmp, isW_mulc, isW_addc, isW_sub, isW_quo, isW_rem, isW_and, isW_or, isW_xor, isW_andNot, isW_shl, isW_shr, isW_eql, isW_neq, isW_lss, isW_leq, isW_gtr, isW_geq, Int.reduceLT, aBinW_dF, aBinW_dT, bc_draw, kregD_at, aopsD_nil, aopsD_plain, aopsD_guard, kontD_at, splW_t, splW_f, contD_at, yesD_at, noD_at, splD_bool, splD_undef, splD_skip, splD_int, splD_tt, splD_ff, splD_str, splD_nil, splD_sl, splD_prm, splD_ref, splD_ptr, splD_rp, splD_ep, splD_pv, splD_agg, splD_tup, splD_clo, gD_tt, gD_tf, gD_ft, gD_ff, gD_ts, gD_fs, slotO_some, addTr_nil, addTr_cons, memQ_nil, memQ_cons, clash_nil, clash_cons, regC_none, regC_nil, regC_cons, regR_nil, regR_cons, Int.toNat_zero, Int.toNat_one, rng0, rng1, rng2, rng3, rng4, SC.take, SC.drop, mp_nil, acond_ct, acond_cf, mp_one0, mp_one1, mp_one2, mp_one3, kcall_one, liveB_row, liveB_box, idx, cont, still, dies, lend, lendA, lendDies, snocs, SC.snoc, SC.app, meet, AV.cells, fillA, List.getD_cons_zero, List.getD_cons_succ, List.set_cons_zero, List.set_cons_succ, List.length_singleton, Nat.le_refl, Nat.lt_irrefl, Nat.reduceLT, Nat.reduceLeDiff, Option.map_some, Option.map_none, List.flatMap_nil, List.flatMap_cons, Nat.zero_add, BEq.rfl, kcall_two, mp_two0, mp_two1, mp_two2, mp_two3, mp_two4, aop_makeFunc, plainA, Bool.true_and, sl3, ty3, un3, sl78, ty78, un78, sl106, ty106, un106, sl104, ty104, un104, sl5, ty5, un5, sl2, ty2, un2, sl21, ty21, un21, sl4, ty4, un4, sl9, un9, sl24, ty24, un24, sl22, ty22, un22, sl42, ty42, un42, sl47, sl82, sl68, sl107, sl115, sl119, ty82, ty56, sl56, ty26, sl26, ty101, sl101, ty93, sl93, inR64, inRu64, inRu32, gm_impl_traces, gs_impl_traces_133, at_impl_gather, lend_impl_gather, Int.toNat_natCast]
  have hlen : ((xs.take i).map fun t => band .i64 s t).length = i := by simp; omega
  refine ⟨fun hlt => ⟨by omega, by omega, by omega, klp_of (i + 1) ?_ (by omega) (by omega)⟩, fun hge => ?_⟩
  · rw [map_take_succ (by omega)]
    simp [St.conv, St.bf, getE, putE, getB, cv, cvL, cvB, idx, still, pack, lifts, liftOne, liftC, liftK, killB, cellsOfB, setB]
  · have : i = xs.length := by omega
    subst this
    have hs := @trL_same xs s
    rw [List.take_length] at hlen ⊢
    rw [hs]
    exact ⟨by omega, afin_of [3] rfl (by simp only [resL, resV, resC, getE, putE, getB, setB, lifts, liftOne, liftC, liftK, killB, cellsOfB, List.length_cons, List.length_nil, List.nil_append, List.cons_append, Nat.reduceAdd, Nat.reduceEqDiff, ↓reduceIte, ty3, ty78, ty106, ty104, ty5, ty2, ty21, ty4, ty24, ty22, ty42, ty82, ty56, ty26, ty101, ty93]; rfl) (by simp [St.conv, St.bf, getE, putE, getB, cv, cvL, cvB, idx, still, pack, lifts, liftOne, liftC, liftK, killB, cellsOfB, setB]) (by simp [St.conv, St.bf, getE, putE, getB, cv, cvL, cvB, idx, still, pack, lifts, liftOne, liftC, liftK, killB, cellsOfB, setB])⟩
def lend_impl_traces : List Nat := []
def sp_impl_traces : List AV → List Bx → (AV → List Bx → Prop) → Prop
  | [.agg [.int .i64 n, .sl none (.ints .i64 xs)], .int .i64 s], [], K => (xs.length ≤ 1048576) ∧ K (.agg [.int .i64 n, .ref 0 (trL xs s).length]) [.row 3 (.ints .i64 (trL xs s))]
  | _, _, _ => False
theorem at_impl_traces {n : Int} {xs : List Int} {s : Int} {K : AV → List Bx → Prop} : sp_impl_traces [.agg [.int .i64 n, .sl none (.ints .i64 xs)], .int .i64 s] [] K = ((xs.length ≤ 1048576) ∧ K (.agg [.int .i64 n, .ref 0 (trL xs s).length]) [.row 3 (.ints .i64 (trL xs s))]) := id rfl
theorem ok_impl_traces : ∀ args giv K, sp_impl_traces args giv K → ∃ r outs, ARuns Try.prog 106 args giv r outs ∧ K r outs := by
  intro args giv K hk
  unfold sp_impl_traces at hk
  split at hk
  · obtain ⟨hp1, hk⟩ := hk; exact ⟨_, _, runs_impl_traces _ _ _ hp1, hk⟩
  · exact hk.elim
theorem is_impl_TracesOf : FnIs Try.prog 23 20 [ResultVar.cell 4 26, .tmp 5] (Try.f23.body.getD .skip) := ⟨⟨Try.f23, by kernel_rfl, by kernel_rfl, by kernel_rfl, by kernel_rfl⟩, by kernel_rfl, by kernel_rfl⟩
def G_impl_TracesOf : Gm := (((Gm.none.add 100 lend_impl_IsFamily sp_impl_IsFamily).add 106 lend_impl_traces sp_impl_traces).add 116 lend_impl_isSetOf sp_impl_isSetOf)
theorem G_impl_TracesOf_ok : G_impl_TracesOf.ok Try.prog := (Gm.add_ok (Gm.add_ok (Gm.add_ok Gm.none_ok ok_impl_IsFamily) ok_impl_traces) ok_impl_isSetOf)
theorem gm_impl_TracesOf {r : List Oper} {n : Nat} : splB G_impl_TracesOf r n = true := rfl
theorem gs_impl_TracesOf_100 : G_impl_TracesOf.sp 100 = sp_impl_IsFamily ∧ G_impl_TracesOf.lend 100 = lend_impl_IsFamily := ⟨rfl, rfl⟩
theorem gs_impl_TracesOf_106 : G_impl_TracesOf.sp 106 = sp_impl_traces ∧ G_impl_TracesOf.lend 106 = lend_impl_traces := ⟨rfl, rfl⟩
theorem gs_impl_TracesOf_116 : G_impl_TracesOf.sp 116 = sp_impl_isSetOf ∧ G_impl_TracesOf.lend 116 = lend_impl_isSetOf := ⟨rfl, rfl⟩
set_option maxHeartbeats 1000000 in
set_option maxRecDepth 100000 in
theorem runs_impl_TracesOf (n : Int) (xs : List Int) (s : Int) (hp1 : xs.length ≤ 1048576) : ARuns Try.prog 23 [.agg [.int .i64 n, .sl none (.ints .i64 xs)], .int .i64 s] [] (.tup [.agg [.int .i64 (trN n xs s), .ref 0 (trO n xs s).length], .bool (trOk n xs s)]) [.row 3 (.ints .i64 (trO n xs s))] := by
  refine ARuns_bc G_impl_TracesOf_ok is_impl_TracesOf (by simp) fun hl hlB => ?_
  simp only [kcode_at, kreg_at, bc_skip, bc_seq, bc_cond, bc_block, bc_exit, bc_ret, bc_region, lkX_cons, acond_tmp, aCase_t, aCase_f, aCase_b, afin_nil, cvE_some, resL, resV, resC, cv, cvL, pack, entryE, inPrm, entryB, inPrms, bxCells, Option.getD_some, acall_clo, add_sp, add_lend, kcall_nil, selOf, selC, selA, inArgs, inA, inL, okA, okL, okBx, okC, outA, outL, outU, outB, deep, deepL, boxIds, AV.bid, List.map_nil, List.map_cons, List.all_nil, List.all_cons, BEq.rfl, Bool.and_true, Bool.true_and, List.append_nil, aops_nil, aops_plain, aops_guard, kont_at, yes_at, no_at, aop_move, aop_assign, aop_pick, aop_alloc, aop_box, aop_build, aop_buildSlice, aop_load, aop_store, aop_nilCheck, aop_binOp, aop_unOp, aop_convert, aop_fieldAddr, aop_indexAddr, aop_slice, aop_extract, aop_makeSlice, aop_len, aop_max, aMax_int, slTy2, SC0, aop_append, aop_call, evalE, getE, putE, getB, setB, St.put, setsB, nth, AV.ofV, AV.blk, AV.bid, AV.one, SC.len, SC.get, List.length_nil, List.length_cons, Nat.reduceEqDiff, Nat.reduceAdd, ↓reduceIte, true_and, and_true, Bool.true_eq_false, Bool.false_eq_true, false_imp_iff, true_imp_iff, decide_eq_true_eq, Bool.not_eq_true', Bool.not_eq_false', decide_eq_false_iff_not, Option.isSome, List.nil_append, List.cons_append, aGuardO_some, aGuard_tt, aGuard_tf, aGuard_ft, aGuard_ff, aGuard_tb, aGuard_fb, aGuard_ts, aGuard_fs, aPick_b, aPick_t, aPick_f, aAlloc_one, aAlloc_flat, aBox_some, aBuild_flat, aInt_add, aBin_add, aInt_sub, aBin_sub, aInt_mul, aBin_mul, aInt_quo, aBin_quo, aInt_rem, aBin_rem, aInt_and, aBin_and, aInt_or, aBin_or, aInt_xor, aBin_xor, aInt_andNot, aBin_andNot, aInt_eql, aBin_eql, aInt_neq, aBin_neq, aInt_lss, aBin_lss, aInt_leq, aBin_leq, aInt_gtr, aBin_gtr, aInt_geq, aBin_geq, aBin_shl, aBin_shr, aShift_shl, aShift_shr, aBin_be1, aBin_bn1, aBin_be2, aBin_bn2, aBin_be3, aBin_bn3, aBin_be4, aBin_bn4, aBin_be5, aBin_bn5, aBin_be6, aBin_bn6, aBin_be7, aBin_bn7, aBin_be8, aBin_bn8, aBin_be9, aBin_bn9, aUn_b, aUn_t, aUn_f, aUn_i, aNil_ptr, aNil_pv, aConv_int, aField_ptr, aField_pv, aIdx_sl, aIdx_prm, aIdx_row, aIdx_drow, aMake_i, aMake_s, aExtr_tup, aLen_ref, aLen_nil, aLen_sl, aLen_prm, aLen_str, aBuildL_some, aBuildS_some, aLoad_1b, aLoad_1d, aLoad_fb, aLoad_fd, aLoad_1p, aLoad_fp, aLoad_ep, aLoad_rr, aLoad_rd, aStore_1, aStore_f, aStore_r, aApp_some, aAppend_nil, aAppend_ref, aSlice_h, aSlice_l, aSlice_lh, aop_slice3, aSlice3_r, aop_field, aFld_agg, aBinW_f, aBinW_t, aWrap_mul, aWrap_add, isW_tmp, isW_mulc, isW_addc, isW_sub, isW_quo, isW_rem, isW_and, isW_or, isW_xor, isW_andNot, isW_shl, isW_shr, isW_eql, isW_neq, isW_lss, isW_leq, isW_gtr, isW_geq, Int.reduceLT, aBinW_dF, aBinW_dT, bc_draw, kregD_at, aopsD_nil, aopsD_plain, aopsD_guard, kontD_at, splW_t, splW_f, contD_at, yesD_at, noD_at, splD_bool, splD_undef, splD_skip, splD_int, splD_tt, splD_ff, splD_str, splD_nil, splD_sl, splD_prm, splD_ref, splD_ptr, splD_rp, splD_ep, splD_pv, splD_agg, splD_tup, splD_clo, gD_tt, gD_tf, gD_ft, gD_ff, gD_ts, gD_fs, slotO_some, addTr_nil, addTr_cons, memQ_nil, memQ_cons, clash_nil, clash_cons, regC_none, regC_nil, regC_cons, regR_nil, regR_cons, Int.toNat_zero, Int.toNat_one, rng0, rng1, rng2, rng3, rng4, SC.take, SC.drop, mp_nil, acond_ct, acond_cf, mp_one0, mp_one1, mp_one2, mp_one3, kcall_one, liveB_row, liveB_box, idx, cont, still, dies, lend, lendA, lendDies, snocs, SC.snoc, SC.app, meet, AV.cells, fillA, List.getD_cons_zero, List.getD_cons_succ, List.set_cons_zero, List.set_cons_succ, List.length_singleton, Nat.le_refl, Nat.lt_irrefl, Nat.reduceLT, Nat.reduceLeDiff, Option.map_some, Option.map_none, List.flatMap_nil, List.flatMap_cons, Nat.zero_add, BEq.rfl, kcall_two, mp_two0, mp_two1, mp_two2, mp_two3, mp_two4, aop_makeFunc, plainA, Bool.true_and, sl3, ty3, un3, sl78, ty78, un78, sl106, ty106, un106, sl104, ty104, un104, sl5, ty5, un5, sl2, ty2, un2, sl21, ty21, un21, sl4, ty4, un4, sl9, un9, sl24, ty24, un24, sl22, ty22, un22, sl42, ty42, un42, sl47, sl82, sl68, sl107, sl115, sl119, ty82, ty56, sl56, ty26, sl26, ty101, sl101, ty93, sl93, inR64, inRu64, inRu32, gm_impl_TracesOf, gs_impl_TracesOf_100, at_impl_IsFamily, lend_impl_IsFamily, gs_impl_TracesOf_106, at_impl_traces, lend_impl_traces, gs_impl_TracesOf_116, at_impl_isSetOf, lend_impl_isSetOf, Try.f23]
  refine ⟨fun hf => ?_, fun hf => ⟨by have := famB_bd hf; omega, fun hs => ?_, fun hs => ?_⟩⟩
  · obtain ⟨e1, e2, e3⟩ := tr_f (n := n) (xs := xs) (s := s) (.inl hf)
    rw [e1, e2, e3]
    exact afin_ofN [(1001001, 3, .ints .i64 [])] [2] rfl rfl (by simp only [resL, resV, resC, getE, putE, getB, setB, lifts, liftOne, liftC, liftK, killB, cellsOfB, List.length_cons, List.length_nil, List.nil_append, List.cons_append, Nat.reduceAdd, Nat.reduceEqDiff, ↓reduceIte, ty3, ty78, ty106, ty104, ty5, ty2, ty21, ty4, ty24, ty22, ty42, ty82, ty56, ty26, ty101, ty93]; rfl) (by simp [St.conv, St.bf, getE, putE, getB, cv, cvL, cvB, idx, still, pack, lifts, liftOne, liftC, liftK, killB, cellsOfB, setB]) (by simp [St.conv, St.bf, getE, putE, getB, cv, cvL, cvB, idx, still, pack, lifts, liftOne, liftC, liftK, killB, cellsOfB, setB])
  · obtain ⟨e1, e2, e3⟩ := tr_f (n := n) (xs := xs) (s := s) (.inr hs)
    rw [e1, e2, e3]
    exact afin_ofN [(1001001, 3, .ints .i64 [])] [2] rfl rfl (by simp only [resL, resV, resC, getE, putE, getB, setB, lifts, liftOne, liftC, liftK, killB, cellsOfB, List.length_cons, List.length_nil, List.nil_append, List.cons_append, Nat.reduceAdd, Nat.reduceEqDiff, ↓reduceIte, ty3, ty78, ty106, ty104, ty5, ty2, ty21, ty4, ty24, ty22, ty42, ty82, ty56, ty26, ty101, ty93]; rfl) (by simp [St.conv, St.bf, getE, putE, getB, cv, cvL, cvB, idx, still, pack, lifts, liftOne, liftC, liftK, killB, cellsOfB, setB]) (by simp [St.conv, St.bf, getE, putE, getB, cv, cvL, cvB, idx, still, pack, lifts, liftOne, liftC, liftK, killB, cellsOfB, setB])
  · obtain ⟨e1, e2, e3⟩ := tr_t hf hs
    rw [e1, e2, e3]
    exact ⟨hp1, afin_of [2] rfl (by simp only [resL, resV, resC, getE, putE, getB, setB, lifts, liftOne, liftC, liftK, killB, cellsOfB, List.length_cons, List.length_nil, List.nil_append, List.cons_append, Nat.reduceAdd, Nat.reduceEqDiff, ↓reduceIte, ty3, ty78, ty106, ty104, ty5, ty2, ty21, ty4, ty24, ty22, ty42, ty82, ty56, ty26, ty101, ty93]; rfl) (by simp [St.conv, St.bf, getE, putE, getB, cv, cvL, cvB, idx, still, pack, lifts, liftOne, liftC, liftK, killB, cellsOfB, setB]) (by simp [St.conv, St.bf, getE, putE, getB, cv, cvL, cvB, idx, still, pack, lifts, liftOne, liftC, liftK, killB, cellsOfB, setB])⟩
def lend_impl_TracesOf : List Nat := []
def sp_impl_TracesOf : List AV → List Bx → (AV → List Bx → Prop) → Prop
  | [.agg [.int .i64 n, .sl none (.ints .i64 xs)], .int .i64 s], [], K => (xs.length ≤ 1048576) ∧ K (.tup [.agg [.int .i64 (trN n xs s), .ref 0 (trO n xs s).length], .bool (trOk n xs s)]) [.row 3 (.ints .i64 (trO n xs s))]
  | _, _, _ => False
theorem at_impl_TracesOf {n : Int} {xs : List Int} {s : Int} {K : AV → List Bx → Prop} : sp_impl_TracesOf [.agg [.int .i64 n, .sl none (.ints .i64 xs)], .int .i64 s] [] K = ((xs.length ≤ 1048576) ∧ K (.tup [.agg [.int .i64 (trN n xs s), .ref 0 (trO n xs s).length], .bool (trOk n xs s)]) [.row 3 (.ints .i64 (trO n xs s))]) := id rfl
theorem ok_impl_TracesOf : ∀ args giv K, sp_impl_TracesOf args giv K → ∃ r outs, ARuns Try.prog 23 args giv r outs ∧ K r outs := by
  intro args giv K hk
  unfold sp_impl_TracesOf at hk
  split at hk
  · obtain ⟨hp1, hk⟩ := hk; exact ⟨_, _, runs_impl_TracesOf _ _ _ hp1, hk⟩
  · exact hk.elim
def oc1 (x : Int) : Int := band .u64 (x / 2 ^ (1 : Nat)) 6148914691236517205 + band .u64 x 6148914691236517205
def oc2 (x : Int) : Int := band .u64 (x / 2 ^ Int.toNat 2) 3689348814741910323 + band .u64 x 3689348814741910323
def oc3 (x : Int) : Int := x / 2 ^ Int.toNat 4 + x
def oc4 (x : Int) : Int := x + x / 2 ^ Int.toNat 8
def oc5 (x : Int) : Int := x + x / 2 ^ Int.toNat 16
def oc6 (x : Int) : Int := x + x / 2 ^ Int.toNat 32
theorem oc1_eq {x : Int} : oc1 x = band .u64 (x / 2 ^ (1 : Nat)) 6148914691236517205 + band .u64 x 6148914691236517205 := rfl
theorem oc2_eq {x : Int} : oc2 x = band .u64 (x / 2 ^ Int.toNat 2) 3689348814741910323 + band .u64 x 3689348814741910323 := rfl
theorem oc3_eq {x : Int} : oc3 x = x / 2 ^ Int.toNat 4 + x := rfl
theorem oc4_eq {x : Int} : oc4 x = x + x / 2 ^ Int.toNat 8 := rfl
theorem oc5_eq {x : Int} : oc5 x = x + x / 2 ^ Int.toNat 16 := rfl
theorem oc6_eq {x : Int} : oc6 x = x + x / 2 ^ Int.toNat 32 := rfl
def inU (x : Int) : Bool := decide (0 ≤ x) && decide (x < 9223372036854775807)
theorem inU_eq {x : Int} : (inU x = true) = (0 ≤ x ∧ x < 9223372036854775807) := by simp [inU]
def ocB (n : Nat) : Bool :=
  let a1 := oc1 n
  let a2 := oc2 a1
  let a3 := oc3 a2
  let b3 := band .u64 a3 1085102592571150095
  let a4 := oc4 b3
  let a5 := oc5 a4
  let a6 := oc6 a5
  inU a1 && inU a2 && inU a3 && inU b3 && inU a4 && inU a5 && inU a6 && decide (band .i64 a6 127 = pop n)
theorem oc_all : ∀ n, n < 1024 → ocB n = true := by decide +kernel

theorem is_math_bits_OnesCount64 : FnIs Try.prog 174 35 [.tmp 2] (Try.f174.body.getD .skip) := ⟨⟨Try.f174, by kernel_rfl, by kernel_rfl, by kernel_rfl, by kernel_rfl⟩, by kernel_rfl, by kernel_rfl⟩
def G_math_bits_OnesCount64 : Gm := Gm.none
theorem G_math_bits_OnesCount64_ok : G_math_bits_OnesCount64.ok Try.prog := Gm.none_ok
theorem gm_math_bits_OnesCount64 {r : List Oper} {n : Nat} : splB G_math_bits_OnesCount64 r n = true := rfl
set_option maxHeartbeats 1000000 in
set_option maxRecDepth 100000 in
theorem runs_math_bits_OnesCount64 (s : Int) (hp1 : 0 ≤ s ∧ s < 1024) : ARuns Try.prog 174 [.int .u64 s] [] (.int .i64 (popI s)) [] := by
  refine ARuns_bc G_math_bits_OnesCount64_ok is_math_bits_OnesCount64 (by simp) fun hl hlB => ?_
  simp only [kcode_at, kreg_at, bc_skip, bc_seq, bc_cond, bc_block, bc_exit, bc_ret, bc_region, lkX_cons, acond_tmp, aCase_t, aCase_f, aCase_b, afin_nil, cvE_some, resL, resV, resC, cv, cvL, pack, entryE, inPrm, entryB, inPrms, bxCells, Option.getD_some, acall_clo, add_sp, add_lend, kcall_nil, selOf, selC, selA, inArgs, inA, inL, okA, okL, okBx, okC, outA, outL, outU, outB, deep, deepL, boxIds, AV.bid, List.map_nil, List.map_cons, List.all_nil, List.all_cons, BEq.rfl, Bool.and_true, Bool.true_and, List.append_nil, aops_nil, aops_plain, aops_guard, kont_at, yes_at, no_at, aop_move, aop_assign, aop_pick, aop_alloc, aop_box, aop_build, aop_buildSlice, aop_load, aop_store, aop_nilCheck, aop_binOp, aop_unOp, aop_convert, aop_fieldAddr, aop_indexAddr, aop_slice, aop_extract, aop_makeSlice, aop_len, aop_max, aMax_int, slTy2, SC0, aop_append, aop_call, evalE, getE, putE, getB, setB, St.put, setsB, nth, AV.ofV, AV.blk, AV.bid, AV.one, SC.len, SC.get, List.length_nil, List.length_cons, Nat.reduceEqDiff, Nat.reduceAdd, ↓reduceIte, true_and, and_true, Bool.true_eq_false, Bool.false_eq_true, false_imp_iff, true_imp_iff, decide_eq_true_eq, Bool.not_eq_true', Bool.not_eq_false', decide_eq_false_iff_not, Option.isSome, List.nil_append, List.cons_append, aGuardO_some, aGuard_tt, aGuard_tf, aGuard_ft, aGuard_ff, aGuard_tb, aGuard_fb, aGuard_ts, aGuard_fs, aPick_b, aPick_t, aPick_f, aAlloc_one, aAlloc_flat, aBox_some, aBuild_flat, aInt_add, aBin_add, aInt_sub, aBin_sub, aInt_mul, aBin_mul, aInt_quo, aBin_quo, aInt_rem, aBin_rem, aInt_and, aBin_and, aInt_or, aBin_or, aInt_xor, aBin_xor, aInt_andNot, aBin_andNot, aInt_eql, aBin_eql, aInt_neq, aBin_neq, aInt_lss, aBin_lss, aInt_leq, aBin_leq, aInt_gtr, aBin_gtr, aInt_geq, aBin_geq, aBin_shl, aBin_shr, aShift_shl, aShift_shr, aBin_be1, aBin_bn1, aBin_be2, aBin_bn2, aBin_be3, aBin_bn3, aBin_be4, aBin_bn4, aBin_be5, aBin_bn5, aBin_be6, aBin_bn6, aBin_be7, aBin_bn7, aBin_be8, aBin_bn8, aBin_be9, aBin_bn9, aUn_b, aUn_t, aUn_f, aUn_i, aNil_ptr, aNil_pv, aConv_int, aField_ptr, aField_pv, aIdx_sl, aIdx_prm, aIdx_row, aIdx_drow, aMake_i, aMake_s, aExtr_tup, aLen_ref, aLen_nil, aLen_sl, aLen_prm, aLen_str, aBuildL_some, aBuildS_some, aLoad_1b, aLoad_1d, aLoad_fb, aLoad_fd, aLoad_1p, aLoad_fp, aLoad_ep, aLoad_rr, aLoad_rd, aStore_1, aStore_f, aStore_r, aApp_some, aAppend_nil, aAppend_ref, aSlice_h, aSlice_l, aSlice_lh, aop_slice3, aSlice3_r, aop_field, aFld_agg, aBinW_f, aBinW_t, aWrap_mul, aWrap_add, isW_tmp, isW_mulc, isW_addc, isW_sub, isW_quo, isW_rem, isW_and, isW_or, isW_xor, isW_andNot, isW_shl, isW_shr, isW_eql, isW_neq, isW_lss, isW_leq, isW_gtr, isW_geq, Int.reduceLT, aBinW_dF, aBinW_dT, bc_draw, kregD_at, aopsD_nil, aopsD_plain, aopsD_guard, kontD_at, splW_t, splW_f, contD_at, yesD_at, noD_at, splD_bool, splD_undef, splD_skip, splD_int, splD_tt, splD_ff, splD_str, splD_nil, splD_sl, splD_prm, splD_ref, splD_ptr, splD_rp, splD_ep, splD_pv, splD_agg, splD_tup, splD_clo, gD_tt, gD_tf, gD_ft, gD_ff, gD_ts, gD_fs, slotO_some, addTr_nil, addTr_cons, memQ_nil, memQ_cons, clash_nil, clash_cons, regC_none, regC_nil, regC_cons, regR_nil, regR_cons, Int.toNat_zero, Int.toNat_one, rng0, rng1, rng2, rng3, rng4, SC.take, SC.drop, mp_nil, acond_ct, acond_cf, mp_one0, mp_one1, mp_one2, mp_one3, kcall_one, liveB_row, liveB_box, idx, cont, still, dies, lend, lendA, lendDies, snocs, SC.snoc, SC.app, meet, AV.cells, fillA, List.getD_cons_zero, List.getD_cons_succ, List.set_cons_zero, List.set_cons_succ, List.length_singleton, Nat.le_refl, Nat.lt_irrefl, Nat.reduceLT, Nat.reduceLeDiff, Option.map_some, Option.map_none, List.flatMap_nil, List.flatMap_cons, Nat.zero_add, BEq.rfl, kcall_two, mp_two0, mp_two1, mp_two2, mp_two3, mp_two4, aop_makeFunc, plainA, Bool.true_and, sl3, ty3, un3, sl78, ty78, un78, sl106, ty106, un106, sl104, ty104, un104, sl5, ty5, un5, sl2, ty2, un2, sl21, ty21, un21, sl4, ty4, un4, sl9, un9, sl24, ty24, un24, sl22, ty22, un22, sl42, ty42, un42, sl47, sl82, sl68, sl107, sl115, sl119, ty82, ty56, sl56, ty26, sl26, ty101, sl101, ty93, sl93, inR64, inRu64, inRu32, gm_math_bits_OnesCount64, Try.f174]
  obtain ⟨n, rfl⟩ := Int.eq_ofNat_of_zero_le hp1.1
  have h := oc_all n (by omega)
  simp only [ocB, Bool.and_eq_true, inU_eq, decide_eq_true_eq] at h
  simp only [← oc1_eq, ← oc2_eq, ← oc3_eq, ← oc4_eq, ← oc5_eq, ← oc6_eq, IntKind.bits]
  have e : popI n = pop n := by simp [popI]
  rw [e, ← h.2]
  (repeat' (first | apply And.intro | intro _)) <;> try (first | omega | trivial)
def lend_math_bits_OnesCount64 : List Nat := []
def sp_math_bits_OnesCount64 : List AV → List Bx → (AV → List Bx → Prop) → Prop
  | [.int .u64 s], [], K => (0 ≤ s ∧ s < 1024) ∧ K (.int .i64 (popI s)) []
  | _, _, _ => False
theorem at_math_bits_OnesCount64 {s : Int} {K : AV → List Bx → Prop} : sp_math_bits_OnesCount64 [.int .u64 s] [] K = ((0 ≤ s ∧ s < 1024) ∧ K (.int .i64 (popI s)) []) := id rfl
theorem ok_math_bits_OnesCount64 : ∀ args giv K, sp_math_bits_OnesCount64 args giv K → ∃ r outs, ARuns Try.prog 174 args giv r outs ∧ K r outs := by
  intro args giv K hk
  unfold sp_math_bits_OnesCount64 at hk
  split at hk
  · obtain ⟨hp1, hk⟩ := hk; exact ⟨_, _, runs_math_bits_OnesCount64 _ hp1, hk⟩
  · exact hk.elim
theorem is_math_bits_OnesCount : FnIs Try.prog 161 8 [.tmp 2] (Try.f161.body.getD .skip) := ⟨⟨Try.f161, by kernel_rfl, by kernel_rfl, by kernel_rfl, by kernel_rfl⟩, by kernel_rfl, by kernel_rfl⟩
def G_math_bits_OnesCount : Gm := (Gm.none.add 174 lend_math_bits_OnesCount64 sp_math_bits_OnesCount64)
theorem G_math_bits_OnesCount_ok : G_math_bits_OnesCount.ok Try.prog := (Gm.add_ok Gm.none_ok ok_math_bits_OnesCount64)
theorem gm_math_bits_OnesCount {r : List Oper} {n : Nat} : splB G_math_bits_OnesCount r n = true := rfl
theorem gs_math_bits_OnesCount_174 : G_math_bits_OnesCount.sp 174 = sp_math_bits_OnesCount64 ∧ G_math_bits_OnesCount.lend 174 = lend_math_bits_OnesCount64 := ⟨rfl, rfl⟩
set_option maxHeartbeats 1000000 in
set_option maxRecDepth 100000 in
theorem runs_math_bits_OnesCount (s : Int) (hp1 : 0 ≤ s ∧ s < 1024) : ARuns Try.prog 161 [.int .u64 s] [] (.int .i64 (popI s)) [] := by
  refine ARuns_bc G_math_bits_OnesCount_ok is_math_bits_OnesCount (by simp) fun hl hlB => ?_
  simp only [kcode_at, kreg_at, bc_skip, bc_seq, bc_cond, bc_block, bc_exit, bc_ret, bc_region, lkX_cons, acond_tmp, aCase_t, aCase_f, aCase_b, afin_nil, cvE_some, resL, resV, resC, cv, cvL, pack, entryE, inPrm, entryB, inPrms, bxCells, Option.getD_some, acall_clo, add_sp, add_lend, kcall_nil, selOf, selC, selA, inArgs, inA, inL, okA, okL, okBx, okC, outA, outL, outU, outB, deep, deepL, boxIds, AV.bid, List.map_nil, List.map_cons, List.all_nil, List.all_cons, BEq.rfl, Bool.and_true, Bool.true_and, List.append_nil, aops_nil, aops_plain, aops_guard, kont_at, yes_at, no_at, aop_move, aop_assign, aop_pick, aop_alloc, aop_box, aop_build, aop_buildSlice, aop_load, aop_store, aop_nilCheck, aop_binOp, aop_unOp, aop_convert, aop_fieldAddr, aop_indexAddr, aop_slice, aop_extract, aop_makeSlice, aop_len, aop_max, aMax_int, slTy2, SC0, aop_append, aop_call, evalE, getE, putE, getB, setB, St.put, setsB, nth, AV.ofV, AV.blk, AV.bid, AV.one, SC.len, SC.get, List.length_nil, List.length_cons, Nat.reduceEqDiff, Nat.reduceAdd, ↓reduceIte, true_and, and_true, Bool.true_eq_false, Bool.false_eq_true, false_imp_iff, true_imp_iff, decide_eq_true_eq, Bool.not_eq_true', Bool.not_eq_false', decide_eq_false_iff_not, Option.isSome, List.nil_append, List.cons_append, aGuardO_some, aGuard_tt, aGuard_tf, aGuard_ft, aGuard_ff, aGuard_tb, aGuard_fb, aGuard_ts, aGuard_fs, aPick_b, aPick_t, aPick_f, aAlloc_one, aAlloc_flat, aBox_some, aBuild_flat, aInt_add, aBin_add, aInt_sub, aBin_sub, aInt_mul, aBin_mul, aInt_quo, aBin_quo, aInt_rem, aBin_rem, aInt_and, aBin_and, aInt_or, aBin_or, aInt_xor, aBin_xor, aInt_andNot, aBin_andNot, aInt_eql, aBin_eql, aInt_neq, aBin_neq, aInt_lss, aBin_lss, aInt_leq, aBin_leq, aInt_gtr, aBin_gtr, aInt_geq, aBin_geq, aBin_shl, aBin_shr, aShift_shl, aShift_shr, aBin_be1, aBin_bn1, aBin_be2, aBin_bn2, aBin_be3, aBin_bn3, aBin_be4, aBin_bn4, aBin_be5, aBin_bn5, aBin_be6, aBin_bn6, aBin_be7, aBin_bn7, aBin_be8, aBin_bn8, aBin_be9, aBin_bn9, aUn_b, aUn_t, aUn_f, aUn_i, aNil_ptr, aNil_pv, aConv_int, aField_ptr, aField_pv, aIdx_sl, aIdx_prm, aIdx_row, aIdx_drow, aMake_i, aMake_s, aExtr_tup, aLen_ref, aLen_nil, aLen_sl, aLen_prm, aLen_str, aBuildL_some, aBuildS_some, aLoad_1b, aLoad_1d, aLoad_fb, aLoad_fd, aLoad_1p, aLoad_fp, aLoad_ep, aLoad_rr, aLoad_rd, aStore_1, aStore_f, aStore_r, aApp_some, aAppend_nil, aAppend_ref, aSlice_h, aSlice_l, aSlice_lh, aop_slice3, aSlice3_r, aop_field, aFld_agg, aBinW_f, aBinW_t, aWrap_mul, aWrap_add, isW_tmp, isW_mulc, isW_addc, isW_sub, isW_quo, isW_rem, isW_and, isW_or, isW_xor, isW_andNot, isW_shl, isW_shr, isW_eql, isW_neq, isW_lss, isW_leq, isW_gtr, isW_geq, Int.reduceLT, aBinW_dF, aBinW_dT, bc_draw, kregD_at, aopsD_nil, aopsD_plain, aopsD_guard, kontD_at, splW_t, splW_f, contD_at, yesD_at, noD_at, splD_bool, splD_undef, splD_skip, splD_int, splD_tt, splD_ff, splD_str, splD_nil, splD_sl, splD_prm, splD_ref, splD_ptr, splD_rp, splD_ep, splD_pv, splD_agg, splD_tup, splD_clo, gD_tt, gD_tf, gD_ft, gD_ff, gD_ts, gD_fs, slotO_some, addTr_nil, addTr_cons, memQ_nil, memQ_cons, clash_nil, clash_cons, regC_none, regC_nil, regC_cons, regR_nil, regR_cons, Int.toNat_zero, Int.toNat_one, rng0, rng1, rng2, rng3, rng4, SC.take, SC.drop, mp_nil, acond_ct, acond_cf, mp_one0, mp_one1, mp_one2, mp_one3, kcall_one, liveB_row, liveB_box, idx, cont, still, dies, lend, lendA, lendDies, snocs, SC.snoc, SC.app, meet, AV.cells, fillA, List.getD_cons_zero, List.getD_cons_succ, List.set_cons_zero, List.set_cons_succ, List.length_singleton, Nat.le_refl, Nat.lt_irrefl, Nat.reduceLT, Nat.reduceLeDiff, Option.map_some, Option.map_none, List.flatMap_nil, List.flatMap_cons, Nat.zero_add, BEq.rfl, kcall_two, mp_two0, mp_two1, mp_two2, mp_two3, mp_two4, aop_makeFunc, plainA, Bool.true_and, sl3, ty3, un3, sl78, ty78, un78, sl106, ty106, un106, sl104, ty104, un104, sl5, ty5, un5, sl2, ty2, un2, sl21, ty21, un21, sl4, ty4, un4, sl9, un9, sl24, ty24, un24, sl22, ty22, un22, sl42, ty42, un42, sl47, sl82, sl68, sl107, sl115, sl119, ty82, ty56, sl56, ty26, sl26, ty101, sl101, ty93, sl93, inR64, inRu64, inRu32, gm_math_bits_OnesCount, gs_math_bits_OnesCount_174, at_math_bits_OnesCount64, lend_math_bits_OnesCount64, Try.f161]
  exact hp1
def lend_math_bits_OnesCount : List Nat := []
def sp_math_bits_OnesCount : List AV → List Bx → (AV → List Bx → Prop) → Prop
  | [.int .u64 s], [], K => (0 ≤ s ∧ s < 1024) ∧ K (.int .i64 (popI s)) []
  | _, _, _ => False
theorem at_math_bits_OnesCount {s : Int} {K : AV → List Bx → Prop} : sp_math_bits_OnesCount [.int .u64 s] [] K = ((0 ≤ s ∧ s < 1024) ∧ K (.int .i64 (popI s)) []) := id rfl
theorem ok_math_bits_OnesCount : ∀ args giv K, sp_math_bits_OnesCount args giv K → ∃ r outs, ARuns Try.prog 161 args giv r outs ∧ K r outs := by
  intro args giv K hk
  unfold sp_math_bits_OnesCount at hk
  split at hk
  · obtain ⟨hp1, hk⟩ := hk; exact ⟨_, _, runs_math_bits_OnesCount _ hp1, hk⟩
  · exact hk.elim
theorem is_impl_sizeOf : FnIs Try.prog 104 6 [.tmp 2] (Try.f104.body.getD .skip) := ⟨⟨Try.f104, by kernel_rfl, by kernel_rfl, by kernel_rfl, by kernel_rfl⟩, by kernel_rfl, by kernel_rfl⟩
def G_impl_sizeOf : Gm := (Gm.none.add 161 lend_math_bits_OnesCount sp_math_bits_OnesCount)
theorem G_impl_sizeOf_ok : G_impl_sizeOf.ok Try.prog := (Gm.add_ok Gm.none_ok ok_math_bits_OnesCount)
theorem gm_impl_sizeOf {r : List Oper} {n : Nat} : splB G_impl_sizeOf r n = true := rfl
theorem gs_impl_sizeOf_161 : G_impl_sizeOf.sp 161 = sp_math_bits_OnesCount ∧ G_impl_sizeOf.lend 161 = lend_math_bits_OnesCount := ⟨rfl, rfl⟩
set_option maxHeartbeats 1000000 in
set_option maxRecDepth 100000 in
theorem runs_impl_sizeOf (s : Int) (hp1 : 0 ≤ s ∧ s < 1024) : ARuns Try.prog 104 [.int .i64 s] [] (.int .i64 (popI s)) [] := by
  refine ARuns_bc G_impl_sizeOf_ok is_impl_sizeOf (by simp) fun hl hlB => ?_
  simp only [kcode_at, kreg_at, bc_skip, bc_seq, bc_cond, bc_block, bc_exit, bc_ret, bc_region, lkX_cons, acond_tmp, aCase_t, aCase_f, aCase_b, afin_nil, cvE_some, resL, resV, resC, cv, cvL, pack, entryE, inPrm, entryB, inPrms, bxCells, Option.getD_some, acall_clo, add_sp, add_lend, kcall_nil, selOf, selC, selA, inArgs, inA, inL, okA, okL, okBx, okC, outA, outL, outU, outB, deep, deepL, boxIds, AV.bid, List.map_nil, List.map_cons, List.all_nil, List.all_cons, BEq.rfl, Bool.and_true, Bool.true_and, List.append_nil, aops_nil, aops_plain, aops_guard, kont_at, yes_at, no_at, aop_move, aop_assign, aop_pick, aop_alloc, aop_box, aop_build, aop_buildSlice, aop_load, aop_store, aop_nilCheck, aop_binOp, aop_unOp, aop_convert, aop_fieldAddr, aop_indexAddr, aop_slice, aop_extract, aop_makeSlice, aop_len, aop_max, aMax_int, slTy2, SC0, aop_append, aop_call, evalE, getE, putE, getB, setB, St.put, setsB, nth, AV.ofV, AV.blk, AV.bid, AV.one, SC.len, SC.get, List.length_nil, List.length_cons, Nat.reduceEqDiff, Nat.reduceAdd, ↓reduceIte, true_and, and_true, Bool.true_eq_false, Bool.false_eq_true, false_imp_iff, true_imp_iff, decide_eq_true_eq, Bool.not_eq_true', Bool.not_eq_false', decide_eq_false_iff_not, Option.isSome, List.nil_append, List.cons_append, aGuardO_some, aGuard_tt, aGuard_tf, aGuard_ft, aGuard_ff, aGuard_tb, aGuard_fb, aGuard_ts, aGuard_fs, aPick_b, aPick_t, aPick_f, aAlloc_one, aAlloc_flat, aBox_some, aBuild_flat, aInt_add, aBin_add, aInt_sub, aBin_sub, aInt_mul, aBin_mul, aInt_quo, aBin_quo, aInt_rem, aBin_rem, aInt_and, aBin_and, aInt_or, aBin_or, aInt_xor, aBin_xor, aInt_andNot, aBin_andNot, aInt_eql, aBin_eql, aInt_neq, aBin_neq, aInt_lss, aBin_lss, aInt_leq, aBin_leq, aInt_gtr, aBin_gtr, aInt_geq, aBin_geq, aBin_shl, aBin_shr, aShift_shl, aShift_shr, aBin_be1, aBin_bn1, aBin_be2, aBin_bn2, aBin_be3, aBin_bn3, aBin_be4, aBin_bn4, aBin_be5, aBin_bn5, aBin_be6, aBin_bn6, aBin_be7, aBin_bn7, aBin_be8, aBin_bn8, aBin_be9, aBin_bn9, aUn_b, aUn_t, aUn_f, aUn_i, aNil_ptr, aNil_pv, aConv_int, aField_ptr, aField_pv, aIdx_sl, aIdx_prm, aIdx_row, aIdx_drow, aMake_i, aMake_s, aExtr_tup, aLen_ref, aLen_nil, aLen_sl, aLen_prm, aLen_str, aBuildL_some, aBuildS_some, aLoad_1b, aLoad_1d, aLoad_fb, aLoad_fd, aLoad_1p, aLoad_fp, aLoad_ep, aLoad_rr, aLoad_rd, aStore_1, aStore_f, aStore_r, aApp_some, aAppend_nil, aAppend_ref, aSlice_h, aSlice_l, aSlice_lh, aop_slice3, aSlice3_r, aop_field, aFld_agg, aBinW_f, aBinW_t, aWrap_mul, aWrap_add, isW_tmp, isW_mulc, isW_addc, isW_sub, isW_quo, isW_rem, isW_and, isW_or, isW_xor, isW_andNot, isW_shl, isW_shr, isW_eql, isW_neq, isW_lss, isW_leq, isW_gtr, isW_geq, Int.reduceLT, aBinW_dF, aBinW_dT, bc_draw, kregD_at, aopsD_nil, aopsD_plain, aopsD_guard, kontD_at, splW_t, splW_f, contD_at, yesD_at, noD_at, splD_bool, splD_undef, splD_skip, splD_int, splD_tt, splD_ff, splD_str, splD_nil, splD_sl, splD_prm, splD_ref, splD_ptr, splD_rp, splD_ep, splD_pv, splD_agg, splD_tup, splD_clo, gD_tt, gD_tf, gD_ft, gD_ff, gD_ts, gD_fs, slotO_some, addTr_nil, addTr_cons, memQ_nil, memQ_cons, clash_nil, clash_cons, regC_none, regC_nil, regC_cons, regR_nil, regR_cons, Int.toNat_zero, Int.toNat_one, rng0, rng1, rng2, rng3, rng4, SC.take, SC.drop, mp_nil, acond_ct, acond_cf, mp_one0, mp_one1, mp_one2, mp_one3, kcall_one, liveB_row, liveB_box, idx, cont, still, dies, lend, lendA, lendDies, snocs, SC.snoc, SC.app, meet, AV.cells, fillA, List.getD_cons_zero, List.getD_cons_succ, List.set_cons_zero, List.set_cons_succ, List.length_singleton, Nat.le_refl, Nat.lt_irrefl, Nat.reduceLT, Nat.reduceLeDiff, Option.map_some, Option.map_none, List.flatMap_nil, List.flatMap_cons, Nat.zero_add, BEq.rfl, kcall_two, mp_two0, mp_two1, mp_two2, mp_two3, mp_two4, aop_makeFunc, plainA, Bool.true_and, sl3, ty3, un3, sl78, ty78, un78, sl106, ty106, un106, sl104, ty104, un104, sl5, ty5, un5, sl2, ty2, un2, sl21, ty21, un21, sl4, ty4, un4, sl9, un9, sl24, ty24, un24, sl22, ty22, un22, sl42, ty42, un42, sl47, sl82, sl68, sl107, sl115, sl119, ty82, ty56, sl56, ty26, sl26, ty101, sl101, ty93, sl93, inR64, inRu64, inRu32, gm_impl_sizeOf, gs_impl_sizeOf_161, at_math_bits_OnesCount, lend_math_bits_OnesCount, Try.f104]
  (repeat' (first | apply And.intro | intro _)) <;> try (first | omega | trivial)
def lend_impl_sizeOf : List Nat := []
def sp_impl_sizeOf : List AV → List Bx → (AV → List Bx → Prop) → Prop
  | [.int .i64 s], [], K => (0 ≤ s ∧ s < 1024) ∧ K (.int .i64 (popI s)) []
  | _, _, _ => False
theorem at_impl_sizeOf {s : Int} {K : AV → List Bx → Prop} : sp_impl_sizeOf [.int .i64 s] [] K = ((0 ≤ s ∧ s < 1024) ∧ K (.int .i64 (popI s)) []) := id rfl
theorem ok_impl_sizeOf : ∀ args giv K, sp_impl_sizeOf args giv K → ∃ r outs, ARuns Try.prog 104 args giv r outs ∧ K r outs := by
  intro args giv K hk
  unfold sp_impl_sizeOf at hk
  split at hk
  · obtain ⟨hp1, hk⟩ := hk; exact ⟨_, _, runs_impl_sizeOf _ hp1, hk⟩
  · exact hk.elim
end Go.Proofs.Ytbookhehpebcmaa
