import Derived.Test.YtdnhlfbcgpicoaaA28
namespace Go.Proofs.Ytdnhlfbcgpicoaa
open AM
set_option linter.unusedSimpArgs false
set_option linter.unusedVariables false
theorem sl3 : slTy Try.prog 3 = none := by kernel_rfl
theorem ty3 : tyOf Try.prog 3 = .one (.int .i64 0) := by kernel_rfl
theorem un3 : Try.prog.underlying 3 = some (.int .i64) := by kernel_rfl
theorem sl37 : slTy Try.prog 37 = none := by kernel_rfl
theorem ty37 : tyOf Try.prog 37 = .one (.int .u64 0) := by kernel_rfl
theorem un37 : Try.prog.underlying 37 = some (.int .u64) := by kernel_rfl
theorem sl44 : slTy Try.prog 44 = none := by kernel_rfl
theorem ty44 : tyOf Try.prog 44 = .one (.int .u64 0) := by kernel_rfl
theorem un44 : Try.prog.underlying 44 = some (.int .u64) := by kernel_rfl
theorem sl42 : slTy Try.prog 42 = none := by kernel_rfl
theorem ty42 : tyOf Try.prog 42 = .one (.int .u32 0) := by kernel_rfl
theorem un42 : Try.prog.underlying 42 = some (.int .u32) := by kernel_rfl
theorem sl5 : slTy Try.prog 5 = none := by kernel_rfl
theorem ty5 : tyOf Try.prog 5 = .one (.int .u8 0) := by kernel_rfl
theorem un5 : Try.prog.underlying 5 = some (.int .u8) := by kernel_rfl
theorem sl2 : slTy Try.prog 2 = none := by kernel_rfl
theorem ty2 : tyOf Try.prog 2 = .one (.int .i64 0) := by kernel_rfl
theorem un2 : Try.prog.underlying 2 = some (.int .i64) := by kernel_rfl
theorem sl21 : slTy Try.prog 21 = none := by kernel_rfl
theorem ty21 : tyOf Try.prog 21 = .one (.int .i32 0) := by kernel_rfl
theorem un21 : Try.prog.underlying 21 = some (.int .i32) := by kernel_rfl
theorem sl4 : slTy Try.prog 4 = none := by kernel_rfl
theorem ty4 : tyOf Try.prog 4 = .one .ff := by kernel_rfl
theorem un4 : Try.prog.underlying 4 = some .bool := by kernel_rfl
theorem sl9 : slTy Try.prog 9 = none := by kernel_rfl
theorem un9 : Try.prog.underlying 9 = some .string := by kernel_rfl
theorem sl22 : slTy Try.prog 22 = some (3, .ints .i64 []) := by kernel_rfl
theorem ty22 : tyOf Try.prog 22 = .one .nil := by kernel_rfl
theorem un22 : Try.prog.underlying 22 = some (.slice 3) := by kernel_rfl
theorem inR64 {n : Int} : InR .i64 n = (-9223372036854775808 ≤ n ∧ n ≤ 9223372036854775807) := rfl
theorem inRu64 {n : Int} : InR .u64 n = (0 ≤ n ∧ n ≤ 18446744073709551615) := rfl
theorem inRu32 {n : Int} : InR .u32 n = (0 ≤ n ∧ n ≤ 4294967295) := rfl
def inB (n l m : Int) : Bool := decide (l ≤ n) && decide (n ≤ m)
theorem inB_t {n l m : Int} : (inB n l m = true) = (l ≤ n ∧ n ≤ m) := by simp [inB]
theorem inB_f {n l m : Int} : (inB n l m = false) = ¬ (l ≤ n ∧ n ≤ m) := by rw [← inB_t]; simp

def ch : Nat → Nat → Nat
  | _, 0 => 1
  | 0, _ + 1 => 0
  | n + 1, k + 1 => ch n k + ch n (k + 1)
theorem ch_mul : ∀ n k, ch (n + 1) (k + 1) * (k + 1) = ch n k * (n + 1)
  | 0, 0 => by simp [ch]
  | 0, k + 1 => by simp [ch]
  | n + 1, 0 => by have := ch_mul n 0; simp only [ch] at this ⊢; omega
  | n + 1, k + 1 => by
    have h1 := ch_mul n k
    have h2 := ch_mul n (k + 1)
    have e1 : ch (n + 2) (k + 2) = ch (n + 1) (k + 1) + ch (n + 1) (k + 2) := rfl
    have e2 : ch (n + 1) (k + 1) = ch n k + ch n (k + 1) := rfl
    rw [e1, Nat.add_mul, h2]
    have e3 : ch (n + 1) (k + 1) * (k + 1 + 1) = ch (n + 1) (k + 1) * (k + 1) + ch (n + 1) (k + 1) := by rw [Nat.mul_add, Nat.mul_one]
    have e4 : ch (n + 1) (k + 1) * (n + 1 + 1) = ch (n + 1) (k + 1) * (n + 1) + ch (n + 1) (k + 1) := by rw [Nat.mul_add, Nat.mul_one]
    rw [e3, e4, h1, e2, Nat.add_mul]; omega
theorem ch_next {n j : Nat} (h : j ≤ n) : ch n (j + 1) * (j + 1) = ch n j * (n - j) := by
  have h1 := ch_mul n j
  have e : ch (n + 1) (j + 1) = ch n j + ch n (j + 1) := rfl
  rw [e, Nat.add_mul] at h1
  have e2 : ch n j * (n + 1) = ch n j * (j + 1) + ch n j * (n - j) := by rw [← Nat.mul_add]; congr 1; omega
  omega
theorem ch_le : ∀ n k, ch n k ≤ 2 ^ n
  | 0, 0 => by simp [ch]
  | 0, k + 1 => by simp [ch]
  | n + 1, 0 => by simp only [ch]; exact Nat.one_le_two_pow
  | n + 1, k + 1 => by
    have h1 := ch_le n k
    have h2 := ch_le n (k + 1)
    simp only [ch]; rw [Nat.pow_succ]; omega
theorem ch_small {n : Nat} (h : n ≤ 20) (k : Nat) : ch n k ≤ 1048576 := Nat.le_trans (ch_le n k) (Nat.le_trans (Nat.pow_le_pow_right (by omega) h) (by decide))
def chooseI (n k : Int) : Int := if 0 ≤ k ∧ k ≤ n then (ch n.toNat k.toNat : Int) else 0
theorem tdivN {a b c : Nat} (hb : 0 < b) (h : c * b = a) : (a : Int).tdiv b = c := by
  have : (a : Int) = (c : Int) * (b : Int) := by rw [← h]; simp
  rw [this, Int.mul_tdiv_cancel _ (by omega)]
theorem ch_pow : ∀ n k, ch n k ≤ (n + 1) ^ k
  | 0, 0 => by simp [ch]
  | 0, k + 1 => by simp [ch]
  | n + 1, 0 => by simp [ch]
  | n + 1, k + 1 => by
    have h1 := ch_pow n k
    have h2 := ch_pow n (k + 1)
    have h3 : (n + 1) ^ k * (n + 2) ≤ (n + 2) ^ k * (n + 2) := Nat.mul_le_mul_right _ (Nat.pow_le_pow_left (by omega) k)
    simp only [ch]
    rw [Nat.pow_succ] at h2 ⊢
    have h4 : (n + 1) ^ k * (n + 2) = (n + 1) ^ k * (n + 1) + (n + 1) ^ k := by rw [← Nat.mul_succ]
    have e : n + 1 + 1 = n + 2 := rfl
    rw [e]
    omega
theorem pow_bd {n k : Nat} (hn : n ≤ 1100) (hk : k ≤ 6) : (n + 1) ^ k ≤ 1101 ^ k := Nat.pow_le_pow_left (by omega) k
theorem ch_bd {n k : Nat} (h : n ≤ 20 ∨ n ≤ 1100 ∧ k ≤ 6) : ch n k ≤ 2 ^ 61 := by
  rcases h with h | ⟨h1, h2⟩
  · have := ch_small h k; omega
  · have := ch_pow n k
    have h3 := pow_bd h1 h2
    have h4 : 1101 ^ k ≤ 1101 ^ 6 := Nat.pow_le_pow_right (by omega) h2
    have h5 : (1101 : Nat) ^ 6 ≤ 2 ^ 61 := by decide
    omega
theorem ch_bd5 {n k : Nat} (h : n ≤ 1100 ∧ k ≤ 5) : ch n k ≤ 1101 ^ 5 := by
  have := ch_pow n k
  have h3 := pow_bd h.1 (show k ≤ 6 by omega)
  have h4 : 1101 ^ k ≤ 1101 ^ 5 := Nat.pow_le_pow_right (by omega) h.2
  omega
theorem ch_mul_bd {n k x : Nat} (h : n ≤ 20 ∧ x ≤ 21 ∨ n ≤ 1100 ∧ k ≤ 5 ∧ x ≤ 1101) : ch n k * x ≤ 2 ^ 62 := by
  rcases h with ⟨h, hx⟩ | ⟨h1, h2, hx⟩
  · have := Nat.mul_le_mul (ch_small h k) hx; omega
  · have := Nat.mul_le_mul (ch_bd5 ⟨h1, h2⟩) hx
    have h5 : (1101 : Nat) ^ 5 * 1101 ≤ 2 ^ 62 := by decide
    omega
theorem ch_one : ∀ n, ch n 0 = 1
  | 0 => rfl
  | _ + 1 => rfl
theorem ch_zero_of : ∀ {n k}, n < k → ch n k = 0
  | 0, 0, h => by omega
  | 0, k + 1, _ => rfl
  | n + 1, 0, h => by omega
  | n + 1, k + 1, h => by simp only [ch]; rw [ch_zero_of (by omega), ch_zero_of (by omega)]
theorem ch_self : ∀ n, ch n n = 1
  | 0 => rfl
  | n + 1 => by simp only [ch]; rw [ch_self n, ch_zero_of (by omega)]
theorem ch_ge : ∀ {n k}, 1 ≤ k → k ≤ n → n + 1 ≤ ch n k + k
  | 0, k, h, h2 => by omega
  | n + 1, 0, h, _ => by omega
  | n + 1, 1, _, h2 => by
    simp only [ch]
    by_cases h : n = 0
    · subst h; simp [ch]
    · have := ch_ge (n := n) (k := 1) (by omega) (by omega)
      rw [Nat.zero_add]; omega
  | n + 1, k + 2, _, h2 => by
    simp only [ch]
    have h1 := ch_ge (n := n) (k := k + 1) (by omega) (by omega)
    by_cases h : k + 2 ≤ n
    · have := ch_ge (n := n) (k := k + 2) (by omega) h; omega
    · omega
theorem chooseI_nat {a j : Nat} (h : j ≤ a) : chooseI a j = (ch a j : Int) := by rw [chooseI, if_pos (by omega)]; simp

theorem getD_get {xs : List Int} {i : Nat} (h : i < xs.length) : xs.getD i 0 = xs[i] := by rw [List.getD_eq_getElem?_getD, List.getElem?_eq_getElem h]; rfl
theorem take_succ_getD {xs : List Int} {i : Nat} (h : i < xs.length) : xs.take (i + 1) = xs.take i ++ [xs.getD i 0] := by
  rw [List.take_add_one, List.getElem?_eq_getElem h, getD_get h]; rfl
theorem copy_step {xs : List Int} {i : Nat} (h : i < xs.length) : (xs.take i ++ List.replicate (xs.length - i) 0).set i (xs.getD i 0) = xs.take (i + 1) ++ List.replicate (xs.length - (i + 1)) 0 := by
  have e : (xs.take i).length = i := by rw [List.length_take]; omega
  obtain ⟨m, hm⟩ : ∃ m, xs.length - i = m + 1 := ⟨xs.length - i - 1, by omega⟩
  rw [List.set_append_right _ _ (by omega), e, Nat.sub_self, hm, List.replicate_succ, List.set_cons_zero, take_succ_getD h, show xs.length - (i + 1) = m by omega, List.append_assoc]; rfl
/-- Two lists, element by element. -/
theorem eq_of_get {xs ys : List Int} (hl : xs.length = ys.length) (h : ∀ i, i < xs.length → xs.getD i 0 = ys.getD i 0) : xs = ys := by
  apply List.ext_getElem hl
  intro i h1 h2
  have := h i h1
  rwa [getD_get h1, getD_get h2] at this

/-- From a on, the greatest whose next one is more than m. -/
def topA (m j a : Nat) : Nat := if h : a < 1050 ∧ ch (a + 1) j ≤ m then topA m j (a + 1) else a
termination_by 1050 - a
theorem topA_stop {m j a : Nat} (h : ¬ ch (a + 1) j ≤ m) : topA m j a = a := by
  rw [topA, dif_neg fun x => h x.2]
theorem topA_next {m j a : Nat} (h1 : a < 1050) (h : ch (a + 1) j ≤ m) : topA m j a = topA m j (a + 1) := by
  rw [topA, dif_pos ⟨h1, h⟩]
/-- The numbers of the cascade. -/
def casc : Nat → Nat → List Int
  | 0, _ => []
  | j + 1, m => if m = 0 then [] else (topA m (j + 1) (j + 1) : Int) :: casc j (m - ch (topA m (j + 1) (j + 1)) (j + 1))
theorem casc_zero {m : Nat} : casc 0 m = [] := rfl
theorem casc_none {j : Nat} : casc j 0 = [] := by cases j <;> simp [casc]
theorem casc_len : ∀ j m, (casc j m).length ≤ j
  | 0, _ => by simp [casc]
  | j + 1, m => by
    simp only [casc]; split
    · simp
    · simp only [List.length_cons]; have := casc_len j (m - ch (topA m (j + 1) (j + 1)) (j + 1)); omega
theorem step_bd {m j a : Nat} (hm : m ≤ 1000) (hj : 1 ≤ j ∧ j ≤ 6) (ha : j ≤ a + 1) (h : ch (a + 1) j ≤ m) : a < 1010 := by
  have := ch_ge (n := a + 1) (k := j) hj.1 (by omega); omega
def cascOk (m k : Int) : Bool := inB m 0 1000 && inB k 1 6
def cascL (m k : Int) : List Int := if cascOk m k = true then casc k.toNat m.toNat else []
theorem casc_f {m k : Int} (h : inB m 0 1000 = false ∨ inB k 1 6 = false) : cascOk m k = false ∧ cascL m k = [] := by
  have e : cascOk m k = false := by unfold cascOk; rcases h with h | h <;> rw [h] <;> simp
  exact ⟨e, by simp [cascL, e]⟩
theorem casc_t {m k : Int} (h1 : inB m 0 1000 = true) (h2 : inB k 1 6 = true) : cascOk m k = true ∧ cascL m k = casc k.toNat m.toNat := by
  have e : cascOk m k = true := by simp [cascOk, h1, h2]
  exact ⟨e, by simp [cascL, e]⟩
theorem cascL_len {m k : Int} : (cascL m k).length ≤ 6 := by
  unfold cascL; split
  · rename_i h
    simp only [cascOk, Bool.and_eq_true, inB_t] at h
    have := casc_len k.toNat m.toNat; omega
  · simp

/-- n numbers from k on. -/
def iotaI (k : Int) (n : Nat) : List Int := (List.range n).map fun (i : Nat) => k + (i : Int)
theorem iotaI_len {k : Int} {n : Nat} : (iotaI k n).length = n := by simp [iotaI]
theorem iotaI_get {k : Int} {n i : Nat} (h : i < n) : (iotaI k n).getD i 0 = k + i := by
  rw [List.getD_eq_getElem?_getD, iotaI, List.getElem?_map, List.getElem?_range h]; rfl
theorem iotaI_succ {k : Int} {n : Nat} : iotaI k (n + 1) = iotaI k n ++ [k + n] := by
  simp [iotaI, List.range_succ]
theorem mark_step {xs : List Int} {k : Int} {i : Nat} (h : i < xs.length) : (iotaI k i ++ xs.drop i).set i (k + i) = iotaI k (i + 1) ++ xs.drop (i + 1) := by
  rw [List.set_append_right _ _ (by rw [iotaI_len]; exact Nat.le_refl _), iotaI_len, Nat.sub_self, List.drop_eq_getElem_cons h, List.set_cons_zero, iotaI_succ, List.append_assoc]; rfl
/-- What is read back: the next number, if they are all there. -/
def heldI (xs : List Int) (k : Int) : Int := if xs = iotaI k xs.length then k + xs.length else -1
theorem heldI_f {xs : List Int} {k : Int} {i : Nat} (hi : i < xs.length) (h : ¬ xs.getD i 0 = k + i) : heldI xs k = -1 := by
  rw [heldI, if_neg]
  intro e
  have := iotaI_get (k := k) (n := xs.length) hi
  rw [← e] at this
  exact h this
theorem heldI_t {xs : List Int} {k : Int} (h : ∀ i, i < xs.length → xs.getD i 0 = k + i) : heldI xs k = k + xs.length := by
  rw [heldI, if_pos]
  exact eq_of_get iotaI_len.symm fun i hi => by rw [h i hi, iotaI_get hi]
theorem heldI_iota {k : Int} {n : Nat} : heldI (iotaI k n) k = k + n := by rw [heldI, iotaI_len, if_pos rfl]

theorem is_laws_eqIntS : FnIs Try.prog 12 26 [.tmp 4] (Try.f12.body.getD .skip) := ⟨⟨Try.f12, by kernel_rfl, by kernel_rfl, by kernel_rfl, by kernel_rfl⟩, by kernel_rfl, by kernel_rfl⟩
def G_laws_eqIntS : Gm := Gm.none
theorem G_laws_eqIntS_ok : G_laws_eqIntS.ok Try.prog := Gm.none_ok
set_option maxHeartbeats 1000000 in
set_option maxRecDepth 100000 in
theorem runs_laws_eqIntS (xs ys : List Int) : ARuns Try.prog 12 [.sl none (.ints .i64 xs), .sl none (.ints .i64 ys)] [] (.bool (decide (xs = ys))) [] := by
  refine ARuns_bc G_laws_eqIntS_ok is_laws_eqIntS (by simp) fun hl hlB => ?_
  simp only [kcode_at, kreg_at, bc_skip, bc_seq, bc_cond, bc_block, bc_exit, bc_ret, bc_region, lkX_cons, acond_tmp, aCase_t, aCase_f, aCase_b, afin_nil, cvE_some, resL, resV, cv, cvL, pack, entryE, inPrm, Option.getD_some, acall_clo, add_sp, add_lend, kcall_nil, selOf, selA, inArgs, inA, inL, okA, okL, okBx, okC, outA, outL, outU, outB, deep, deepL, boxIds, AV.bid, List.map_nil, List.map_cons, List.all_nil, List.all_cons, BEq.rfl, Bool.and_true, Bool.true_and, List.append_nil, aops_nil, aops_plain, aops_guard, kont_at, yes_at, no_at, aop_move, aop_assign, aop_pick, aop_alloc, aop_box, aop_build, aop_buildSlice, aop_load, aop_store, aop_nilCheck, aop_binOp, aop_unOp, aop_convert, aop_fieldAddr, aop_indexAddr, aop_slice, aop_extract, aop_makeSlice, aop_len, aop_max, aMax_int, slTy2, SC0, aop_append, aop_call, evalE, getE, putE, getB, setB, St.put, setsB, nth, AV.ofV, AV.blk, AV.bid, AV.one, SC.len, SC.get, List.length_nil, List.length_cons, Nat.reduceEqDiff, Nat.reduceAdd, ↓reduceIte, true_and, and_true, Bool.true_eq_false, Bool.false_eq_true, false_imp_iff, true_imp_iff, decide_eq_true_eq, Bool.not_eq_true', Bool.not_eq_false', decide_eq_false_iff_not, Option.isSome, List.nil_append, List.cons_append, aGuardO_some, aGuard_tt, aGuard_tf, aGuard_ft, aGuard_ff, aGuard_tb, aGuard_fb, aGuard_ts, aGuard_fs, aPick_b, aPick_t, aPick_f, aAlloc_one, aAlloc_flat, aBox_some, aBuild_flat, aInt_add, aBin_add, aInt_sub, aBin_sub, aInt_mul, aBin_mul, aInt_quo, aBin_quo, aInt_rem, aBin_rem, aInt_and, aBin_and, aInt_or, aBin_or, aInt_xor, aBin_xor, aInt_andNot, aBin_andNot, aInt_eql, aBin_eql, aInt_neq, aBin_neq, aInt_lss, aBin_lss, aInt_leq, aBin_leq, aInt_gtr, aBin_gtr, aInt_geq, aBin_geq, aBin_shl, aBin_shr, aShift_shl, aShift_shr, aBin_be1, aBin_bn1, aBin_be2, aBin_bn2, aBin_be3, aBin_bn3, aBin_be4, aBin_bn4, aBin_be5, aBin_bn5, aBin_be6, aBin_bn6, aBin_be7, aBin_bn7, aBin_be8, aBin_bn8, aBin_be9, aBin_bn9, aUn_b, aUn_t, aUn_f, aUn_i, aNil_ptr, aNil_pv, aConv_int, aField_ptr, aField_pv, aIdx_sl, aIdx_prm, aIdx_row, aIdx_drow, aMake_i, aMake_s, aExtr_tup, aLen_ref, aLen_nil, aLen_sl, aLen_prm, aLen_str, aBuildL_some, aBuildS_some, aLoad_1b, aLoad_1d, aLoad_fb, aLoad_fd, aLoad_1p, aLoad_fp, aLoad_ep, aLoad_rr, aLoad_rd, aStore_1, aStore_f, aStore_r, aApp_some, aAppend_nil, aAppend_ref, aSlice_h, aSlice_l, aSlice_lh, bc_draw, kregD_at, aopsD_nil, aopsD_plain, aopsD_guard, kontD_at, contD_at, yesD_at, noD_at, splD_bool, splD_undef, splD_skip, splD_int, splD_tt, splD_ff, splD_str, splD_nil, splD_sl, splD_prm, splD_ref, splD_ptr, splD_rp, splD_ep, splD_pv, splD_agg, splD_tup, splD_clo, gD_tt, gD_tf, gD_ft, gD_ff, gD_ts, gD_fs, slotO_some, addTr_nil, addTr_cons, memQ_nil, memQ_cons, clash_nil, clash_cons, regC_none, regC_nil, regC_cons, regR_nil, regR_cons, rng0, rng1, rng2, rng3, rng4, SC.take, SC.drop, mp_nil, acond_ct, acond_cf, mp_one0, mp_one1, mp_one2, mp_one3, kcall_one, liveB_row, liveB_box, idx, cont, still, dies, lend, lendA, lendDies, snocs, SC.snoc, SC.app, meet, AV.cells, fillA, List.getD_cons_zero, List.getD_cons_succ, List.set_cons_zero, List.set_cons_succ, List.length_singleton, Nat.le_refl, Nat.lt_irrefl, Nat.reduceLT, Nat.reduceLeDiff, Option.map_some, Option.map_none, List.flatMap_nil, List.flatMap_cons, Nat.zero_add, BEq.rfl, sl3, ty3, un3, sl37, ty37, un37, sl44, ty44, un44, sl42, ty42, un42, sl5, ty5, un5, sl2, ty2, un2, sl21, ty21, un21, sl4, ty4, un4, sl9, un9, sl22, ty22, un22, inR64, inRu64, inRu32, Try.f12]
  simp only [lensA, lenA, lenSC] at hl
  refine ⟨fun h => ?_, fun h => ?_⟩
  · congr 1; symm; simp; intro e; rw [e] at h; exact h rfl
  replace h : xs.length = ys.length := by omega
  refine bc_loop (fun i : Nat => i ≤ xs.length ∧ ∀ k, k < i → xs.getD k 0 = ys.getD k 0)
    (fun i => ⟨[(0, .prm 0 (.ints .i64 xs)), (1, .prm 1 (.ints .i64 ys)), (5, .int .i64 i)], []⟩) (fun i => xs.length - i)
    [0, 1, 5] [] 0 rfl rfl (by simp) fun i ⟨h1, h2⟩ => ?_
  simp only [kcode_at, kreg_at, bc_skip, bc_seq, bc_cond, bc_block, bc_exit, bc_ret, bc_region, lkX_cons, acond_tmp, aCase_t, aCase_f, aCase_b, afin_nil, cvE_some, resL, resV, cv, cvL, pack, entryE, inPrm, Option.getD_some, acall_clo, add_sp, add_lend, kcall_nil, selOf, selA, inArgs, inA, inL, okA, okL, okBx, okC, outA, outL, outU, outB, deep, deepL, boxIds, AV.bid, List.map_nil, List.map_cons, List.all_nil, List.all_cons, BEq.rfl, Bool.and_true, Bool.true_and, List.append_nil, aops_nil, aops_plain, aops_guard, kont_at, yes_at, no_at, aop_move, aop_assign, aop_pick, aop_alloc, aop_box, aop_build, aop_buildSlice, aop_load, aop_store, aop_nilCheck, aop_binOp, aop_unOp, aop_convert, aop_fieldAddr, aop_indexAddr, aop_slice, aop_extract, aop_makeSlice, aop_len, aop_max, aMax_int, slTy2, SC0, aop_append, aop_call, evalE, getE, putE, getB, setB, St.put, setsB, nth, AV.ofV, AV.blk, AV.bid, AV.one, SC.len, SC.get, List.length_nil, List.length_cons, Nat.reduceEqDiff, Nat.reduceAdd, ↓reduceIte, true_and, and_true, Bool.true_eq_false, Bool.false_eq_true, false_imp_iff, true_imp_iff, decide_eq_true_eq, Bool.not_eq_true', Bool.not_eq_false', decide_eq_false_iff_not, Option.isSome, List.nil_append, List.cons_append, aGuardO_some, aGuard_tt, aGuard_tf, aGuard_ft, aGuard_ff, aGuard_tb, aGuard_fb, aGuard_ts, aGuard_fs, aPick_b, aPick_t, aPick_f, aAlloc_one, aAlloc_flat, aBox_some, aBuild_flat, aInt_add, aBin_add, aInt_sub, aBin_sub, aInt_mul, aBin_mul, aInt_quo, aBin_quo, aInt_rem, aBin_rem, aInt_and, aBin_and, aInt_or, aBin_or, aInt_xor, aBin_xor, aInt_andNot, aBin_andNot, aInt_eql, aBin_eql, aInt_neq, aBin_neq, aInt_lss, aBin_lss, aInt_leq, aBin_leq, aInt_gtr, aBin_gtr, aInt_geq, aBin_geq, aBin_shl, aBin_shr, aShift_shl, aShift_shr, aBin_be1, aBin_bn1, aBin_be2, aBin_bn2, aBin_be3, aBin_bn3, aBin_be4, aBin_bn4, aBin_be5, aBin_bn5, aBin_be6, aBin_bn6, aBin_be7, aBin_bn7, aBin_be8, aBin_bn8, aBin_be9, aBin_bn9, aUn_b, aUn_t, aUn_f, aUn_i, aNil_ptr, aNil_pv, aConv_int, aField_ptr, aField_pv, aIdx_sl, aIdx_prm, aIdx_row, aIdx_drow, aMake_i, aMake_s, aExtr_tup, aLen_ref, aLen_nil, aLen_sl, aLen_prm, aLen_str, aBuildL_some, aBuildS_some, aLoad_1b, aLoad_1d, aLoad_fb, aLoad_fd, aLoad_1p, aLoad_fp, aLoad_ep, aLoad_rr, aLoad_rd, aStore_1, aStore_f, aStore_r, aApp_some, aAppend_nil, aAppend_ref, aSlice_h, aSlice_l, aSlice_lh, bc_draw, kregD_at, aopsD_nil, aopsD_plain, aopsD_guard, kontD_at, contD_at, yesD_at, noD_at, splD_bool, splD_undef, splD_skip, splD_int, splD_tt, splD_ff, splD_str, splD_nil, splD_sl, splD_prm, splD_ref, splD_ptr, splD_rp, splD_ep, splD_pv, splD_agg, splD_tup, splD_clo, gD_tt, gD_tf, gD_ft, gD_ff, gD_ts, gD_fs, slotO_some, addTr_nil, addTr_cons, memQ_nil, memQ_cons, clash_nil, clash_cons, regC_none, regC_nil, regC_cons, regR_nil, regR_cons, rng0, rng1, rng2, rng3, rng4, SC.take, SC.drop, mp_nil, acond_ct, acond_cf, mp_one0, mp_one1, mp_one2, mp_one3, kcall_one, liveB_row, liveB_box, idx, cont, still, dies, lend, lendA, lendDies, snocs, SC.snoc, SC.app, meet, AV.cells, fillA, List.getD_cons_zero, List.getD_cons_succ, List.set_cons_zero, List.set_cons_succ, List.length_singleton, Nat.le_refl, Nat.lt_irrefl, Nat.reduceLT, Nat.reduceLeDiff, Option.map_some, Option.map_none, List.flatMap_nil, List.flatMap_cons, Nat.zero_add, BEq.rfl, sl3, ty3, un3, sl37, ty37, un37, sl44, ty44, un44, sl42, ty42, un42, sl5, ty5, un5, sl2, ty2, un2, sl21, ty21, un21, sl4, ty4, un4, sl9, un9, sl22, ty22, un22, inR64, inRu64, inRu32, Int.toNat_natCast]
  refine ⟨fun hi => ⟨by omega, by omega, fun hne => ?_, fun he => ⟨by omega, ?_⟩⟩, fun hi => ?_⟩
  · congr 1; symm; simp; intro e; rw [e] at hne; exact hne rfl
  · refine klp_of (i + 1) rfl ⟨by omega, fun k hk => ?_⟩ (by omega)
    by_cases e : k = i
    · rw [e]; exact he
    · exact h2 k (by omega)
  · congr 1; symm; simp
    exact eq_of_get h fun k hk => h2 k (by omega)
def lend_laws_eqIntS : List Nat := []
def sp_laws_eqIntS : List AV → List Bx → (AV → List Bx → Prop) → Prop
  | [.sl none (.ints .i64 xs), .sl none (.ints .i64 ys)], [], K => K (.bool (decide (xs = ys))) []
  | _, _, _ => False
theorem at_laws_eqIntS {xs ys : List Int} {K : AV → List Bx → Prop} : sp_laws_eqIntS [.sl none (.ints .i64 xs), .sl none (.ints .i64 ys)] [] K = (K (.bool (decide (xs = ys))) []) := id rfl
theorem ok_laws_eqIntS : ∀ args giv K, sp_laws_eqIntS args giv K → ∃ r outs, ARuns Try.prog 12 args giv r outs ∧ K r outs := by
  intro args giv K hk
  unfold sp_laws_eqIntS at hk
  split at hk
  · exact ⟨_, _, runs_laws_eqIntS _ _ , hk⟩
  · exact hk.elim
theorem is_spec_l1In : FnIs Try.prog 25 15 [.tmp 6] (Try.f25.body.getD .skip) := ⟨⟨Try.f25, by kernel_rfl, by kernel_rfl, by kernel_rfl, by kernel_rfl⟩, by kernel_rfl, by kernel_rfl⟩
def G_spec_l1In : Gm := Gm.none
theorem G_spec_l1In_ok : G_spec_l1In.ok Try.prog := Gm.none_ok
set_option maxHeartbeats 1000000 in
set_option maxRecDepth 100000 in
theorem runs_spec_l1In (n l m : Int) : ARuns Try.prog 25 [.int .i64 n, .int .i64 l, .int .i64 m] [] (.bool (inB n l m)) [] := by
  refine ARuns_bc G_spec_l1In_ok is_spec_l1In (by simp) fun hl hlB => ?_
  simp only [kcode_at, kreg_at, bc_skip, bc_seq, bc_cond, bc_block, bc_exit, bc_ret, bc_region, lkX_cons, acond_tmp, aCase_t, aCase_f, aCase_b, afin_nil, cvE_some, resL, resV, cv, cvL, pack, entryE, inPrm, Option.getD_some, acall_clo, add_sp, add_lend, kcall_nil, selOf, selA, inArgs, inA, inL, okA, okL, okBx, okC, outA, outL, outU, outB, deep, deepL, boxIds, AV.bid, List.map_nil, List.map_cons, List.all_nil, List.all_cons, BEq.rfl, Bool.and_true, Bool.true_and, List.append_nil, aops_nil, aops_plain, aops_guard, kont_at, yes_at, no_at, aop_move, aop_assign, aop_pick, aop_alloc, aop_box, aop_build, aop_buildSlice, aop_load, aop_store, aop_nilCheck, aop_binOp, aop_unOp, aop_convert, aop_fieldAddr, aop_indexAddr, aop_slice, aop_extract, aop_makeSlice, aop_len, aop_max, aMax_int, slTy2, SC0, aop_append, aop_call, evalE, getE, putE, getB, setB, St.put, setsB, nth, AV.ofV, AV.blk, AV.bid, AV.one, SC.len, SC.get, List.length_nil, List.length_cons, Nat.reduceEqDiff, Nat.reduceAdd, ↓reduceIte, true_and, and_true, Bool.true_eq_false, Bool.false_eq_true, false_imp_iff, true_imp_iff, decide_eq_true_eq, Bool.not_eq_true', Bool.not_eq_false', decide_eq_false_iff_not, Option.isSome, List.nil_append, List.cons_append, aGuardO_some, aGuard_tt, aGuard_tf, aGuard_ft, aGuard_ff, aGuard_tb, aGuard_fb, aGuard_ts, aGuard_fs, aPick_b, aPick_t, aPick_f, aAlloc_one, aAlloc_flat, aBox_some, aBuild_flat, aInt_add, aBin_add, aInt_sub, aBin_sub, aInt_mul, aBin_mul, aInt_quo, aBin_quo, aInt_rem, aBin_rem, aInt_and, aBin_and, aInt_or, aBin_or, aInt_xor, aBin_xor, aInt_andNot, aBin_andNot, aInt_eql, aBin_eql, aInt_neq, aBin_neq, aInt_lss, aBin_lss, aInt_leq, aBin_leq, aInt_gtr, aBin_gtr, aInt_geq, aBin_geq, aBin_shl, aBin_shr, aShift_shl, aShift_shr, aBin_be1, aBin_bn1, aBin_be2, aBin_bn2, aBin_be3, aBin_bn3, aBin_be4, aBin_bn4, aBin_be5, aBin_bn5, aBin_be6, aBin_bn6, aBin_be7, aBin_bn7, aBin_be8, aBin_bn8, aBin_be9, aBin_bn9, aUn_b, aUn_t, aUn_f, aUn_i, aNil_ptr, aNil_pv, aConv_int, aField_ptr, aField_pv, aIdx_sl, aIdx_prm, aIdx_row, aIdx_drow, aMake_i, aMake_s, aExtr_tup, aLen_ref, aLen_nil, aLen_sl, aLen_prm, aLen_str, aBuildL_some, aBuildS_some, aLoad_1b, aLoad_1d, aLoad_fb, aLoad_fd, aLoad_1p, aLoad_fp, aLoad_ep, aLoad_rr, aLoad_rd, aStore_1, aStore_f, aStore_r, aApp_some, aAppend_nil, aAppend_ref, aSlice_h, aSlice_l, aSlice_lh, bc_draw, kregD_at, aopsD_nil, aopsD_plain, aopsD_guard, kontD_at, contD_at, yesD_at, noD_at, splD_bool, splD_undef, splD_skip, splD_int, splD_tt, splD_ff, splD_str, splD_nil, splD_sl, splD_prm, splD_ref, splD_ptr, splD_rp, splD_ep, splD_pv, splD_agg, splD_tup, splD_clo, gD_tt, gD_tf, gD_ft, gD_ff, gD_ts, gD_fs, slotO_some, addTr_nil, addTr_cons, memQ_nil, memQ_cons, clash_nil, clash_cons, regC_none, regC_nil, regC_cons, regR_nil, regR_cons, rng0, rng1, rng2, rng3, rng4, SC.take, SC.drop, mp_nil, acond_ct, acond_cf, mp_one0, mp_one1, mp_one2, mp_one3, kcall_one, liveB_row, liveB_box, idx, cont, still, dies, lend, lendA, lendDies, snocs, SC.snoc, SC.app, meet, AV.cells, fillA, List.getD_cons_zero, List.getD_cons_succ, List.set_cons_zero, List.set_cons_succ, List.length_singleton, Nat.le_refl, Nat.lt_irrefl, Nat.reduceLT, Nat.reduceLeDiff, Option.map_some, Option.map_none, List.flatMap_nil, List.flatMap_cons, Nat.zero_add, BEq.rfl, sl3, ty3, un3, sl37, ty37, un37, sl44, ty44, un44, sl42, ty42, un42, sl5, ty5, un5, sl2, ty2, un2, sl21, ty21, un21, sl4, ty4, un4, sl9, un9, sl22, ty22, un22, inR64, inRu64, inRu32, Try.f25]
  refine ⟨fun h => ?_, fun h => ?_⟩ <;> simp [h, inB]
def lend_spec_l1In : List Nat := []
def sp_spec_l1In : List AV → List Bx → (AV → List Bx → Prop) → Prop
  | [.int .i64 n, .int .i64 l, .int .i64 m], [], K => K (.bool (inB n l m)) []
  | _, _, _ => False
theorem at_spec_l1In {n l m : Int} {K : AV → List Bx → Prop} : sp_spec_l1In [.int .i64 n, .int .i64 l, .int .i64 m] [] K = (K (.bool (inB n l m)) []) := id rfl
theorem ok_spec_l1In : ∀ args giv K, sp_spec_l1In args giv K → ∃ r outs, ARuns Try.prog 25 args giv r outs ∧ K r outs := by
  intro args giv K hk
  unfold sp_spec_l1In at hk
  split at hk
  · exact ⟨_, _, runs_spec_l1In _ _ _ , hk⟩
  · exact hk.elim
theorem is_spec_l22Choose : FnIs Try.prog 37 22 [.tmp 4] (Try.f37.body.getD .skip) := ⟨⟨Try.f37, by kernel_rfl, by kernel_rfl, by kernel_rfl, by kernel_rfl⟩, by kernel_rfl, by kernel_rfl⟩
def G_spec_l22Choose : Gm := Gm.none
theorem G_spec_l22Choose_ok : G_spec_l22Choose.ok Try.prog := Gm.none_ok
set_option maxHeartbeats 1000000 in
set_option maxRecDepth 100000 in
theorem runs_spec_l22Choose (n k : Int) (hp1 : 0 ≤ k ∧ k ≤ n ∧ n ≤ 1100 ∧ k ≤ 6) : ARuns Try.prog 37 [.int .i64 n, .int .i64 k] [] (.int .i64 (chooseI n k)) [] := by
  refine ARuns_bc G_spec_l22Choose_ok is_spec_l22Choose (by simp) fun hl hlB => ?_
  simp only [kcode_at, kreg_at, bc_skip, bc_seq, bc_cond, bc_block, bc_exit, bc_ret, bc_region, lkX_cons, acond_tmp, aCase_t, aCase_f, aCase_b, afin_nil, cvE_some, resL, resV, cv, cvL, pack, entryE, inPrm, Option.getD_some, acall_clo, add_sp, add_lend, kcall_nil, selOf, selA, inArgs, inA, inL, okA, okL, okBx, okC, outA, outL, outU, outB, deep, deepL, boxIds, AV.bid, List.map_nil, List.map_cons, List.all_nil, List.all_cons, BEq.rfl, Bool.and_true, Bool.true_and, List.append_nil, aops_nil, aops_plain, aops_guard, kont_at, yes_at, no_at, aop_move, aop_assign, aop_pick, aop_alloc, aop_box, aop_build, aop_buildSlice, aop_load, aop_store, aop_nilCheck, aop_binOp, aop_unOp, aop_convert, aop_fieldAddr, aop_indexAddr, aop_slice, aop_extract, aop_makeSlice, aop_len, aop_max, aMax_int, slTy2, SC0, aop_append, aop_call, evalE, getE, putE, getB, setB, St.put, setsB, nth, AV.ofV, AV.blk, AV.bid, AV.one, SC.len, SC.get, List.length_nil, List.length_cons, Nat.reduceEqDiff, Nat.reduceAdd, ↓reduceIte, true_and, and_true, Bool.true_eq_false, Bool.false_eq_true, false_imp_iff, true_imp_iff, decide_eq_true_eq, Bool.not_eq_true', Bool.not_eq_false', decide_eq_false_iff_not, Option.isSome, List.nil_append, List.cons_append, aGuardO_some, aGuard_tt, aGuard_tf, aGuard_ft, aGuard_ff, aGuard_tb, aGuard_fb, aGuard_ts, aGuard_fs, aPick_b, aPick_t, aPick_f, aAlloc_one, aAlloc_flat, aBox_some, aBuild_flat, aInt_add, aBin_add, aInt_sub, aBin_sub, aInt_mul, aBin_mul, aInt_quo, aBin_quo, aInt_rem, aBin_rem, aInt_and, aBin_and, aInt_or, aBin_or, aInt_xor, aBin_xor, aInt_andNot, aBin_andNot, aInt_eql, aBin_eql, aInt_neq, aBin_neq, aInt_lss, aBin_lss, aInt_leq, aBin_leq, aInt_gtr, aBin_gtr, aInt_geq, aBin_geq, aBin_shl, aBin_shr, aShift_shl, aShift_shr, aBin_be1, aBin_bn1, aBin_be2, aBin_bn2, aBin_be3, aBin_bn3, aBin_be4, aBin_bn4, aBin_be5, aBin_bn5, aBin_be6, aBin_bn6, aBin_be7, aBin_bn7, aBin_be8, aBin_bn8, aBin_be9, aBin_bn9, aUn_b, aUn_t, aUn_f, aUn_i, aNil_ptr, aNil_pv, aConv_int, aField_ptr, aField_pv, aIdx_sl, aIdx_prm, aIdx_row, aIdx_drow, aMake_i, aMake_s, aExtr_tup, aLen_ref, aLen_nil, aLen_sl, aLen_prm, aLen_str, aBuildL_some, aBuildS_some, aLoad_1b, aLoad_1d, aLoad_fb, aLoad_fd, aLoad_1p, aLoad_fp, aLoad_ep, aLoad_rr, aLoad_rd, aStore_1, aStore_f, aStore_r, aApp_some, aAppend_nil, aAppend_ref, aSlice_h, aSlice_l, aSlice_lh, bc_draw, kregD_at, aopsD_nil, aopsD_plain, aopsD_guard, kontD_at, contD_at, yesD_at, noD_at, splD_bool, splD_undef, splD_skip, splD_int, splD_tt, splD_ff, splD_str, splD_nil, splD_sl, splD_prm, splD_ref, splD_ptr, splD_rp, splD_ep, splD_pv, splD_agg, splD_tup, splD_clo, gD_tt, gD_tf, gD_ft, gD_ff, gD_ts, gD_fs, slotO_some, addTr_nil, addTr_cons, memQ_nil, memQ_cons, clash_nil, clash_cons, regC_none, regC_nil, regC_cons, regR_nil, regR_cons, rng0, rng1, rng2, rng3, rng4, SC.take, SC.drop, mp_nil, acond_ct, acond_cf, mp_one0, mp_one1, mp_one2, mp_one3, kcall_one, liveB_row, liveB_box, idx, cont, still, dies, lend, lendA, lendDies, snocs, SC.snoc, SC.app, meet, AV.cells, fillA, List.getD_cons_zero, List.getD_cons_succ, List.set_cons_zero, List.set_cons_succ, List.length_singleton, Nat.le_refl, Nat.lt_irrefl, Nat.reduceLT, Nat.reduceLeDiff, Option.map_some, Option.map_none, List.flatMap_nil, List.flatMap_cons, Nat.zero_add, BEq.rfl, sl3, ty3, un3, sl37, ty37, un37, sl44, ty44, un44, sl42, ty42, un42, sl5, ty5, un5, sl2, ty2, un2, sl21, ty21, un21, sl4, ty4, un4, sl9, un9, sl22, ty22, un22, inR64, inRu64, inRu32, Try.f37]
  obtain ⟨N, rfl⟩ : ∃ N : Nat, n = N := ⟨n.toNat, by omega⟩
  obtain ⟨K, rfl⟩ : ∃ K : Nat, k = K := ⟨k.toNat, by omega⟩
  refine bc_loop (fun j : Nat => j ≤ K) (fun j => ⟨[(0, .int .i64 N), (1, .int .i64 K), (5, .int .i64 (ch (N - K + j) j)), (6, .int .i64 ((j + 1 : Nat) : Int))], []⟩) (fun j => K - j)
    [0, 1, 5, 6] [] 0 rfl (by simp [St.conv, getE, cv, ch_one]) (by omega) fun j hj => ?_
  simp only [kcode_at, kreg_at, bc_skip, bc_seq, bc_cond, bc_block, bc_exit, bc_ret, bc_region, lkX_cons, acond_tmp, aCase_t, aCase_f, aCase_b, afin_nil, cvE_some, resL, resV, cv, cvL, pack, entryE, inPrm, Option.getD_some, acall_clo, add_sp, add_lend, kcall_nil, selOf, selA, inArgs, inA, inL, okA, okL, okBx, okC, outA, outL, outU, outB, deep, deepL, boxIds, AV.bid, List.map_nil, List.map_cons, List.all_nil, List.all_cons, BEq.rfl, Bool.and_true, Bool.true_and, List.append_nil, aops_nil, aops_plain, aops_guard, kont_at, yes_at, no_at, aop_move, aop_assign, aop_pick, aop_alloc, aop_box, aop_build, aop_buildSlice, aop_load, aop_store, aop_nilCheck, aop_binOp, aop_unOp, aop_convert, aop_fieldAddr, aop_indexAddr, aop_slice, aop_extract, aop_makeSlice, aop_len, aop_max, aMax_int, slTy2, SC0, aop_append, aop_call, evalE, getE, putE, getB, setB, St.put, setsB, nth, AV.ofV, AV.blk, AV.bid, AV.one, SC.len, SC.get, List.length_nil, List.length_cons, Nat.reduceEqDiff, Nat.reduceAdd, ↓reduceIte, true_and, and_true, Bool.true_eq_false, Bool.false_eq_true, false_imp_iff, true_imp_iff, decide_eq_true_eq, Bool.not_eq_true', Bool.not_eq_false', decide_eq_false_iff_not, Option.isSome, List.nil_append, List.cons_append, aGuardO_some, aGuard_tt, aGuard_tf, aGuard_ft, aGuard_ff, aGuard_tb, aGuard_fb, aGuard_ts, aGuard_fs, aPick_b, aPick_t, aPick_f, aAlloc_one, aAlloc_flat, aBox_some, aBuild_flat, aInt_add, aBin_add, aInt_sub, aBin_sub, aInt_mul, aBin_mul, aInt_quo, aBin_quo, aInt_rem, aBin_rem, aInt_and, aBin_and, aInt_or, aBin_or, aInt_xor, aBin_xor, aInt_andNot, aBin_andNot, aInt_eql, aBin_eql, aInt_neq, aBin_neq, aInt_lss, aBin_lss, aInt_leq, aBin_leq, aInt_gtr, aBin_gtr, aInt_geq, aBin_geq, aBin_shl, aBin_shr, aShift_shl, aShift_shr, aBin_be1, aBin_bn1, aBin_be2, aBin_bn2, aBin_be3, aBin_bn3, aBin_be4, aBin_bn4, aBin_be5, aBin_bn5, aBin_be6, aBin_bn6, aBin_be7, aBin_bn7, aBin_be8, aBin_bn8, aBin_be9, aBin_bn9, aUn_b, aUn_t, aUn_f, aUn_i, aNil_ptr, aNil_pv, aConv_int, aField_ptr, aField_pv, aIdx_sl, aIdx_prm, aIdx_row, aIdx_drow, aMake_i, aMake_s, aExtr_tup, aLen_ref, aLen_nil, aLen_sl, aLen_prm, aLen_str, aBuildL_some, aBuildS_some, aLoad_1b, aLoad_1d, aLoad_fb, aLoad_fd, aLoad_1p, aLoad_fp, aLoad_ep, aLoad_rr, aLoad_rd, aStore_1, aStore_f, aStore_r, aApp_some, aAppend_nil, aAppend_ref, aSlice_h, aSlice_l, aSlice_lh, bc_draw, kregD_at, aopsD_nil, aopsD_plain, aopsD_guard, kontD_at, contD_at, yesD_at, noD_at, splD_bool, splD_undef, splD_skip, splD_int, splD_tt, splD_ff, splD_str, splD_nil, splD_sl, splD_prm, splD_ref, splD_ptr, splD_rp, splD_ep, splD_pv, splD_agg, splD_tup, splD_clo, gD_tt, gD_tf, gD_ft, gD_ff, gD_ts, gD_fs, slotO_some, addTr_nil, addTr_cons, memQ_nil, memQ_cons, clash_nil, clash_cons, regC_none, regC_nil, regC_cons, regR_nil, regR_cons, rng0, rng1, rng2, rng3, rng4, SC.take, SC.drop, mp_nil, acond_ct, acond_cf, mp_one0, mp_one1, mp_one2, mp_one3, kcall_one, liveB_row, liveB_box, idx, cont, still, dies, lend, lendA, lendDies, snocs, SC.snoc, SC.app, meet, AV.cells, fillA, List.getD_cons_zero, List.getD_cons_succ, List.set_cons_zero, List.set_cons_succ, List.length_singleton, Nat.le_refl, Nat.lt_irrefl, Nat.reduceLT, Nat.reduceLeDiff, Option.map_some, Option.map_none, List.flatMap_nil, List.flatMap_cons, Nat.zero_add, BEq.rfl, sl3, ty3, un3, sl37, ty37, un37, sl44, ty44, un44, sl42, ty42, un42, sl5, ty5, un5, sl2, ty2, un2, sl21, ty21, un21, sl4, ty4, un4, sl9, un9, sl22, ty22, un22, inR64, inRu64, inRu32]
  have hs := ch_bd (n := N - K + j) (k := j) (by omega)
  have ed : ((ch (N - K + j) j * (N - K + j + 1) : Nat) : Int).tdiv ((j + 1 : Nat) : Int) = (ch (N - K + (j + 1)) (j + 1) : Nat) := tdivN (by omega) (ch_mul (N - K + j) j)
  have e1 : (N : Int) - K + ((j + 1 : Nat) : Int) = ((N - K + j + 1 : Nat) : Int) := by omega
  have e2 : (ch (N - K + j) j : Int) * ((N - K + j + 1 : Nat) : Int) = ((ch (N - K + j) j * (N - K + j + 1) : Nat) : Int) := by simp
  refine ⟨fun hi => ?_, fun hi => ?_⟩
  · have hm : ch (N - K + j) j * (N - K + j + 1) ≤ 2 ^ 62 := ch_mul_bd (by omega)
    have := ch_bd (n := N - K + (j + 1)) (k := j + 1) (by omega)
    rw [e1, e2, ed]
    refine ⟨by omega, by omega, by omega, ⟨by omega, by omega⟩, by omega, ?_⟩
    refine klp_of (j + 1) ?_ (by omega) (by omega)
    simp [St.conv, getE, cv]
  · have : j = K := by omega
    subst this
    have e : N - j + j = N := by omega
    rw [chooseI, if_pos (by omega), e]
    simp
def lend_spec_l22Choose : List Nat := []
def sp_spec_l22Choose : List AV → List Bx → (AV → List Bx → Prop) → Prop
  | [.int .i64 n, .int .i64 k], [], K => (0 ≤ k ∧ k ≤ n ∧ n ≤ 1100 ∧ k ≤ 6) ∧ K (.int .i64 (chooseI n k)) []
  | _, _, _ => False
theorem at_spec_l22Choose {n k : Int} {K : AV → List Bx → Prop} : sp_spec_l22Choose [.int .i64 n, .int .i64 k] [] K = ((0 ≤ k ∧ k ≤ n ∧ n ≤ 1100 ∧ k ≤ 6) ∧ K (.int .i64 (chooseI n k)) []) := id rfl
theorem ok_spec_l22Choose : ∀ args giv K, sp_spec_l22Choose args giv K → ∃ r outs, ARuns Try.prog 37 args giv r outs ∧ K r outs := by
  intro args giv K hk
  unfold sp_spec_l22Choose at hk
  split at hk
  · obtain ⟨hp1, hk⟩ := hk; exact ⟨_, _, runs_spec_l22Choose _ _ hp1, hk⟩
  · exact hk.elim
theorem is_spec_CascadeOf : FnIs Try.prog 21 47 [.tmp 4, .tmp 5] (Try.f21.body.getD .skip) := ⟨⟨Try.f21, by kernel_rfl, by kernel_rfl, by kernel_rfl, by kernel_rfl⟩, by kernel_rfl, by kernel_rfl⟩
def G_spec_CascadeOf : Gm := ((Gm.none.add 25 lend_spec_l1In sp_spec_l1In).add 37 lend_spec_l22Choose sp_spec_l22Choose)
theorem G_spec_CascadeOf_ok : G_spec_CascadeOf.ok Try.prog := (Gm.add_ok (Gm.add_ok Gm.none_ok ok_spec_l1In) ok_spec_l22Choose)
theorem gs_spec_CascadeOf_25 : G_spec_CascadeOf.sp 25 = sp_spec_l1In ∧ G_spec_CascadeOf.lend 25 = lend_spec_l1In := ⟨rfl, rfl⟩
theorem gs_spec_CascadeOf_37 : G_spec_CascadeOf.sp 37 = sp_spec_l22Choose ∧ G_spec_CascadeOf.lend 37 = lend_spec_l22Choose := ⟨rfl, rfl⟩
set_option maxHeartbeats 1000000 in
set_option maxRecDepth 100000 in
theorem runs_spec_CascadeOf (m k : Int) : ARuns Try.prog 21 [.int .i64 m, .int .i64 k] [] (.tup [.ref 0 (cascL m k).length, .bool (cascOk m k)]) [.row 3 (.ints .i64 (cascL m k))] := by
  refine ARuns_bc G_spec_CascadeOf_ok is_spec_CascadeOf (by simp) fun hl hlB => ?_
  simp only [kcode_at, kreg_at, bc_skip, bc_seq, bc_cond, bc_block, bc_exit, bc_ret, bc_region, lkX_cons, acond_tmp, aCase_t, aCase_f, aCase_b, afin_nil, cvE_some, resL, resV, cv, cvL, pack, entryE, inPrm, Option.getD_some, acall_clo, add_sp, add_lend, kcall_nil, selOf, selA, inArgs, inA, inL, okA, okL, okBx, okC, outA, outL, outU, outB, deep, deepL, boxIds, AV.bid, List.map_nil, List.map_cons, List.all_nil, List.all_cons, BEq.rfl, Bool.and_true, Bool.true_and, List.append_nil, aops_nil, aops_plain, aops_guard, kont_at, yes_at, no_at, aop_move, aop_assign, aop_pick, aop_alloc, aop_box, aop_build, aop_buildSlice, aop_load, aop_store, aop_nilCheck, aop_binOp, aop_unOp, aop_convert, aop_fieldAddr, aop_indexAddr, aop_slice, aop_extract, aop_makeSlice, aop_len, aop_max, aMax_int, slTy2, SC0, aop_append, aop_call, evalE, getE, putE, getB, setB, St.put, setsB, nth, AV.ofV, AV.blk, AV.bid, AV.one, SC.len, SC.get, List.length_nil, List.length_cons, Nat.reduceEqDiff, Nat.reduceAdd, ↓reduceIte, true_and, and_true, Bool.true_eq_false, Bool.false_eq_true, false_imp_iff, true_imp_iff, decide_eq_true_eq, Bool.not_eq_true', Bool.not_eq_false', decide_eq_false_iff_not, Option.isSome, List.nil_append, List.cons_append, aGuardO_some, aGuard_tt, aGuard_tf, aGuard_ft, aGuard_ff, aGuard_tb, aGuard_fb, aGuard_ts, aGuard_fs, aPick_b, aPick_t, aPick_f, aAlloc_one, aAlloc_flat, aBox_some, aBuild_flat, aInt_add, aBin_add, aInt_sub, aBin_sub, aInt_mul, aBin_mul, aInt_quo, aBin_quo, aInt_rem, aBin_rem, aInt_and, aBin_and, aInt_or, aBin_or, aInt_xor, aBin_xor, aInt_andNot, aBin_andNot, aInt_eql, aBin_eql, aInt_neq, aBin_neq, aInt_lss, aBin_lss, aInt_leq, aBin_leq, aInt_gtr, aBin_gtr, aInt_geq, aBin_geq, aBin_shl, aBin_shr, aShift_shl, aShift_shr, aBin_be1, aBin_bn1, aBin_be2, aBin_bn2, aBin_be3, aBin_bn3, aBin_be4, aBin_bn4, aBin_be5, aBin_bn5, aBin_be6, aBin_bn6, aBin_be7, aBin_bn7, aBin_be8, aBin_bn8, aBin_be9, aBin_bn9, aUn_b, aUn_t, aUn_f, aUn_i, aNil_ptr, aNil_pv, aConv_int, aField_ptr, aField_pv, aIdx_sl, aIdx_prm, aIdx_row, aIdx_drow, aMake_i, aMake_s, aExtr_tup, aLen_ref, aLen_nil, aLen_sl, aLen_prm, aLen_str, aBuildL_some, aBuildS_some, aLoad_1b, aLoad_1d, aLoad_fb, aLoad_fd, aLoad_1p, aLoad_fp, aLoad_ep, aLoad_rr, aLoad_rd, aStore_1, aStore_f, aStore_r, aApp_some, aAppend_nil, aAppend_ref, aSlice_h, aSlice_l, aSlice_lh, bc_draw, kregD_at, aopsD_nil, aopsD_plain, aopsD_guard, kontD_at, contD_at, yesD_at, noD_at, splD_bool, splD_undef, splD_skip, splD_int, splD_tt, splD_ff, splD_str, splD_nil, splD_sl, splD_prm, splD_ref, splD_ptr, splD_rp, splD_ep, splD_pv, splD_agg, splD_tup, splD_clo, gD_tt, gD_tf, gD_ft, gD_ff, gD_ts, gD_fs, slotO_some, addTr_nil, addTr_cons, memQ_nil, memQ_cons, clash_nil, clash_cons, regC_none, regC_nil, regC_cons, regR_nil, regR_cons, rng0, rng1, rng2, rng3, rng4, SC.take, SC.drop, mp_nil, acond_ct, acond_cf, mp_one0, mp_one1, mp_one2, mp_one3, kcall_one, liveB_row, liveB_box, idx, cont, still, dies, lend, lendA, lendDies, snocs, SC.snoc, SC.app, meet, AV.cells, fillA, List.getD_cons_zero, List.getD_cons_succ, List.set_cons_zero, List.set_cons_succ, List.length_singleton, Nat.le_refl, Nat.lt_irrefl, Nat.reduceLT, Nat.reduceLeDiff, Option.map_some, Option.map_none, List.flatMap_nil, List.flatMap_cons, Nat.zero_add, BEq.rfl, sl3, ty3, un3, sl37, ty37, un37, sl44, ty44, un44, sl42, ty42, un42, sl5, ty5, un5, sl2, ty2, un2, sl21, ty21, un21, sl4, ty4, un4, sl9, un9, sl22, ty22, un22, inR64, inRu64, inRu32, gs_spec_CascadeOf_25, at_spec_l1In, lend_spec_l1In, gs_spec_CascadeOf_37, at_spec_l22Choose, lend_spec_l22Choose, Try.f21]
  refine ⟨fun h => ?_, fun h1 => ⟨fun h => ?_, fun h2 => ?_⟩⟩
  · have := casc_f (m := m) (k := k) (.inl h)
    rw [this.1, this.2]
    exact afin_of [0] rfl rfl (by simp [St.conv, St.bf, getE, putE, getB, cv, cvL, cvB, idx, still, pack, lifts]) (by simp [St.conv, St.bf, getE, putE, getB, cv, cvL, cvB, idx, still, pack, lifts])
  · have := casc_f (m := m) (k := k) (.inr h)
    rw [this.1, this.2]
    exact afin_of [0] rfl rfl (by simp [St.conv, St.bf, getE, putE, getB, cv, cvL, cvB, idx, still, pack, lifts]) (by simp [St.conv, St.bf, getE, putE, getB, cv, cvL, cvB, idx, still, pack, lifts])
  have hc := casc_t h1 h2
  rw [hc.1, hc.2]
  rw [inB_t] at h1 h2
  refine bc_loop (fun p : List Int × Nat × Nat => p.1 ++ casc p.2.1 p.2.2 = casc k.toNat m.toNat ∧ p.1.length + p.2.1 ≤ k.toNat ∧ p.2.2 ≤ 1000)
    (fun p => ⟨[(0, .int .i64 p.2.2), (6, .ref 0 p.1.length), (7, .int .i64 p.2.1)], [.row 3 (.ints .i64 p.1)]⟩) (fun p => p.2.1)
    [0, 6, 7] [0] ([], k.toNat, m.toNat) rfl (by simp [St.conv, St.bf, getE, putE, getB, cv, cvL, cvB, idx, still, pack, lifts]; omega) ⟨rfl, by simp, by simp only; omega⟩ fun ⟨l, j, m'⟩ ⟨v1, v2, v3⟩ => ?_
  simp only at v1 v2 v3
  simp only [kcode_at, kreg_at, bc_skip, bc_seq, bc_cond, bc_block, bc_exit, bc_ret, bc_region, lkX_cons, acond_tmp, aCase_t, aCase_f, aCase_b, afin_nil, cvE_some, resL, resV, cv, cvL, pack, entryE, inPrm, Option.getD_some, acall_clo, add_sp, add_lend, kcall_nil, selOf, selA, inArgs, inA, inL, okA, okL, okBx, okC, outA, outL, outU, outB, deep, deepL, boxIds, AV.bid, List.map_nil, List.map_cons, List.all_nil, List.all_cons, BEq.rfl, Bool.and_true, Bool.true_and, List.append_nil, aops_nil, aops_plain, aops_guard, kont_at, yes_at, no_at, aop_move, aop_assign, aop_pick, aop_alloc, aop_box, aop_build, aop_buildSlice, aop_load, aop_store, aop_nilCheck, aop_binOp, aop_unOp, aop_convert, aop_fieldAddr, aop_indexAddr, aop_slice, aop_extract, aop_makeSlice, aop_len, aop_max, aMax_int, slTy2, SC0, aop_append, aop_call, evalE, getE, putE, getB, setB, St.put, setsB, nth, AV.ofV, AV.blk, AV.bid, AV.one, SC.len, SC.get, List.length_nil, List.length_cons, Nat.reduceEqDiff, Nat.reduceAdd, ↓reduceIte, true_and, and_true, Bool.true_eq_false, Bool.false_eq_true, false_imp_iff, true_imp_iff, decide_eq_true_eq, Bool.not_eq_true', Bool.not_eq_false', decide_eq_false_iff_not, Option.isSome, List.nil_append, List.cons_append, aGuardO_some, aGuard_tt, aGuard_tf, aGuard_ft, aGuard_ff, aGuard_tb, aGuard_fb, aGuard_ts, aGuard_fs, aPick_b, aPick_t, aPick_f, aAlloc_one, aAlloc_flat, aBox_some, aBuild_flat, aInt_add, aBin_add, aInt_sub, aBin_sub, aInt_mul, aBin_mul, aInt_quo, aBin_quo, aInt_rem, aBin_rem, aInt_and, aBin_and, aInt_or, aBin_or, aInt_xor, aBin_xor, aInt_andNot, aBin_andNot, aInt_eql, aBin_eql, aInt_neq, aBin_neq, aInt_lss, aBin_lss, aInt_leq, aBin_leq, aInt_gtr, aBin_gtr, aInt_geq, aBin_geq, aBin_shl, aBin_shr, aShift_shl, aShift_shr, aBin_be1, aBin_bn1, aBin_be2, aBin_bn2, aBin_be3, aBin_bn3, aBin_be4, aBin_bn4, aBin_be5, aBin_bn5, aBin_be6, aBin_bn6, aBin_be7, aBin_bn7, aBin_be8, aBin_bn8, aBin_be9, aBin_bn9, aUn_b, aUn_t, aUn_f, aUn_i, aNil_ptr, aNil_pv, aConv_int, aField_ptr, aField_pv, aIdx_sl, aIdx_prm, aIdx_row, aIdx_drow, aMake_i, aMake_s, aExtr_tup, aLen_ref, aLen_nil, aLen_sl, aLen_prm, aLen_str, aBuildL_some, aBuildS_some, aLoad_1b, aLoad_1d, aLoad_fb, aLoad_fd, aLoad_1p, aLoad_fp, aLoad_ep, aLoad_rr, aLoad_rd, aStore_1, aStore_f, aStore_r, aApp_some, aAppend_nil, aAppend_ref, aSlice_h, aSlice_l, aSlice_lh, bc_draw, kregD_at, aopsD_nil, aopsD_plain, aopsD_guard, kontD_at, contD_at, yesD_at, noD_at, splD_bool, splD_undef, splD_skip, splD_int, splD_tt, splD_ff, splD_str, splD_nil, splD_sl, splD_prm, splD_ref, splD_ptr, splD_rp, splD_ep, splD_pv, splD_agg, splD_tup, splD_clo, gD_tt, gD_tf, gD_ft, gD_ff, gD_ts, gD_fs, slotO_some, addTr_nil, addTr_cons, memQ_nil, memQ_cons, clash_nil, clash_cons, regC_none, regC_nil, regC_cons, regR_nil, regR_cons, rng0, rng1, rng2, rng3, rng4, SC.take, SC.drop, mp_nil, acond_ct, acond_cf, mp_one0, mp_one1, mp_one2, mp_one3, kcall_one, liveB_row, liveB_box, idx, cont, still, dies, lend, lendA, lendDies, snocs, SC.snoc, SC.app, meet, AV.cells, fillA, List.getD_cons_zero, List.getD_cons_succ, List.set_cons_zero, List.set_cons_succ, List.length_singleton, Nat.le_refl, Nat.lt_irrefl, Nat.reduceLT, Nat.reduceLeDiff, Option.map_some, Option.map_none, List.flatMap_nil, List.flatMap_cons, Nat.zero_add, BEq.rfl, sl3, ty3, un3, sl37, ty37, un37, sl44, ty44, un44, sl42, ty42, un42, sl5, ty5, un5, sl2, ty2, un2, sl21, ty21, un21, sl4, ty4, un4, sl9, un9, sl22, ty22, un22, inR64, inRu64, inRu32, gs_spec_CascadeOf_25, at_spec_l1In, lend_spec_l1In, gs_spec_CascadeOf_37, at_spec_l22Choose, lend_spec_l22Choose]
  refine ⟨fun hj => ⟨fun hm => ?_, fun hm => ?_⟩, fun hj => ?_⟩
  · obtain ⟨j, rfl⟩ : ∃ i, j = i + 1 := ⟨j - 1, by omega⟩
    refine bc_loop (fun a : Nat => j + 1 ≤ a ∧ a ≤ 1010 ∧ topA m' (j + 1) a = topA m' (j + 1) (j + 1) ∧ ch a (j + 1) ≤ m')
      (fun a => ⟨[(0, .int .i64 m'), (6, .ref 0 l.length), (7, .int .i64 ((j + 1 : Nat) : Int)), (8, .int .i64 a)], [.row 3 (.ints .i64 l)]⟩) (fun a => 1050 - a)
      [0, 6, 7, 8] [0] (j + 1) rfl (by simp [St.conv, St.bf, getE, putE, getB, cv, cvL, cvB, idx, still, pack, lifts]) ⟨by omega, by omega, rfl, by rw [ch_self]; omega⟩ fun a ⟨w1, w2, w3, w4⟩ => ?_
    simp only [kcode_at, kreg_at, bc_skip, bc_seq, bc_cond, bc_block, bc_exit, bc_ret, bc_region, lkX_cons, acond_tmp, aCase_t, aCase_f, aCase_b, afin_nil, cvE_some, resL, resV, cv, cvL, pack, entryE, inPrm, Option.getD_some, acall_clo, add_sp, add_lend, kcall_nil, selOf, selA, inArgs, inA, inL, okA, okL, okBx, okC, outA, outL, outU, outB, deep, deepL, boxIds, AV.bid, List.map_nil, List.map_cons, List.all_nil, List.all_cons, BEq.rfl, Bool.and_true, Bool.true_and, List.append_nil, aops_nil, aops_plain, aops_guard, kont_at, yes_at, no_at, aop_move, aop_assign, aop_pick, aop_alloc, aop_box, aop_build, aop_buildSlice, aop_load, aop_store, aop_nilCheck, aop_binOp, aop_unOp, aop_convert, aop_fieldAddr, aop_indexAddr, aop_slice, aop_extract, aop_makeSlice, aop_len, aop_max, aMax_int, slTy2, SC0, aop_append, aop_call, evalE, getE, putE, getB, setB, St.put, setsB, nth, AV.ofV, AV.blk, AV.bid, AV.one, SC.len, SC.get, List.length_nil, List.length_cons, Nat.reduceEqDiff, Nat.reduceAdd, ↓reduceIte, true_and, and_true, Bool.true_eq_false, Bool.false_eq_true, false_imp_iff, true_imp_iff, decide_eq_true_eq, Bool.not_eq_true', Bool.not_eq_false', decide_eq_false_iff_not, Option.isSome, List.nil_append, List.cons_append, aGuardO_some, aGuard_tt, aGuard_tf, aGuard_ft, aGuard_ff, aGuard_tb, aGuard_fb, aGuard_ts, aGuard_fs, aPick_b, aPick_t, aPick_f, aAlloc_one, aAlloc_flat, aBox_some, aBuild_flat, aInt_add, aBin_add, aInt_sub, aBin_sub, aInt_mul, aBin_mul, aInt_quo, aBin_quo, aInt_rem, aBin_rem, aInt_and, aBin_and, aInt_or, aBin_or, aInt_xor, aBin_xor, aInt_andNot, aBin_andNot, aInt_eql, aBin_eql, aInt_neq, aBin_neq, aInt_lss, aBin_lss, aInt_leq, aBin_leq, aInt_gtr, aBin_gtr, aInt_geq, aBin_geq, aBin_shl, aBin_shr, aShift_shl, aShift_shr, aBin_be1, aBin_bn1, aBin_be2, aBin_bn2, aBin_be3, aBin_bn3, aBin_be4, aBin_bn4, aBin_be5, aBin_bn5, aBin_be6, aBin_bn6, aBin_be7, aBin_bn7, aBin_be8, aBin_bn8, aBin_be9, aBin_bn9, aUn_b, aUn_t, aUn_f, aUn_i, aNil_ptr, aNil_pv, aConv_int, aField_ptr, aField_pv, aIdx_sl, aIdx_prm, aIdx_row, aIdx_drow, aMake_i, aMake_s, aExtr_tup, aLen_ref, aLen_nil, aLen_sl, aLen_prm, aLen_str, aBuildL_some, aBuildS_some, aLoad_1b, aLoad_1d, aLoad_fb, aLoad_fd, aLoad_1p, aLoad_fp, aLoad_ep, aLoad_rr, aLoad_rd, aStore_1, aStore_f, aStore_r, aApp_some, aAppend_nil, aAppend_ref, aSlice_h, aSlice_l, aSlice_lh, bc_draw, kregD_at, aopsD_nil, aopsD_plain, aopsD_guard, kontD_at, contD_at, yesD_at, noD_at, splD_bool, splD_undef, splD_skip, splD_int, splD_tt, splD_ff, splD_str, splD_nil, splD_sl, splD_prm, splD_ref, splD_ptr, splD_rp, splD_ep, splD_pv, splD_agg, splD_tup, splD_clo, gD_tt, gD_tf, gD_ft, gD_ff, gD_ts, gD_fs, slotO_some, addTr_nil, addTr_cons, memQ_nil, memQ_cons, clash_nil, clash_cons, regC_none, regC_nil, regC_cons, regR_nil, regR_cons, rng0, rng1, rng2, rng3, rng4, SC.take, SC.drop, mp_nil, acond_ct, acond_cf, mp_one0, mp_one1, mp_one2, mp_one3, kcall_one, liveB_row, liveB_box, idx, cont, still, dies, lend, lendA, lendDies, snocs, SC.snoc, SC.app, meet, AV.cells, fillA, List.getD_cons_zero, List.getD_cons_succ, List.set_cons_zero, List.set_cons_succ, List.length_singleton, Nat.le_refl, Nat.lt_irrefl, Nat.reduceLT, Nat.reduceLeDiff, Option.map_some, Option.map_none, List.flatMap_nil, List.flatMap_cons, Nat.zero_add, BEq.rfl, sl3, ty3, un3, sl37, ty37, un37, sl44, ty44, un44, sl42, ty42, un42, sl5, ty5, un5, sl2, ty2, un2, sl21, ty21, un21, sl4, ty4, un4, sl9, un9, sl22, ty22, un22, inR64, inRu64, inRu32, gs_spec_CascadeOf_25, at_spec_l1In, lend_spec_l1In, gs_spec_CascadeOf_37, at_spec_l22Choose, lend_spec_l22Choose]
    have e1 : (a : Int) + 1 = ((a + 1 : Nat) : Int) := by omega
    rw [e1, chooseI_nat (by omega), chooseI_nat w1]
    refine ⟨by omega, by omega, fun hle => ⟨by omega, ?_⟩, fun hle => ?_⟩
    · have hst := step_bd (m := m') (j := j + 1) (a := a) v3 (by omega) (by omega) (by omega)
      exact klp_of (a + 1) (by simp [St.conv, St.bf, getE, putE, getB, cv, cvL, cvB, idx, still, pack, lifts]) ⟨by omega, by omega, (topA_next (by omega) (by omega)).symm.trans w3, by omega⟩ (by omega)
    · refine ⟨by omega, by omega, by omega, by omega, ?_⟩
      have et : topA m' (j + 1) (j + 1) = a := by rw [← w3, topA_stop (by omega)]
      refine klp_of (l ++ [(a : Int)], j, m' - ch a (j + 1)) (by simp [St.conv, St.bf, getE, putE, getB, cv, cvL, cvB, idx, still, pack, lifts]; omega) ⟨?_, by simp; omega, by simp only; omega⟩ (by simp)
      simp only
      rw [← v1, casc, if_neg (by omega), et]; simp
  · have : m' = 0 := by omega
    subst this
    rw [casc_none, List.append_nil] at v1
    rw [← v1]
    exact afin_of [0] rfl rfl (by simp [St.conv, St.bf, getE, putE, getB, cv, cvL, cvB, idx, still, pack, lifts]) (by simp [St.conv, St.bf, getE, putE, getB, cv, cvL, cvB, idx, still, pack, lifts])
  · have : j = 0 := by omega
    subst this
    rw [casc_zero, List.append_nil] at v1
    rw [← v1]
    exact afin_of [0] rfl rfl (by simp [St.conv, St.bf, getE, putE, getB, cv, cvL, cvB, idx, still, pack, lifts]) (by simp [St.conv, St.bf, getE, putE, getB, cv, cvL, cvB, idx, still, pack, lifts])
def lend_spec_CascadeOf : List Nat := []
def sp_spec_CascadeOf : List AV → List Bx → (AV → List Bx → Prop) → Prop
  | [.int .i64 m, .int .i64 k], [], K => K (.tup [.ref 0 (cascL m k).length, .bool (cascOk m k)]) [.row 3 (.ints .i64 (cascL m k))]
  | _, _, _ => False
theorem at_spec_CascadeOf {m k : Int} {K : AV → List Bx → Prop} : sp_spec_CascadeOf [.int .i64 m, .int .i64 k] [] K = (K (.tup [.ref 0 (cascL m k).length, .bool (cascOk m k)]) [.row 3 (.ints .i64 (cascL m k))]) := id rfl
theorem ok_spec_CascadeOf : ∀ args giv K, sp_spec_CascadeOf args giv K → ∃ r outs, ARuns Try.prog 21 args giv r outs ∧ K r outs := by
  intro args giv K hk
  unfold sp_spec_CascadeOf at hk
  split at hk
  · exact ⟨_, _, runs_spec_CascadeOf _ _ , hk⟩
  · exact hk.elim
theorem is_impl_within : FnIs Try.prog 28 15 [.tmp 6] (Try.f28.body.getD .skip) := ⟨⟨Try.f28, by kernel_rfl, by kernel_rfl, by kernel_rfl, by kernel_rfl⟩, by kernel_rfl, by kernel_rfl⟩
def G_impl_within : Gm := Gm.none
theorem G_impl_within_ok : G_impl_within.ok Try.prog := Gm.none_ok
set_option maxHeartbeats 1000000 in
set_option maxRecDepth 100000 in
theorem runs_impl_within (n l m : Int) : ARuns Try.prog 28 [.int .i64 n, .int .i64 l, .int .i64 m] [] (.bool (inB n l m)) [] := by
  refine ARuns_bc G_impl_within_ok is_impl_within (by simp) fun hl hlB => ?_
  simp only [kcode_at, kreg_at, bc_skip, bc_seq, bc_cond, bc_block, bc_exit, bc_ret, bc_region, lkX_cons, acond_tmp, aCase_t, aCase_f, aCase_b, afin_nil, cvE_some, resL, resV, cv, cvL, pack, entryE, inPrm, Option.getD_some, acall_clo, add_sp, add_lend, kcall_nil, selOf, selA, inArgs, inA, inL, okA, okL, okBx, okC, outA, outL, outU, outB, deep, deepL, boxIds, AV.bid, List.map_nil, List.map_cons, List.all_nil, List.all_cons, BEq.rfl, Bool.and_true, Bool.true_and, List.append_nil, aops_nil, aops_plain, aops_guard, kont_at, yes_at, no_at, aop_move, aop_assign, aop_pick, aop_alloc, aop_box, aop_build, aop_buildSlice, aop_load, aop_store, aop_nilCheck, aop_binOp, aop_unOp, aop_convert, aop_fieldAddr, aop_indexAddr, aop_slice, aop_extract, aop_makeSlice, aop_len, aop_max, aMax_int, slTy2, SC0, aop_append, aop_call, evalE, getE, putE, getB, setB, St.put, setsB, nth, AV.ofV, AV.blk, AV.bid, AV.one, SC.len, SC.get, List.length_nil, List.length_cons, Nat.reduceEqDiff, Nat.reduceAdd, ↓reduceIte, true_and, and_true, Bool.true_eq_false, Bool.false_eq_true, false_imp_iff, true_imp_iff, decide_eq_true_eq, Bool.not_eq_true', Bool.not_eq_false', decide_eq_false_iff_not, Option.isSome, List.nil_append, List.cons_append, aGuardO_some, aGuard_tt, aGuard_tf, aGuard_ft, aGuard_ff, aGuard_tb, aGuard_fb, aGuard_ts, aGuard_fs, aPick_b, aPick_t, aPick_f, aAlloc_one, aAlloc_flat, aBox_some, aBuild_flat, aInt_add, aBin_add, aInt_sub, aBin_sub, aInt_mul, aBin_mul, aInt_quo, aBin_quo, aInt_rem, aBin_rem, aInt_and, aBin_and, aInt_or, aBin_or, aInt_xor, aBin_xor, aInt_andNot, aBin_andNot, aInt_eql, aBin_eql, aInt_neq, aBin_neq, aInt_lss, aBin_lss, aInt_leq, aBin_leq, aInt_gtr, aBin_gtr, aInt_geq, aBin_geq, aBin_shl, aBin_shr, aShift_shl, aShift_shr, aBin_be1, aBin_bn1, aBin_be2, aBin_bn2, aBin_be3, aBin_bn3, aBin_be4, aBin_bn4, aBin_be5, aBin_bn5, aBin_be6, aBin_bn6, aBin_be7, aBin_bn7, aBin_be8, aBin_bn8, aBin_be9, aBin_bn9, aUn_b, aUn_t, aUn_f, aUn_i, aNil_ptr, aNil_pv, aConv_int, aField_ptr, aField_pv, aIdx_sl, aIdx_prm, aIdx_row, aIdx_drow, aMake_i, aMake_s, aExtr_tup, aLen_ref, aLen_nil, aLen_sl, aLen_prm, aLen_str, aBuildL_some, aBuildS_some, aLoad_1b, aLoad_1d, aLoad_fb, aLoad_fd, aLoad_1p, aLoad_fp, aLoad_ep, aLoad_rr, aLoad_rd, aStore_1, aStore_f, aStore_r, aApp_some, aAppend_nil, aAppend_ref, aSlice_h, aSlice_l, aSlice_lh, bc_draw, kregD_at, aopsD_nil, aopsD_plain, aopsD_guard, kontD_at, contD_at, yesD_at, noD_at, splD_bool, splD_undef, splD_skip, splD_int, splD_tt, splD_ff, splD_str, splD_nil, splD_sl, splD_prm, splD_ref, splD_ptr, splD_rp, splD_ep, splD_pv, splD_agg, splD_tup, splD_clo, gD_tt, gD_tf, gD_ft, gD_ff, gD_ts, gD_fs, slotO_some, addTr_nil, addTr_cons, memQ_nil, memQ_cons, clash_nil, clash_cons, regC_none, regC_nil, regC_cons, regR_nil, regR_cons, rng0, rng1, rng2, rng3, rng4, SC.take, SC.drop, mp_nil, acond_ct, acond_cf, mp_one0, mp_one1, mp_one2, mp_one3, kcall_one, liveB_row, liveB_box, idx, cont, still, dies, lend, lendA, lendDies, snocs, SC.snoc, SC.app, meet, AV.cells, fillA, List.getD_cons_zero, List.getD_cons_succ, List.set_cons_zero, List.set_cons_succ, List.length_singleton, Nat.le_refl, Nat.lt_irrefl, Nat.reduceLT, Nat.reduceLeDiff, Option.map_some, Option.map_none, List.flatMap_nil, List.flatMap_cons, Nat.zero_add, BEq.rfl, sl3, ty3, un3, sl37, ty37, un37, sl44, ty44, un44, sl42, ty42, un42, sl5, ty5, un5, sl2, ty2, un2, sl21, ty21, un21, sl4, ty4, un4, sl9, un9, sl22, ty22, un22, inR64, inRu64, inRu32, Try.f28]
  refine ⟨fun h => ?_, fun h => ?_⟩ <;> simp [h, inB]
def lend_impl_within : List Nat := []
def sp_impl_within : List AV → List Bx → (AV → List Bx → Prop) → Prop
  | [.int .i64 n, .int .i64 l, .int .i64 m], [], K => K (.bool (inB n l m)) []
  | _, _, _ => False
theorem at_impl_within {n l m : Int} {K : AV → List Bx → Prop} : sp_impl_within [.int .i64 n, .int .i64 l, .int .i64 m] [] K = (K (.bool (inB n l m)) []) := id rfl
theorem ok_impl_within : ∀ args giv K, sp_impl_within args giv K → ∃ r outs, ARuns Try.prog 28 args giv r outs ∧ K r outs := by
  intro args giv K hk
  unfold sp_impl_within at hk
  split at hk
  · exact ⟨_, _, runs_impl_within _ _ _ , hk⟩
  · exact hk.elim
theorem is_impl_binomial : FnIs Try.prog 29 28 [.tmp 4] (Try.f29.body.getD .skip) := ⟨⟨Try.f29, by kernel_rfl, by kernel_rfl, by kernel_rfl, by kernel_rfl⟩, by kernel_rfl, by kernel_rfl⟩
def G_impl_binomial : Gm := Gm.none
theorem G_impl_binomial_ok : G_impl_binomial.ok Try.prog := Gm.none_ok
set_option maxHeartbeats 1000000 in
set_option maxRecDepth 100000 in
theorem runs_impl_binomial (n k : Int) (hp1 : -1000 ≤ k ∧ (n ≤ 20 ∨ n ≤ 1100 ∧ k ≤ 6)) : ARuns Try.prog 29 [.int .i64 n, .int .i64 k] [] (.int .i64 (chooseI n k)) [] := by
  refine ARuns_bc G_impl_binomial_ok is_impl_binomial (by simp) fun hl hlB => ?_
  simp only [kcode_at, kreg_at, bc_skip, bc_seq, bc_cond, bc_block, bc_exit, bc_ret, bc_region, lkX_cons, acond_tmp, aCase_t, aCase_f, aCase_b, afin_nil, cvE_some, resL, resV, cv, cvL, pack, entryE, inPrm, Option.getD_some, acall_clo, add_sp, add_lend, kcall_nil, selOf, selA, inArgs, inA, inL, okA, okL, okBx, okC, outA, outL, outU, outB, deep, deepL, boxIds, AV.bid, List.map_nil, List.map_cons, List.all_nil, List.all_cons, BEq.rfl, Bool.and_true, Bool.true_and, List.append_nil, aops_nil, aops_plain, aops_guard, kont_at, yes_at, no_at, aop_move, aop_assign, aop_pick, aop_alloc, aop_box, aop_build, aop_buildSlice, aop_load, aop_store, aop_nilCheck, aop_binOp, aop_unOp, aop_convert, aop_fieldAddr, aop_indexAddr, aop_slice, aop_extract, aop_makeSlice, aop_len, aop_max, aMax_int, slTy2, SC0, aop_append, aop_call, evalE, getE, putE, getB, setB, St.put, setsB, nth, AV.ofV, AV.blk, AV.bid, AV.one, SC.len, SC.get, List.length_nil, List.length_cons, Nat.reduceEqDiff, Nat.reduceAdd, ↓reduceIte, true_and, and_true, Bool.true_eq_false, Bool.false_eq_true, false_imp_iff, true_imp_iff, decide_eq_true_eq, Bool.not_eq_true', Bool.not_eq_false', decide_eq_false_iff_not, Option.isSome, List.nil_append, List.cons_append, aGuardO_some, aGuard_tt, aGuard_tf, aGuard_ft, aGuard_ff, aGuard_tb, aGuard_fb, aGuard_ts, aGuard_fs, aPick_b, aPick_t, aPick_f, aAlloc_one, aAlloc_flat, aBox_some, aBuild_flat, aInt_add, aBin_add, aInt_sub, aBin_sub, aInt_mul, aBin_mul, aInt_quo, aBin_quo, aInt_rem, aBin_rem, aInt_and, aBin_and, aInt_or, aBin_or, aInt_xor, aBin_xor, aInt_andNot, aBin_andNot, aInt_eql, aBin_eql, aInt_neq, aBin_neq, aInt_lss, aBin_lss, aInt_leq, aBin_leq, aInt_gtr, aBin_gtr, aInt_geq, aBin_geq, aBin_shl, aBin_shr, aShift_shl, aShift_shr, aBin_be1, aBin_bn1, aBin_be2, aBin_bn2, aBin_be3, aBin_bn3, aBin_be4, aBin_bn4, aBin_be5, aBin_bn5, aBin_be6, aBin_bn6, aBin_be7, aBin_bn7, aBin_be8, aBin_bn8, aBin_be9, aBin_bn9, aUn_b, aUn_t, aUn_f, aUn_i, aNil_ptr, aNil_pv, aConv_int, aField_ptr, aField_pv, aIdx_sl, aIdx_prm, aIdx_row, aIdx_drow, aMake_i, aMake_s, aExtr_tup, aLen_ref, aLen_nil, aLen_sl, aLen_prm, aLen_str, aBuildL_some, aBuildS_some, aLoad_1b, aLoad_1d, aLoad_fb, aLoad_fd, aLoad_1p, aLoad_fp, aLoad_ep, aLoad_rr, aLoad_rd, aStore_1, aStore_f, aStore_r, aApp_some, aAppend_nil, aAppend_ref, aSlice_h, aSlice_l, aSlice_lh, bc_draw, kregD_at, aopsD_nil, aopsD_plain, aopsD_guard, kontD_at, contD_at, yesD_at, noD_at, splD_bool, splD_undef, splD_skip, splD_int, splD_tt, splD_ff, splD_str, splD_nil, splD_sl, splD_prm, splD_ref, splD_ptr, splD_rp, splD_ep, splD_pv, splD_agg, splD_tup, splD_clo, gD_tt, gD_tf, gD_ft, gD_ff, gD_ts, gD_fs, slotO_some, addTr_nil, addTr_cons, memQ_nil, memQ_cons, clash_nil, clash_cons, regC_none, regC_nil, regC_cons, regR_nil, regR_cons, rng0, rng1, rng2, rng3, rng4, SC.take, SC.drop, mp_nil, acond_ct, acond_cf, mp_one0, mp_one1, mp_one2, mp_one3, kcall_one, liveB_row, liveB_box, idx, cont, still, dies, lend, lendA, lendDies, snocs, SC.snoc, SC.app, meet, AV.cells, fillA, List.getD_cons_zero, List.getD_cons_succ, List.set_cons_zero, List.set_cons_succ, List.length_singleton, Nat.le_refl, Nat.lt_irrefl, Nat.reduceLT, Nat.reduceLeDiff, Option.map_some, Option.map_none, List.flatMap_nil, List.flatMap_cons, Nat.zero_add, BEq.rfl, sl3, ty3, un3, sl37, ty37, un37, sl44, ty44, un44, sl42, ty42, un42, sl5, ty5, un5, sl2, ty2, un2, sl21, ty21, un21, sl4, ty4, un4, sl9, un9, sl22, ty22, un22, inR64, inRu64, inRu32, Try.f29]
  refine ⟨fun h => by rw [chooseI, if_neg (by omega)], fun h => ⟨fun h2 => by rw [chooseI, if_neg (by omega)], fun h2 => ?_⟩⟩
  obtain ⟨N, rfl⟩ : ∃ N : Nat, n = N := ⟨n.toNat, by omega⟩
  obtain ⟨K, rfl⟩ : ∃ K : Nat, k = K := ⟨k.toNat, by omega⟩
  refine bc_loop (fun j : Nat => j ≤ K) (fun j => ⟨[(0, .int .i64 N), (5, .int .i64 (ch N j)), (14, .int .i64 K), (15, .int .i64 j)], []⟩) (fun j => K - j)
    [0, 5, 14, 15] [] 0 rfl (by simp [St.conv, getE, cv, ch_one]) (by omega) fun j hj => ?_
  simp only [kcode_at, kreg_at, bc_skip, bc_seq, bc_cond, bc_block, bc_exit, bc_ret, bc_region, lkX_cons, acond_tmp, aCase_t, aCase_f, aCase_b, afin_nil, cvE_some, resL, resV, cv, cvL, pack, entryE, inPrm, Option.getD_some, acall_clo, add_sp, add_lend, kcall_nil, selOf, selA, inArgs, inA, inL, okA, okL, okBx, okC, outA, outL, outU, outB, deep, deepL, boxIds, AV.bid, List.map_nil, List.map_cons, List.all_nil, List.all_cons, BEq.rfl, Bool.and_true, Bool.true_and, List.append_nil, aops_nil, aops_plain, aops_guard, kont_at, yes_at, no_at, aop_move, aop_assign, aop_pick, aop_alloc, aop_box, aop_build, aop_buildSlice, aop_load, aop_store, aop_nilCheck, aop_binOp, aop_unOp, aop_convert, aop_fieldAddr, aop_indexAddr, aop_slice, aop_extract, aop_makeSlice, aop_len, aop_max, aMax_int, slTy2, SC0, aop_append, aop_call, evalE, getE, putE, getB, setB, St.put, setsB, nth, AV.ofV, AV.blk, AV.bid, AV.one, SC.len, SC.get, List.length_nil, List.length_cons, Nat.reduceEqDiff, Nat.reduceAdd, ↓reduceIte, true_and, and_true, Bool.true_eq_false, Bool.false_eq_true, false_imp_iff, true_imp_iff, decide_eq_true_eq, Bool.not_eq_true', Bool.not_eq_false', decide_eq_false_iff_not, Option.isSome, List.nil_append, List.cons_append, aGuardO_some, aGuard_tt, aGuard_tf, aGuard_ft, aGuard_ff, aGuard_tb, aGuard_fb, aGuard_ts, aGuard_fs, aPick_b, aPick_t, aPick_f, aAlloc_one, aAlloc_flat, aBox_some, aBuild_flat, aInt_add, aBin_add, aInt_sub, aBin_sub, aInt_mul, aBin_mul, aInt_quo, aBin_quo, aInt_rem, aBin_rem, aInt_and, aBin_and, aInt_or, aBin_or, aInt_xor, aBin_xor, aInt_andNot, aBin_andNot, aInt_eql, aBin_eql, aInt_neq, aBin_neq, aInt_lss, aBin_lss, aInt_leq, aBin_leq, aInt_gtr, aBin_gtr, aInt_geq, aBin_geq, aBin_shl, aBin_shr, aShift_shl, aShift_shr, aBin_be1, aBin_bn1, aBin_be2, aBin_bn2, aBin_be3, aBin_bn3, aBin_be4, aBin_bn4, aBin_be5, aBin_bn5, aBin_be6, aBin_bn6, aBin_be7, aBin_bn7, aBin_be8, aBin_bn8, aBin_be9, aBin_bn9, aUn_b, aUn_t, aUn_f, aUn_i, aNil_ptr, aNil_pv, aConv_int, aField_ptr, aField_pv, aIdx_sl, aIdx_prm, aIdx_row, aIdx_drow, aMake_i, aMake_s, aExtr_tup, aLen_ref, aLen_nil, aLen_sl, aLen_prm, aLen_str, aBuildL_some, aBuildS_some, aLoad_1b, aLoad_1d, aLoad_fb, aLoad_fd, aLoad_1p, aLoad_fp, aLoad_ep, aLoad_rr, aLoad_rd, aStore_1, aStore_f, aStore_r, aApp_some, aAppend_nil, aAppend_ref, aSlice_h, aSlice_l, aSlice_lh, bc_draw, kregD_at, aopsD_nil, aopsD_plain, aopsD_guard, kontD_at, contD_at, yesD_at, noD_at, splD_bool, splD_undef, splD_skip, splD_int, splD_tt, splD_ff, splD_str, splD_nil, splD_sl, splD_prm, splD_ref, splD_ptr, splD_rp, splD_ep, splD_pv, splD_agg, splD_tup, splD_clo, gD_tt, gD_tf, gD_ft, gD_ff, gD_ts, gD_fs, slotO_some, addTr_nil, addTr_cons, memQ_nil, memQ_cons, clash_nil, clash_cons, regC_none, regC_nil, regC_cons, regR_nil, regR_cons, rng0, rng1, rng2, rng3, rng4, SC.take, SC.drop, mp_nil, acond_ct, acond_cf, mp_one0, mp_one1, mp_one2, mp_one3, kcall_one, liveB_row, liveB_box, idx, cont, still, dies, lend, lendA, lendDies, snocs, SC.snoc, SC.app, meet, AV.cells, fillA, List.getD_cons_zero, List.getD_cons_succ, List.set_cons_zero, List.set_cons_succ, List.length_singleton, Nat.le_refl, Nat.lt_irrefl, Nat.reduceLT, Nat.reduceLeDiff, Option.map_some, Option.map_none, List.flatMap_nil, List.flatMap_cons, Nat.zero_add, BEq.rfl, sl3, ty3, un3, sl37, ty37, un37, sl44, ty44, un44, sl42, ty42, un42, sl5, ty5, un5, sl2, ty2, un2, sl21, ty21, un21, sl4, ty4, un4, sl9, un9, sl22, ty22, un22, inR64, inRu64, inRu32]
  have hs := ch_bd (n := N) (k := j) (by omega)
  have ed : ((ch N j * (N - j) : Nat) : Int).tdiv ((j + 1 : Nat) : Int) = (ch N (j + 1) : Nat) := tdivN (by omega) (ch_next (by omega))
  have ec : ((j : Int) + 1) = ((j + 1 : Nat) : Int) := by omega
  refine ⟨fun hi => ?_, fun hi => ?_⟩
  · have hm : ch N j * (N - j) ≤ 2 ^ 62 := ch_mul_bd (by omega)
    have e1 : (N : Int) - j = ((N - j : Nat) : Int) := by omega
    have e2 : (ch N j : Int) * ((N - j : Nat) : Int) = ((ch N j * (N - j) : Nat) : Int) := by simp
    rw [e1, e2, ec, ed]
    have := ch_bd (n := N) (k := j + 1) (by omega)
    refine ⟨by omega, by omega, by omega, ⟨by omega, by omega⟩, by omega, ?_⟩
    refine klp_of (j + 1) ?_ (by omega) (by omega)
    simp [St.conv, getE, cv]
  · have : j = K := by omega
    subst this
    rw [chooseI, if_pos (by omega)]
    simp
def lend_impl_binomial : List Nat := []
def sp_impl_binomial : List AV → List Bx → (AV → List Bx → Prop) → Prop
  | [.int .i64 n, .int .i64 k], [], K => (-1000 ≤ k ∧ (n ≤ 20 ∨ n ≤ 1100 ∧ k ≤ 6)) ∧ K (.int .i64 (chooseI n k)) []
  | _, _, _ => False
theorem at_impl_binomial {n k : Int} {K : AV → List Bx → Prop} : sp_impl_binomial [.int .i64 n, .int .i64 k] [] K = ((-1000 ≤ k ∧ (n ≤ 20 ∨ n ≤ 1100 ∧ k ≤ 6)) ∧ K (.int .i64 (chooseI n k)) []) := id rfl
theorem ok_impl_binomial : ∀ args giv K, sp_impl_binomial args giv K → ∃ r outs, ARuns Try.prog 29 args giv r outs ∧ K r outs := by
  intro args giv K hk
  unfold sp_impl_binomial at hk
  split at hk
  · obtain ⟨hp1, hk⟩ := hk; exact ⟨_, _, runs_impl_binomial _ _ hp1, hk⟩
  · exact hk.elim
theorem is_impl_CascadeOf : FnIs Try.prog 22 45 [.tmp 4, .tmp 5] (Try.f22.body.getD .skip) := ⟨⟨Try.f22, by kernel_rfl, by kernel_rfl, by kernel_rfl, by kernel_rfl⟩, by kernel_rfl, by kernel_rfl⟩
def G_impl_CascadeOf : Gm := ((Gm.none.add 28 lend_impl_within sp_impl_within).add 29 lend_impl_binomial sp_impl_binomial)
theorem G_impl_CascadeOf_ok : G_impl_CascadeOf.ok Try.prog := (Gm.add_ok (Gm.add_ok Gm.none_ok ok_impl_within) ok_impl_binomial)
theorem gs_impl_CascadeOf_28 : G_impl_CascadeOf.sp 28 = sp_impl_within ∧ G_impl_CascadeOf.lend 28 = lend_impl_within := ⟨rfl, rfl⟩
theorem gs_impl_CascadeOf_29 : G_impl_CascadeOf.sp 29 = sp_impl_binomial ∧ G_impl_CascadeOf.lend 29 = lend_impl_binomial := ⟨rfl, rfl⟩
set_option maxHeartbeats 1000000 in
set_option maxRecDepth 100000 in
theorem runs_impl_CascadeOf (m k : Int) : ARuns Try.prog 22 [.int .i64 m, .int .i64 k] [] (.tup [.ref 0 (cascL m k).length, .bool (cascOk m k)]) [.row 3 (.ints .i64 (cascL m k))] := by
  refine ARuns_bc G_impl_CascadeOf_ok is_impl_CascadeOf (by simp) fun hl hlB => ?_
  simp only [kcode_at, kreg_at, bc_skip, bc_seq, bc_cond, bc_block, bc_exit, bc_ret, bc_region, lkX_cons, acond_tmp, aCase_t, aCase_f, aCase_b, afin_nil, cvE_some, resL, resV, cv, cvL, pack, entryE, inPrm, Option.getD_some, acall_clo, add_sp, add_lend, kcall_nil, selOf, selA, inArgs, inA, inL, okA, okL, okBx, okC, outA, outL, outU, outB, deep, deepL, boxIds, AV.bid, List.map_nil, List.map_cons, List.all_nil, List.all_cons, BEq.rfl, Bool.and_true, Bool.true_and, List.append_nil, aops_nil, aops_plain, aops_guard, kont_at, yes_at, no_at, aop_move, aop_assign, aop_pick, aop_alloc, aop_box, aop_build, aop_buildSlice, aop_load, aop_store, aop_nilCheck, aop_binOp, aop_unOp, aop_convert, aop_fieldAddr, aop_indexAddr, aop_slice, aop_extract, aop_makeSlice, aop_len, aop_max, aMax_int, slTy2, SC0, aop_append, aop_call, evalE, getE, putE, getB, setB, St.put, setsB, nth, AV.ofV, AV.blk, AV.bid, AV.one, SC.len, SC.get, List.length_nil, List.length_cons, Nat.reduceEqDiff, Nat.reduceAdd, ↓reduceIte, true_and, and_true, Bool.true_eq_false, Bool.false_eq_true, false_imp_iff, true_imp_iff, decide_eq_true_eq, Bool.not_eq_true', Bool.not_eq_false', decide_eq_false_iff_not, Option.isSome, List.nil_append, List.cons_append, aGuardO_some, aGuard_tt, aGuard_tf, aGuard_ft, aGuard_ff, aGuard_tb, aGuard_fb, aGuard_ts, aGuard_fs, aPick_b, aPick_t, aPick_f, aAlloc_one, aAlloc_flat, aBox_some, aBuild_flat, aInt_add, aBin_add, aInt_sub, aBin_sub, aInt_mul, aBin_mul, aInt_quo, aBin_quo, aInt_rem, aBin_rem, aInt_and, aBin_and, aInt_or, aBin_or, aInt_xor, aBin_xor, aInt_andNot, aBin_andNot, aInt_eql, aBin_eql, aInt_neq, aBin_neq, aInt_lss, aBin_lss, aInt_leq, aBin_leq, aInt_gtr, aBin_gtr, aInt_geq, aBin_geq, aBin_shl, aBin_shr, aShift_shl, aShift_shr, aBin_be1, aBin_bn1, aBin_be2, aBin_bn2, aBin_be3, aBin_bn3, aBin_be4, aBin_bn4, aBin_be5, aBin_bn5, aBin_be6, aBin_bn6, aBin_be7, aBin_bn7, aBin_be8, aBin_bn8, aBin_be9, aBin_bn9, aUn_b, aUn_t, aUn_f, aUn_i, aNil_ptr, aNil_pv, aConv_int, aField_ptr, aField_pv, aIdx_sl, aIdx_prm, aIdx_row, aIdx_drow, aMake_i, aMake_s, aExtr_tup, aLen_ref, aLen_nil, aLen_sl, aLen_prm, aLen_str, aBuildL_some, aBuildS_some, aLoad_1b, aLoad_1d, aLoad_fb, aLoad_fd, aLoad_1p, aLoad_fp, aLoad_ep, aLoad_rr, aLoad_rd, aStore_1, aStore_f, aStore_r, aApp_some, aAppend_nil, aAppend_ref, aSlice_h, aSlice_l, aSlice_lh, bc_draw, kregD_at, aopsD_nil, aopsD_plain, aopsD_guard, kontD_at, contD_at, yesD_at, noD_at, splD_bool, splD_undef, splD_skip, splD_int, splD_tt, splD_ff, splD_str, splD_nil, splD_sl, splD_prm, splD_ref, splD_ptr, splD_rp, splD_ep, splD_pv, splD_agg, splD_tup, splD_clo, gD_tt, gD_tf, gD_ft, gD_ff, gD_ts, gD_fs, slotO_some, addTr_nil, addTr_cons, memQ_nil, memQ_cons, clash_nil, clash_cons, regC_none, regC_nil, regC_cons, regR_nil, regR_cons, rng0, rng1, rng2, rng3, rng4, SC.take, SC.drop, mp_nil, acond_ct, acond_cf, mp_one0, mp_one1, mp_one2, mp_one3, kcall_one, liveB_row, liveB_box, idx, cont, still, dies, lend, lendA, lendDies, snocs, SC.snoc, SC.app, meet, AV.cells, fillA, List.getD_cons_zero, List.getD_cons_succ, List.set_cons_zero, List.set_cons_succ, List.length_singleton, Nat.le_refl, Nat.lt_irrefl, Nat.reduceLT, Nat.reduceLeDiff, Option.map_some, Option.map_none, List.flatMap_nil, List.flatMap_cons, Nat.zero_add, BEq.rfl, sl3, ty3, un3, sl37, ty37, un37, sl44, ty44, un44, sl42, ty42, un42, sl5, ty5, un5, sl2, ty2, un2, sl21, ty21, un21, sl4, ty4, un4, sl9, un9, sl22, ty22, un22, inR64, inRu64, inRu32, gs_impl_CascadeOf_28, at_impl_within, lend_impl_within, gs_impl_CascadeOf_29, at_impl_binomial, lend_impl_binomial, Try.f22]
  refine ⟨fun h => ?_, fun h1 => ⟨fun h => ?_, fun h2 => ?_⟩⟩
  · have := casc_f (m := m) (k := k) (.inl h)
    rw [this.1, this.2]
    exact afin_ofN [(4, 3, .ints .i64 [])] [0] rfl rfl rfl (by simp [St.conv, St.bf, getE, putE, getB, cv, cvL, cvB, idx, still, pack, lifts]) (by simp [St.conv, St.bf, getE, putE, getB, cv, cvL, cvB, idx, still, pack, lifts])
  · have := casc_f (m := m) (k := k) (.inr h)
    rw [this.1, this.2]
    exact afin_ofN [(4, 3, .ints .i64 [])] [0] rfl rfl rfl (by simp [St.conv, St.bf, getE, putE, getB, cv, cvL, cvB, idx, still, pack, lifts]) (by simp [St.conv, St.bf, getE, putE, getB, cv, cvL, cvB, idx, still, pack, lifts])
  have hc := casc_t h1 h2
  rw [hc.1, hc.2]
  rw [inB_t] at h1 h2
  refine bc_loopN [(6, 3, .ints .i64 [])] (fun p : List Int × Nat × Nat => p.1 ++ casc p.2.1 p.2.2 = casc k.toNat m.toNat ∧ p.1.length + p.2.1 ≤ k.toNat ∧ p.2.2 ≤ 1000)
    (fun p => ⟨[(0, .int .i64 p.2.2), (6, .ref 0 p.1.length), (7, .int .i64 p.2.1)], [.row 3 (.ints .i64 p.1)]⟩) (fun p => p.2.1)
    [0, 6, 7] [0] ([], k.toNat, m.toNat) rfl rfl (by simp [St.conv, St.bf, getE, putE, getB, cv, cvL, cvB, idx, still, pack, lifts]; omega) ⟨rfl, by simp, by simp only; omega⟩ fun ⟨l, j, m'⟩ ⟨v1, v2, v3⟩ => ?_
  simp only at v1 v2 v3
  simp only [kcode_at, kreg_at, bc_skip, bc_seq, bc_cond, bc_block, bc_exit, bc_ret, bc_region, lkX_cons, acond_tmp, aCase_t, aCase_f, aCase_b, afin_nil, cvE_some, resL, resV, cv, cvL, pack, entryE, inPrm, Option.getD_some, acall_clo, add_sp, add_lend, kcall_nil, selOf, selA, inArgs, inA, inL, okA, okL, okBx, okC, outA, outL, outU, outB, deep, deepL, boxIds, AV.bid, List.map_nil, List.map_cons, List.all_nil, List.all_cons, BEq.rfl, Bool.and_true, Bool.true_and, List.append_nil, aops_nil, aops_plain, aops_guard, kont_at, yes_at, no_at, aop_move, aop_assign, aop_pick, aop_alloc, aop_box, aop_build, aop_buildSlice, aop_load, aop_store, aop_nilCheck, aop_binOp, aop_unOp, aop_convert, aop_fieldAddr, aop_indexAddr, aop_slice, aop_extract, aop_makeSlice, aop_len, aop_max, aMax_int, slTy2, SC0, aop_append, aop_call, evalE, getE, putE, getB, setB, St.put, setsB, nth, AV.ofV, AV.blk, AV.bid, AV.one, SC.len, SC.get, List.length_nil, List.length_cons, Nat.reduceEqDiff, Nat.reduceAdd, ↓reduceIte, true_and, and_true, Bool.true_eq_false, Bool.false_eq_true, false_imp_iff, true_imp_iff, decide_eq_true_eq, Bool.not_eq_true', Bool.not_eq_false', decide_eq_false_iff_not, Option.isSome, List.nil_append, List.cons_append, aGuardO_some, aGuard_tt, aGuard_tf, aGuard_ft, aGuard_ff, aGuard_tb, aGuard_fb, aGuard_ts, aGuard_fs, aPick_b, aPick_t, aPick_f, aAlloc_one, aAlloc_flat, aBox_some, aBuild_flat, aInt_add, aBin_add, aInt_sub, aBin_sub, aInt_mul, aBin_mul, aInt_quo, aBin_quo, aInt_rem, aBin_rem, aInt_and, aBin_and, aInt_or, aBin_or, aInt_xor, aBin_xor, aInt_andNot, aBin_andNot, aInt_eql, aBin_eql, aInt_neq, aBin_neq, aInt_lss, aBin_lss, aInt_leq, aBin_leq, aInt_gtr, aBin_gtr, aInt_geq, aBin_geq, aBin_shl, aBin_shr, aShift_shl, aShift_shr, aBin_be1, aBin_bn1, aBin_be2, aBin_bn2, aBin_be3, aBin_bn3, aBin_be4, aBin_bn4, aBin_be5, aBin_bn5, aBin_be6, aBin_bn6, aBin_be7, aBin_bn7, aBin_be8, aBin_bn8, aBin_be9, aBin_bn9, aUn_b, aUn_t, aUn_f, aUn_i, aNil_ptr, aNil_pv, aConv_int, aField_ptr, aField_pv, aIdx_sl, aIdx_prm, aIdx_row, aIdx_drow, aMake_i, aMake_s, aExtr_tup, aLen_ref, aLen_nil, aLen_sl, aLen_prm, aLen_str, aBuildL_some, aBuildS_some, aLoad_1b, aLoad_1d, aLoad_fb, aLoad_fd, aLoad_1p, aLoad_fp, aLoad_ep, aLoad_rr, aLoad_rd, aStore_1, aStore_f, aStore_r, aApp_some, aAppend_nil, aAppend_ref, aSlice_h, aSlice_l, aSlice_lh, bc_draw, kregD_at, aopsD_nil, aopsD_plain, aopsD_guard, kontD_at, contD_at, yesD_at, noD_at, splD_bool, splD_undef, splD_skip, splD_int, splD_tt, splD_ff, splD_str, splD_nil, splD_sl, splD_prm, splD_ref, splD_ptr, splD_rp, splD_ep, splD_pv, splD_agg, splD_tup, splD_clo, gD_tt, gD_tf, gD_ft, gD_ff, gD_ts, gD_fs, slotO_some, addTr_nil, addTr_cons, memQ_nil, memQ_cons, clash_nil, clash_cons, regC_none, regC_nil, regC_cons, regR_nil, regR_cons, rng0, rng1, rng2, rng3, rng4, SC.take, SC.drop, mp_nil, acond_ct, acond_cf, mp_one0, mp_one1, mp_one2, mp_one3, kcall_one, liveB_row, liveB_box, idx, cont, still, dies, lend, lendA, lendDies, snocs, SC.snoc, SC.app, meet, AV.cells, fillA, List.getD_cons_zero, List.getD_cons_succ, List.set_cons_zero, List.set_cons_succ, List.length_singleton, Nat.le_refl, Nat.lt_irrefl, Nat.reduceLT, Nat.reduceLeDiff, Option.map_some, Option.map_none, List.flatMap_nil, List.flatMap_cons, Nat.zero_add, BEq.rfl, sl3, ty3, un3, sl37, ty37, un37, sl44, ty44, un44, sl42, ty42, un42, sl5, ty5, un5, sl2, ty2, un2, sl21, ty21, un21, sl4, ty4, un4, sl9, un9, sl22, ty22, un22, inR64, inRu64, inRu32, gs_impl_CascadeOf_28, at_impl_within, lend_impl_within, gs_impl_CascadeOf_29, at_impl_binomial, lend_impl_binomial]
  refine ⟨fun hj => ⟨fun hm => ?_, fun hm => ?_⟩, fun hj => ?_⟩
  · obtain ⟨j, rfl⟩ : ∃ i, j = i + 1 := ⟨j - 1, by omega⟩
    refine bc_loop (fun a : Nat => j + 1 ≤ a ∧ a ≤ 1010 ∧ topA m' (j + 1) a = topA m' (j + 1) (j + 1) ∧ ch a (j + 1) ≤ m')
      (fun a => ⟨[(0, .int .i64 m'), (6, .ref 0 l.length), (7, .int .i64 ((j + 1 : Nat) : Int)), (8, .int .i64 a)], [.row 3 (.ints .i64 l)]⟩) (fun a => 1050 - a)
      [0, 6, 7, 8] [0] (j + 1) rfl (by simp [St.conv, St.bf, getE, putE, getB, cv, cvL, cvB, idx, still, pack, lifts]) ⟨by omega, by omega, rfl, by rw [ch_self]; omega⟩ fun a ⟨w1, w2, w3, w4⟩ => ?_
    simp only [kcode_at, kreg_at, bc_skip, bc_seq, bc_cond, bc_block, bc_exit, bc_ret, bc_region, lkX_cons, acond_tmp, aCase_t, aCase_f, aCase_b, afin_nil, cvE_some, resL, resV, cv, cvL, pack, entryE, inPrm, Option.getD_some, acall_clo, add_sp, add_lend, kcall_nil, selOf, selA, inArgs, inA, inL, okA, okL, okBx, okC, outA, outL, outU, outB, deep, deepL, boxIds, AV.bid, List.map_nil, List.map_cons, List.all_nil, List.all_cons, BEq.rfl, Bool.and_true, Bool.true_and, List.append_nil, aops_nil, aops_plain, aops_guard, kont_at, yes_at, no_at, aop_move, aop_assign, aop_pick, aop_alloc, aop_box, aop_build, aop_buildSlice, aop_load, aop_store, aop_nilCheck, aop_binOp, aop_unOp, aop_convert, aop_fieldAddr, aop_indexAddr, aop_slice, aop_extract, aop_makeSlice, aop_len, aop_max, aMax_int, slTy2, SC0, aop_append, aop_call, evalE, getE, putE, getB, setB, St.put, setsB, nth, AV.ofV, AV.blk, AV.bid, AV.one, SC.len, SC.get, List.length_nil, List.length_cons, Nat.reduceEqDiff, Nat.reduceAdd, ↓reduceIte, true_and, and_true, Bool.true_eq_false, Bool.false_eq_true, false_imp_iff, true_imp_iff, decide_eq_true_eq, Bool.not_eq_true', Bool.not_eq_false', decide_eq_false_iff_not, Option.isSome, List.nil_append, List.cons_append, aGuardO_some, aGuard_tt, aGuard_tf, aGuard_ft, aGuard_ff, aGuard_tb, aGuard_fb, aGuard_ts, aGuard_fs, aPick_b, aPick_t, aPick_f, aAlloc_one, aAlloc_flat, aBox_some, aBuild_flat, aInt_add, aBin_add, aInt_sub, aBin_sub, aInt_mul, aBin_mul, aInt_quo, aBin_quo, aInt_rem, aBin_rem, aInt_and, aBin_and, aInt_or, aBin_or, aInt_xor, aBin_xor, aInt_andNot, aBin_andNot, aInt_eql, aBin_eql, aInt_neq, aBin_neq, aInt_lss, aBin_lss, aInt_leq, aBin_leq, aInt_gtr, aBin_gtr, aInt_geq, aBin_geq, aBin_shl, aBin_shr, aShift_shl, aShift_shr, aBin_be1, aBin_bn1, aBin_be2, aBin_bn2, aBin_be3, aBin_bn3, aBin_be4, aBin_bn4, aBin_be5, aBin_bn5, aBin_be6, aBin_bn6, aBin_be7, aBin_bn7, aBin_be8, aBin_bn8, aBin_be9, aBin_bn9, aUn_b, aUn_t, aUn_f, aUn_i, aNil_ptr, aNil_pv, aConv_int, aField_ptr, aField_pv, aIdx_sl, aIdx_prm, aIdx_row, aIdx_drow, aMake_i, aMake_s, aExtr_tup, aLen_ref, aLen_nil, aLen_sl, aLen_prm, aLen_str, aBuildL_some, aBuildS_some, aLoad_1b, aLoad_1d, aLoad_fb, aLoad_fd, aLoad_1p, aLoad_fp, aLoad_ep, aLoad_rr, aLoad_rd, aStore_1, aStore_f, aStore_r, aApp_some, aAppend_nil, aAppend_ref, aSlice_h, aSlice_l, aSlice_lh, bc_draw, kregD_at, aopsD_nil, aopsD_plain, aopsD_guard, kontD_at, contD_at, yesD_at, noD_at, splD_bool, splD_undef, splD_skip, splD_int, splD_tt, splD_ff, splD_str, splD_nil, splD_sl, splD_prm, splD_ref, splD_ptr, splD_rp, splD_ep, splD_pv, splD_agg, splD_tup, splD_clo, gD_tt, gD_tf, gD_ft, gD_ff, gD_ts, gD_fs, slotO_some, addTr_nil, addTr_cons, memQ_nil, memQ_cons, clash_nil, clash_cons, regC_none, regC_nil, regC_cons, regR_nil, regR_cons, rng0, rng1, rng2, rng3, rng4, SC.take, SC.drop, mp_nil, acond_ct, acond_cf, mp_one0, mp_one1, mp_one2, mp_one3, kcall_one, liveB_row, liveB_box, idx, cont, still, dies, lend, lendA, lendDies, snocs, SC.snoc, SC.app, meet, AV.cells, fillA, List.getD_cons_zero, List.getD_cons_succ, List.set_cons_zero, List.set_cons_succ, List.length_singleton, Nat.le_refl, Nat.lt_irrefl, Nat.reduceLT, Nat.reduceLeDiff, Option.map_some, Option.map_none, List.flatMap_nil, List.flatMap_cons, Nat.zero_add, BEq.rfl, sl3, ty3, un3, sl37, ty37, un37, sl44, ty44, un44, sl42, ty42, un42, sl5, ty5, un5, sl2, ty2, un2, sl21, ty21, un21, sl4, ty4, un4, sl9, un9, sl22, ty22, un22, inR64, inRu64, inRu32, gs_impl_CascadeOf_28, at_impl_within, lend_impl_within, gs_impl_CascadeOf_29, at_impl_binomial, lend_impl_binomial]
    have e1 : (a : Int) + 1 = ((a + 1 : Nat) : Int) := by omega
    rw [e1, chooseI_nat (by omega), chooseI_nat w1]
    refine ⟨by omega, by omega, fun hle => ⟨by omega, ?_⟩, fun hle => ?_⟩
    · have hst := step_bd (m := m') (j := j + 1) (a := a) v3 (by omega) (by omega) (by omega)
      exact klp_of (a + 1) (by simp [St.conv, St.bf, getE, putE, getB, cv, cvL, cvB, idx, still, pack, lifts]) ⟨by omega, by omega, (topA_next (by omega) (by omega)).symm.trans w3, by omega⟩ (by omega)
    · refine ⟨by omega, by omega, by omega, by omega, ?_⟩
      have et : topA m' (j + 1) (j + 1) = a := by rw [← w3, topA_stop (by omega)]
      refine klp_of (l ++ [(a : Int)], j, m' - ch a (j + 1)) (by simp [St.conv, St.bf, getE, putE, getB, cv, cvL, cvB, idx, still, pack, lifts]; omega) ⟨?_, by simp; omega, by simp only; omega⟩ (by simp)
      simp only
      rw [← v1, casc, if_neg (by omega), et]; simp
  · have : m' = 0 := by omega
    subst this
    rw [casc_none, List.append_nil] at v1
    rw [← v1]
    exact afin_of [0] rfl rfl (by simp [St.conv, St.bf, getE, putE, getB, cv, cvL, cvB, idx, still, pack, lifts]) (by simp [St.conv, St.bf, getE, putE, getB, cv, cvL, cvB, idx, still, pack, lifts])
  · have : j = 0 := by omega
    subst this
    rw [casc_zero, List.append_nil] at v1
    rw [← v1]
    exact afin_of [0] rfl rfl (by simp [St.conv, St.bf, getE, putE, getB, cv, cvL, cvB, idx, still, pack, lifts]) (by simp [St.conv, St.bf, getE, putE, getB, cv, cvL, cvB, idx, still, pack, lifts])
def lend_impl_CascadeOf : List Nat := []
def sp_impl_CascadeOf : List AV → List Bx → (AV → List Bx → Prop) → Prop
  | [.int .i64 m, .int .i64 k], [], K => K (.tup [.ref 0 (cascL m k).length, .bool (cascOk m k)]) [.row 3 (.ints .i64 (cascL m k))]
  | _, _, _ => False
theorem at_impl_CascadeOf {m k : Int} {K : AV → List Bx → Prop} : sp_impl_CascadeOf [.int .i64 m, .int .i64 k] [] K = (K (.tup [.ref 0 (cascL m k).length, .bool (cascOk m k)]) [.row 3 (.ints .i64 (cascL m k))]) := id rfl
theorem ok_impl_CascadeOf : ∀ args giv K, sp_impl_CascadeOf args giv K → ∃ r outs, ARuns Try.prog 22 args giv r outs ∧ K r outs := by
  intro args giv K hk
  unfold sp_impl_CascadeOf at hk
  split at hk
  · exact ⟨_, _, runs_impl_CascadeOf _ _ , hk⟩
  · exact hk.elim
theorem is_laws_markIntS : FnIs Try.prog 23 19 [.tmp 4] (Try.f23.body.getD .skip) := ⟨⟨Try.f23, by kernel_rfl, by kernel_rfl, by kernel_rfl, by kernel_rfl⟩, by kernel_rfl, by kernel_rfl⟩
def G_laws_markIntS : Gm := Gm.none
theorem G_laws_markIntS_ok : G_laws_markIntS.ok Try.prog := Gm.none_ok
set_option maxHeartbeats 1000000 in
set_option maxRecDepth 100000 in
theorem runs_laws_markIntS (k : Int) (e : TypeId) (n : Nat) (xs : List Int) (hp1 : n = xs.length) (hp2 : 0 ≤ k ∧ k + xs.length ≤ 9223372036854775807) : ARuns Try.prog 23 [.ref 0 n, .int .i64 k] [.row e (.ints .i64 xs)] (.int .i64 (k + xs.length)) [.row e (.ints .i64 (iotaI k xs.length))] := by
  refine ARuns_bc G_laws_markIntS_ok is_laws_markIntS (by simp) fun hl hlB => ?_
  simp only [kcode_at, kreg_at, bc_skip, bc_seq, bc_cond, bc_block, bc_exit, bc_ret, bc_region, lkX_cons, acond_tmp, aCase_t, aCase_f, aCase_b, afin_nil, cvE_some, resL, resV, cv, cvL, pack, entryE, inPrm, Option.getD_some, acall_clo, add_sp, add_lend, kcall_nil, selOf, selA, inArgs, inA, inL, okA, okL, okBx, okC, outA, outL, outU, outB, deep, deepL, boxIds, AV.bid, List.map_nil, List.map_cons, List.all_nil, List.all_cons, BEq.rfl, Bool.and_true, Bool.true_and, List.append_nil, aops_nil, aops_plain, aops_guard, kont_at, yes_at, no_at, aop_move, aop_assign, aop_pick, aop_alloc, aop_box, aop_build, aop_buildSlice, aop_load, aop_store, aop_nilCheck, aop_binOp, aop_unOp, aop_convert, aop_fieldAddr, aop_indexAddr, aop_slice, aop_extract, aop_makeSlice, aop_len, aop_max, aMax_int, slTy2, SC0, aop_append, aop_call, evalE, getE, putE, getB, setB, St.put, setsB, nth, AV.ofV, AV.blk, AV.bid, AV.one, SC.len, SC.get, List.length_nil, List.length_cons, Nat.reduceEqDiff, Nat.reduceAdd, ↓reduceIte, true_and, and_true, Bool.true_eq_false, Bool.false_eq_true, false_imp_iff, true_imp_iff, decide_eq_true_eq, Bool.not_eq_true', Bool.not_eq_false', decide_eq_false_iff_not, Option.isSome, List.nil_append, List.cons_append, aGuardO_some, aGuard_tt, aGuard_tf, aGuard_ft, aGuard_ff, aGuard_tb, aGuard_fb, aGuard_ts, aGuard_fs, aPick_b, aPick_t, aPick_f, aAlloc_one, aAlloc_flat, aBox_some, aBuild_flat, aInt_add, aBin_add, aInt_sub, aBin_sub, aInt_mul, aBin_mul, aInt_quo, aBin_quo, aInt_rem, aBin_rem, aInt_and, aBin_and, aInt_or, aBin_or, aInt_xor, aBin_xor, aInt_andNot, aBin_andNot, aInt_eql, aBin_eql, aInt_neq, aBin_neq, aInt_lss, aBin_lss, aInt_leq, aBin_leq, aInt_gtr, aBin_gtr, aInt_geq, aBin_geq, aBin_shl, aBin_shr, aShift_shl, aShift_shr, aBin_be1, aBin_bn1, aBin_be2, aBin_bn2, aBin_be3, aBin_bn3, aBin_be4, aBin_bn4, aBin_be5, aBin_bn5, aBin_be6, aBin_bn6, aBin_be7, aBin_bn7, aBin_be8, aBin_bn8, aBin_be9, aBin_bn9, aUn_b, aUn_t, aUn_f, aUn_i, aNil_ptr, aNil_pv, aConv_int, aField_ptr, aField_pv, aIdx_sl, aIdx_prm, aIdx_row, aIdx_drow, aMake_i, aMake_s, aExtr_tup, aLen_ref, aLen_nil, aLen_sl, aLen_prm, aLen_str, aBuildL_some, aBuildS_some, aLoad_1b, aLoad_1d, aLoad_fb, aLoad_fd, aLoad_1p, aLoad_fp, aLoad_ep, aLoad_rr, aLoad_rd, aStore_1, aStore_f, aStore_r, aApp_some, aAppend_nil, aAppend_ref, aSlice_h, aSlice_l, aSlice_lh, bc_draw, kregD_at, aopsD_nil, aopsD_plain, aopsD_guard, kontD_at, contD_at, yesD_at, noD_at, splD_bool, splD_undef, splD_skip, splD_int, splD_tt, splD_ff, splD_str, splD_nil, splD_sl, splD_prm, splD_ref, splD_ptr, splD_rp, splD_ep, splD_pv, splD_agg, splD_tup, splD_clo, gD_tt, gD_tf, gD_ft, gD_ff, gD_ts, gD_fs, slotO_some, addTr_nil, addTr_cons, memQ_nil, memQ_cons, clash_nil, clash_cons, regC_none, regC_nil, regC_cons, regR_nil, regR_cons, rng0, rng1, rng2, rng3, rng4, SC.take, SC.drop, mp_nil, acond_ct, acond_cf, mp_one0, mp_one1, mp_one2, mp_one3, kcall_one, liveB_row, liveB_box, idx, cont, still, dies, lend, lendA, lendDies, snocs, SC.snoc, SC.app, meet, AV.cells, fillA, List.getD_cons_zero, List.getD_cons_succ, List.set_cons_zero, List.set_cons_succ, List.length_singleton, Nat.le_refl, Nat.lt_irrefl, Nat.reduceLT, Nat.reduceLeDiff, Option.map_some, Option.map_none, List.flatMap_nil, List.flatMap_cons, Nat.zero_add, BEq.rfl, sl3, ty3, un3, sl37, ty37, un37, sl44, ty44, un44, sl42, ty42, un42, sl5, ty5, un5, sl2, ty2, un2, sl21, ty21, un21, sl4, ty4, un4, sl9, un9, sl22, ty22, un22, inR64, inRu64, inRu32, Try.f23]
  subst hp1
  refine bc_loop (fun i : Nat => i ≤ xs.length)
    (fun i => ⟨[(0, .ref 0 xs.length), (1, .int .i64 (k + i)), (5, .int .i64 i)], [.row e (.ints .i64 (iotaI k i ++ xs.drop i))]⟩) (fun i => xs.length - i)
    [0, 1, 5] [0] 0 rfl (by simp [St.conv, St.bf, getE, putE, getB, cv, cvL, cvB, idx, still, pack, lifts]; simp [iotaI]) (by simp) fun i h1 => ?_
  simp only [kcode_at, kreg_at, bc_skip, bc_seq, bc_cond, bc_block, bc_exit, bc_ret, bc_region, lkX_cons, acond_tmp, aCase_t, aCase_f, aCase_b, afin_nil, cvE_some, resL, resV, cv, cvL, pack, entryE, inPrm, Option.getD_some, acall_clo, add_sp, add_lend, kcall_nil, selOf, selA, inArgs, inA, inL, okA, okL, okBx, okC, outA, outL, outU, outB, deep, deepL, boxIds, AV.bid, List.map_nil, List.map_cons, List.all_nil, List.all_cons, BEq.rfl, Bool.and_true, Bool.true_and, List.append_nil, aops_nil, aops_plain, aops_guard, kont_at, yes_at, no_at, aop_move, aop_assign, aop_pick, aop_alloc, aop_box, aop_build, aop_buildSlice, aop_load, aop_store, aop_nilCheck, aop_binOp, aop_unOp, aop_convert, aop_fieldAddr, aop_indexAddr, aop_slice, aop_extract, aop_makeSlice, aop_len, aop_max, aMax_int, slTy2, SC0, aop_append, aop_call, evalE, getE, putE, getB, setB, St.put, setsB, nth, AV.ofV, AV.blk, AV.bid, AV.one, SC.len, SC.get, List.length_nil, List.length_cons, Nat.reduceEqDiff, Nat.reduceAdd, ↓reduceIte, true_and, and_true, Bool.true_eq_false, Bool.false_eq_true, false_imp_iff, true_imp_iff, decide_eq_true_eq, Bool.not_eq_true', Bool.not_eq_false', decide_eq_false_iff_not, Option.isSome, List.nil_append, List.cons_append, aGuardO_some, aGuard_tt, aGuard_tf, aGuard_ft, aGuard_ff, aGuard_tb, aGuard_fb, aGuard_ts, aGuard_fs, aPick_b, aPick_t, aPick_f, aAlloc_one, aAlloc_flat, aBox_some, aBuild_flat, aInt_add, aBin_add, aInt_sub, aBin_sub, aInt_mul, aBin_mul, aInt_quo, aBin_quo, aInt_rem, aBin_rem, aInt_and, aBin_and, aInt_or, aBin_or, aInt_xor, aBin_xor, aInt_andNot, aBin_andNot, aInt_eql, aBin_eql, aInt_neq, aBin_neq, aInt_lss, aBin_lss, aInt_leq, aBin_leq, aInt_gtr, aBin_gtr, aInt_geq, aBin_geq, aBin_shl, aBin_shr, aShift_shl, aShift_shr, aBin_be1, aBin_bn1, aBin_be2, aBin_bn2, aBin_be3, aBin_bn3, aBin_be4, aBin_bn4, aBin_be5, aBin_bn5, aBin_be6, aBin_bn6, aBin_be7, aBin_bn7, aBin_be8, aBin_bn8, aBin_be9, aBin_bn9, aUn_b, aUn_t, aUn_f, aUn_i, aNil_ptr, aNil_pv, aConv_int, aField_ptr, aField_pv, aIdx_sl, aIdx_prm, aIdx_row, aIdx_drow, aMake_i, aMake_s, aExtr_tup, aLen_ref, aLen_nil, aLen_sl, aLen_prm, aLen_str, aBuildL_some, aBuildS_some, aLoad_1b, aLoad_1d, aLoad_fb, aLoad_fd, aLoad_1p, aLoad_fp, aLoad_ep, aLoad_rr, aLoad_rd, aStore_1, aStore_f, aStore_r, aApp_some, aAppend_nil, aAppend_ref, aSlice_h, aSlice_l, aSlice_lh, bc_draw, kregD_at, aopsD_nil, aopsD_plain, aopsD_guard, kontD_at, contD_at, yesD_at, noD_at, splD_bool, splD_undef, splD_skip, splD_int, splD_tt, splD_ff, splD_str, splD_nil, splD_sl, splD_prm, splD_ref, splD_ptr, splD_rp, splD_ep, splD_pv, splD_agg, splD_tup, splD_clo, gD_tt, gD_tf, gD_ft, gD_ff, gD_ts, gD_fs, slotO_some, addTr_nil, addTr_cons, memQ_nil, memQ_cons, clash_nil, clash_cons, regC_none, regC_nil, regC_cons, regR_nil, regR_cons, rng0, rng1, rng2, rng3, rng4, SC.take, SC.drop, mp_nil, acond_ct, acond_cf, mp_one0, mp_one1, mp_one2, mp_one3, kcall_one, liveB_row, liveB_box, idx, cont, still, dies, lend, lendA, lendDies, snocs, SC.snoc, SC.app, meet, AV.cells, fillA, List.getD_cons_zero, List.getD_cons_succ, List.set_cons_zero, List.set_cons_succ, List.length_singleton, Nat.le_refl, Nat.lt_irrefl, Nat.reduceLT, Nat.reduceLeDiff, Option.map_some, Option.map_none, List.flatMap_nil, List.flatMap_cons, Nat.zero_add, BEq.rfl, sl3, ty3, un3, sl37, ty37, un37, sl44, ty44, un44, sl42, ty42, un42, sl5, ty5, un5, sl2, ty2, un2, sl21, ty21, un21, sl4, ty4, un4, sl9, un9, sl22, ty22, un22, inR64, inRu64, inRu32, Int.toNat_natCast]
  have el : (iotaI k i ++ xs.drop i).length = xs.length := by simp [iotaI_len]; omega
  refine ⟨fun hi => ⟨⟨el, by omega, by omega⟩, ⟨el, by omega⟩, by omega, by omega, ?_⟩, fun hi => ?_⟩
  · refine klp_of (i + 1) ?_ (by omega) (by omega)
    have := mark_step (k := k) (xs := xs) (i := i) (by omega)
    rw [this]
    simp [St.conv, St.bf, getE, putE, getB, cv, cvL, cvB, idx, still, pack, lifts]
    omega
  · have : i = xs.length := by omega
    subst this
    refine afin_of [0] rfl rfl (by simp [St.conv, St.bf, getE, putE, getB, cv, cvL, cvB, idx, still, pack, lifts]) (by simp [St.conv, St.bf, getE, putE, getB, cv, cvL, cvB, idx, still, pack, lifts])
def lend_laws_markIntS : List Nat := [0]
def sp_laws_markIntS : List AV → List Bx → (AV → List Bx → Prop) → Prop
  | [.ref 0 n, .int .i64 k], [.row e (.ints .i64 xs)], K => (n = xs.length) ∧ (0 ≤ k ∧ k + xs.length ≤ 9223372036854775807) ∧ K (.int .i64 (k + xs.length)) [.row e (.ints .i64 (iotaI k xs.length))]
  | _, _, _ => False
theorem at_laws_markIntS {k : Int} {e : TypeId} {n : Nat} {xs : List Int} {K : AV → List Bx → Prop} : sp_laws_markIntS [.ref 0 n, .int .i64 k] [.row e (.ints .i64 xs)] K = ((n = xs.length) ∧ (0 ≤ k ∧ k + xs.length ≤ 9223372036854775807) ∧ K (.int .i64 (k + xs.length)) [.row e (.ints .i64 (iotaI k xs.length))]) := id rfl
theorem ok_laws_markIntS : ∀ args giv K, sp_laws_markIntS args giv K → ∃ r outs, ARuns Try.prog 23 args giv r outs ∧ K r outs := by
  intro args giv K hk
  unfold sp_laws_markIntS at hk
  split at hk
  · obtain ⟨hp1, hp2, hk⟩ := hk; exact ⟨_, _, runs_laws_markIntS _ _ _ _ hp1 hp2, hk⟩
  · exact hk.elim
theorem is_laws_heldIntS : FnIs Try.prog 24 21 [.tmp 4] (Try.f24.body.getD .skip) := ⟨⟨Try.f24, by kernel_rfl, by kernel_rfl, by kernel_rfl, by kernel_rfl⟩, by kernel_rfl, by kernel_rfl⟩
def G_laws_heldIntS : Gm := Gm.none
theorem G_laws_heldIntS_ok : G_laws_heldIntS.ok Try.prog := Gm.none_ok
set_option maxHeartbeats 1000000 in
set_option maxRecDepth 100000 in
theorem runs_laws_heldIntS (xs : List Int) (k : Int) (hp1 : 0 ≤ k ∧ k + xs.length ≤ 9223372036854775807) : ARuns Try.prog 24 [.sl none (.ints .i64 xs), .int .i64 k] [] (.int .i64 (heldI xs k)) [] := by
  refine ARuns_bc G_laws_heldIntS_ok is_laws_heldIntS (by simp) fun hl hlB => ?_
  simp only [kcode_at, kreg_at, bc_skip, bc_seq, bc_cond, bc_block, bc_exit, bc_ret, bc_region, lkX_cons, acond_tmp, aCase_t, aCase_f, aCase_b, afin_nil, cvE_some, resL, resV, cv, cvL, pack, entryE, inPrm, Option.getD_some, acall_clo, add_sp, add_lend, kcall_nil, selOf, selA, inArgs, inA, inL, okA, okL, okBx, okC, outA, outL, outU, outB, deep, deepL, boxIds, AV.bid, List.map_nil, List.map_cons, List.all_nil, List.all_cons, BEq.rfl, Bool.and_true, Bool.true_and, List.append_nil, aops_nil, aops_plain, aops_guard, kont_at, yes_at, no_at, aop_move, aop_assign, aop_pick, aop_alloc, aop_box, aop_build, aop_buildSlice, aop_load, aop_store, aop_nilCheck, aop_binOp, aop_unOp, aop_convert, aop_fieldAddr, aop_indexAddr, aop_slice, aop_extract, aop_makeSlice, aop_len, aop_max, aMax_int, slTy2, SC0, aop_append, aop_call, evalE, getE, putE, getB, setB, St.put, setsB, nth, AV.ofV, AV.blk, AV.bid, AV.one, SC.len, SC.get, List.length_nil, List.length_cons, Nat.reduceEqDiff, Nat.reduceAdd, ↓reduceIte, true_and, and_true, Bool.true_eq_false, Bool.false_eq_true, false_imp_iff, true_imp_iff, decide_eq_true_eq, Bool.not_eq_true', Bool.not_eq_false', decide_eq_false_iff_not, Option.isSome, List.nil_append, List.cons_append, aGuardO_some, aGuard_tt, aGuard_tf, aGuard_ft, aGuard_ff, aGuard_tb, aGuard_fb, aGuard_ts, aGuard_fs, aPick_b, aPick_t, aPick_f, aAlloc_one, aAlloc_flat, aBox_some, aBuild_flat, aInt_add, aBin_add, aInt_sub, aBin_sub, aInt_mul, aBin_mul, aInt_quo, aBin_quo, aInt_rem, aBin_rem, aInt_and, aBin_and, aInt_or, aBin_or, aInt_xor, aBin_xor, aInt_andNot, aBin_andNot, aInt_eql, aBin_eql, aInt_neq, aBin_neq, aInt_lss, aBin_lss, aInt_leq, aBin_leq, aInt_gtr, aBin_gtr, aInt_geq, aBin_geq, aBin_shl, aBin_shr, aShift_shl, aShift_shr, aBin_be1, aBin_bn1, aBin_be2, aBin_bn2, aBin_be3, aBin_bn3, aBin_be4, aBin_bn4, aBin_be5, aBin_bn5, aBin_be6, aBin_bn6, aBin_be7, aBin_bn7, aBin_be8, aBin_bn8, aBin_be9, aBin_bn9, aUn_b, aUn_t, aUn_f, aUn_i, aNil_ptr, aNil_pv, aConv_int, aField_ptr, aField_pv, aIdx_sl, aIdx_prm, aIdx_row, aIdx_drow, aMake_i, aMake_s, aExtr_tup, aLen_ref, aLen_nil, aLen_sl, aLen_prm, aLen_str, aBuildL_some, aBuildS_some, aLoad_1b, aLoad_1d, aLoad_fb, aLoad_fd, aLoad_1p, aLoad_fp, aLoad_ep, aLoad_rr, aLoad_rd, aStore_1, aStore_f, aStore_r, aApp_some, aAppend_nil, aAppend_ref, aSlice_h, aSlice_l, aSlice_lh, bc_draw, kregD_at, aopsD_nil, aopsD_plain, aopsD_guard, kontD_at, contD_at, yesD_at, noD_at, splD_bool, splD_undef, splD_skip, splD_int, splD_tt, splD_ff, splD_str, splD_nil, splD_sl, splD_prm, splD_ref, splD_ptr, splD_rp, splD_ep, splD_pv, splD_agg, splD_tup, splD_clo, gD_tt, gD_tf, gD_ft, gD_ff, gD_ts, gD_fs, slotO_some, addTr_nil, addTr_cons, memQ_nil, memQ_cons, clash_nil, clash_cons, regC_none, regC_nil, regC_cons, regR_nil, regR_cons, rng0, rng1, rng2, rng3, rng4, SC.take, SC.drop, mp_nil, acond_ct, acond_cf, mp_one0, mp_one1, mp_one2, mp_one3, kcall_one, liveB_row, liveB_box, idx, cont, still, dies, lend, lendA, lendDies, snocs, SC.snoc, SC.app, meet, AV.cells, fillA, List.getD_cons_zero, List.getD_cons_succ, List.set_cons_zero, List.set_cons_succ, List.length_singleton, Nat.le_refl, Nat.lt_irrefl, Nat.reduceLT, Nat.reduceLeDiff, Option.map_some, Option.map_none, List.flatMap_nil, List.flatMap_cons, Nat.zero_add, BEq.rfl, sl3, ty3, un3, sl37, ty37, un37, sl44, ty44, un44, sl42, ty42, un42, sl5, ty5, un5, sl2, ty2, un2, sl21, ty21, un21, sl4, ty4, un4, sl9, un9, sl22, ty22, un22, inR64, inRu64, inRu32, Try.f24]
  refine bc_loop (fun i : Nat => i ≤ xs.length ∧ ∀ j, j < i → xs.getD j 0 = k + j)
    (fun i => ⟨[(0, .prm 0 (.ints .i64 xs)), (1, .int .i64 (k + i)), (5, .int .i64 i)], []⟩) (fun i => xs.length - i)
    [0, 1, 5] [] 0 rfl (by simp [St.conv, St.bf, getE, putE, getB, cv, cvL, cvB, idx, still, pack, lifts]) (by simp) fun i ⟨h1, h2⟩ => ?_
  simp only [kcode_at, kreg_at, bc_skip, bc_seq, bc_cond, bc_block, bc_exit, bc_ret, bc_region, lkX_cons, acond_tmp, aCase_t, aCase_f, aCase_b, afin_nil, cvE_some, resL, resV, cv, cvL, pack, entryE, inPrm, Option.getD_some, acall_clo, add_sp, add_lend, kcall_nil, selOf, selA, inArgs, inA, inL, okA, okL, okBx, okC, outA, outL, outU, outB, deep, deepL, boxIds, AV.bid, List.map_nil, List.map_cons, List.all_nil, List.all_cons, BEq.rfl, Bool.and_true, Bool.true_and, List.append_nil, aops_nil, aops_plain, aops_guard, kont_at, yes_at, no_at, aop_move, aop_assign, aop_pick, aop_alloc, aop_box, aop_build, aop_buildSlice, aop_load, aop_store, aop_nilCheck, aop_binOp, aop_unOp, aop_convert, aop_fieldAddr, aop_indexAddr, aop_slice, aop_extract, aop_makeSlice, aop_len, aop_max, aMax_int, slTy2, SC0, aop_append, aop_call, evalE, getE, putE, getB, setB, St.put, setsB, nth, AV.ofV, AV.blk, AV.bid, AV.one, SC.len, SC.get, List.length_nil, List.length_cons, Nat.reduceEqDiff, Nat.reduceAdd, ↓reduceIte, true_and, and_true, Bool.true_eq_false, Bool.false_eq_true, false_imp_iff, true_imp_iff, decide_eq_true_eq, Bool.not_eq_true', Bool.not_eq_false', decide_eq_false_iff_not, Option.isSome, List.nil_append, List.cons_append, aGuardO_some, aGuard_tt, aGuard_tf, aGuard_ft, aGuard_ff, aGuard_tb, aGuard_fb, aGuard_ts, aGuard_fs, aPick_b, aPick_t, aPick_f, aAlloc_one, aAlloc_flat, aBox_some, aBuild_flat, aInt_add, aBin_add, aInt_sub, aBin_sub, aInt_mul, aBin_mul, aInt_quo, aBin_quo, aInt_rem, aBin_rem, aInt_and, aBin_and, aInt_or, aBin_or, aInt_xor, aBin_xor, aInt_andNot, aBin_andNot, aInt_eql, aBin_eql, aInt_neq, aBin_neq, aInt_lss, aBin_lss, aInt_leq, aBin_leq, aInt_gtr, aBin_gtr, aInt_geq, aBin_geq, aBin_shl, aBin_shr, aShift_shl, aShift_shr, aBin_be1, aBin_bn1, aBin_be2, aBin_bn2, aBin_be3, aBin_bn3, aBin_be4, aBin_bn4, aBin_be5, aBin_bn5, aBin_be6, aBin_bn6, aBin_be7, aBin_bn7, aBin_be8, aBin_bn8, aBin_be9, aBin_bn9, aUn_b, aUn_t, aUn_f, aUn_i, aNil_ptr, aNil_pv, aConv_int, aField_ptr, aField_pv, aIdx_sl, aIdx_prm, aIdx_row, aIdx_drow, aMake_i, aMake_s, aExtr_tup, aLen_ref, aLen_nil, aLen_sl, aLen_prm, aLen_str, aBuildL_some, aBuildS_some, aLoad_1b, aLoad_1d, aLoad_fb, aLoad_fd, aLoad_1p, aLoad_fp, aLoad_ep, aLoad_rr, aLoad_rd, aStore_1, aStore_f, aStore_r, aApp_some, aAppend_nil, aAppend_ref, aSlice_h, aSlice_l, aSlice_lh, bc_draw, kregD_at, aopsD_nil, aopsD_plain, aopsD_guard, kontD_at, contD_at, yesD_at, noD_at, splD_bool, splD_undef, splD_skip, splD_int, splD_tt, splD_ff, splD_str, splD_nil, splD_sl, splD_prm, splD_ref, splD_ptr, splD_rp, splD_ep, splD_pv, splD_agg, splD_tup, splD_clo, gD_tt, gD_tf, gD_ft, gD_ff, gD_ts, gD_fs, slotO_some, addTr_nil, addTr_cons, memQ_nil, memQ_cons, clash_nil, clash_cons, regC_none, regC_nil, regC_cons, regR_nil, regR_cons, rng0, rng1, rng2, rng3, rng4, SC.take, SC.drop, mp_nil, acond_ct, acond_cf, mp_one0, mp_one1, mp_one2, mp_one3, kcall_one, liveB_row, liveB_box, idx, cont, still, dies, lend, lendA, lendDies, snocs, SC.snoc, SC.app, meet, AV.cells, fillA, List.getD_cons_zero, List.getD_cons_succ, List.set_cons_zero, List.set_cons_succ, List.length_singleton, Nat.le_refl, Nat.lt_irrefl, Nat.reduceLT, Nat.reduceLeDiff, Option.map_some, Option.map_none, List.flatMap_nil, List.flatMap_cons, Nat.zero_add, BEq.rfl, sl3, ty3, un3, sl37, ty37, un37, sl44, ty44, un44, sl42, ty42, un42, sl5, ty5, un5, sl2, ty2, un2, sl21, ty21, un21, sl4, ty4, un4, sl9, un9, sl22, ty22, un22, inR64, inRu64, inRu32, Int.toNat_natCast]
  refine ⟨fun hi => ⟨by omega, fun h => ?_, fun h => ⟨by omega, by omega, ?_⟩⟩, fun hi => ?_⟩
  · rw [heldI_f (i := i) (by omega) h]
  · refine klp_of (i + 1) ?_ ⟨by omega, fun j hj => ?_⟩ (by omega)
    · simp [St.conv, St.bf, getE, putE, getB, cv, cvL, cvB, idx, still, pack, lifts]
      omega
    · by_cases e : j = i
      · rw [e]; exact h
      · exact h2 j (by omega)
  · have : i = xs.length := by omega
    subst this
    rw [heldI_t h2]
def lend_laws_heldIntS : List Nat := []
def sp_laws_heldIntS : List AV → List Bx → (AV → List Bx → Prop) → Prop
  | [.sl none (.ints .i64 xs), .int .i64 k], [], K => (0 ≤ k ∧ k + xs.length ≤ 9223372036854775807) ∧ K (.int .i64 (heldI xs k)) []
  | _, _, _ => False
theorem at_laws_heldIntS {xs : List Int} {k : Int} {K : AV → List Bx → Prop} : sp_laws_heldIntS [.sl none (.ints .i64 xs), .int .i64 k] [] K = ((0 ≤ k ∧ k + xs.length ≤ 9223372036854775807) ∧ K (.int .i64 (heldI xs k)) []) := id rfl
theorem ok_laws_heldIntS : ∀ args giv K, sp_laws_heldIntS args giv K → ∃ r outs, ARuns Try.prog 24 args giv r outs ∧ K r outs := by
  intro args giv K hk
  unfold sp_laws_heldIntS at hk
  split at hk
  · obtain ⟨hp1, hk⟩ := hk; exact ⟨_, _, runs_laws_heldIntS _ _ hp1, hk⟩
  · exact hk.elim
theorem is_laws_FnExactCascadeOf : FnIs Try.prog 8 68 [.tmp 4] (Try.f8.body.getD .skip) := ⟨⟨Try.f8, by kernel_rfl, by kernel_rfl, by kernel_rfl, by kernel_rfl⟩, by kernel_rfl, by kernel_rfl⟩
def G_laws_FnExactCascadeOf : Gm := (((((Gm.none.add 12 lend_laws_eqIntS sp_laws_eqIntS).add 21 lend_spec_CascadeOf sp_spec_CascadeOf).add 22 lend_impl_CascadeOf sp_impl_CascadeOf).add 23 lend_laws_markIntS sp_laws_markIntS).add 24 lend_laws_heldIntS sp_laws_heldIntS)
theorem G_laws_FnExactCascadeOf_ok : G_laws_FnExactCascadeOf.ok Try.prog := (Gm.add_ok (Gm.add_ok (Gm.add_ok (Gm.add_ok (Gm.add_ok Gm.none_ok ok_laws_eqIntS) ok_spec_CascadeOf) ok_impl_CascadeOf) ok_laws_markIntS) ok_laws_heldIntS)
theorem gs_laws_FnExactCascadeOf_12 : G_laws_FnExactCascadeOf.sp 12 = sp_laws_eqIntS ∧ G_laws_FnExactCascadeOf.lend 12 = lend_laws_eqIntS := ⟨rfl, rfl⟩
theorem gs_laws_FnExactCascadeOf_21 : G_laws_FnExactCascadeOf.sp 21 = sp_spec_CascadeOf ∧ G_laws_FnExactCascadeOf.lend 21 = lend_spec_CascadeOf := ⟨rfl, rfl⟩
theorem gs_laws_FnExactCascadeOf_22 : G_laws_FnExactCascadeOf.sp 22 = sp_impl_CascadeOf ∧ G_laws_FnExactCascadeOf.lend 22 = lend_impl_CascadeOf := ⟨rfl, rfl⟩
theorem gs_laws_FnExactCascadeOf_23 : G_laws_FnExactCascadeOf.sp 23 = sp_laws_markIntS ∧ G_laws_FnExactCascadeOf.lend 23 = lend_laws_markIntS := ⟨rfl, rfl⟩
theorem gs_laws_FnExactCascadeOf_24 : G_laws_FnExactCascadeOf.sp 24 = sp_laws_heldIntS ∧ G_laws_FnExactCascadeOf.lend 24 = lend_laws_heldIntS := ⟨rfl, rfl⟩
set_option maxHeartbeats 1000000 in
set_option maxRecDepth 100000 in
theorem runs_laws_FnExactCascadeOf (m k : Int) (hp1 : -9223372036854775808 ≤ m ∧ m ≤ 9223372036854775807) (hp2 : -9223372036854775808 ≤ k ∧ k ≤ 9223372036854775807) : ARuns Try.prog 8 [.int .i64 m, .int .i64 k] [] (.bool true) [] := by
  refine ARuns_bc G_laws_FnExactCascadeOf_ok is_laws_FnExactCascadeOf (by simp) fun hl hlB => ?_
  simp only [kcode_at, kreg_at, bc_skip, bc_seq, bc_cond, bc_block, bc_exit, bc_ret, bc_region, lkX_cons, acond_tmp, aCase_t, aCase_f, aCase_b, afin_nil, cvE_some, resL, resV, cv, cvL, pack, entryE, inPrm, Option.getD_some, acall_clo, add_sp, add_lend, kcall_nil, selOf, selA, inArgs, inA, inL, okA, okL, okBx, okC, outA, outL, outU, outB, deep, deepL, boxIds, AV.bid, List.map_nil, List.map_cons, List.all_nil, List.all_cons, BEq.rfl, Bool.and_true, Bool.true_and, List.append_nil, aops_nil, aops_plain, aops_guard, kont_at, yes_at, no_at, aop_move, aop_assign, aop_pick, aop_alloc, aop_box, aop_build, aop_buildSlice, aop_load, aop_store, aop_nilCheck, aop_binOp, aop_unOp, aop_convert, aop_fieldAddr, aop_indexAddr, aop_slice, aop_extract, aop_makeSlice, aop_len, aop_max, aMax_int, slTy2, SC0, aop_append, aop_call, evalE, getE, putE, getB, setB, St.put, setsB, nth, AV.ofV, AV.blk, AV.bid, AV.one, SC.len, SC.get, List.length_nil, List.length_cons, Nat.reduceEqDiff, Nat.reduceAdd, ↓reduceIte, true_and, and_true, Bool.true_eq_false, Bool.false_eq_true, false_imp_iff, true_imp_iff, decide_eq_true_eq, Bool.not_eq_true', Bool.not_eq_false', decide_eq_false_iff_not, Option.isSome, List.nil_append, List.cons_append, aGuardO_some, aGuard_tt, aGuard_tf, aGuard_ft, aGuard_ff, aGuard_tb, aGuard_fb, aGuard_ts, aGuard_fs, aPick_b, aPick_t, aPick_f, aAlloc_one, aAlloc_flat, aBox_some, aBuild_flat, aInt_add, aBin_add, aInt_sub, aBin_sub, aInt_mul, aBin_mul, aInt_quo, aBin_quo, aInt_rem, aBin_rem, aInt_and, aBin_and, aInt_or, aBin_or, aInt_xor, aBin_xor, aInt_andNot, aBin_andNot, aInt_eql, aBin_eql, aInt_neq, aBin_neq, aInt_lss, aBin_lss, aInt_leq, aBin_leq, aInt_gtr, aBin_gtr, aInt_geq, aBin_geq, aBin_shl, aBin_shr, aShift_shl, aShift_shr, aBin_be1, aBin_bn1, aBin_be2, aBin_bn2, aBin_be3, aBin_bn3, aBin_be4, aBin_bn4, aBin_be5, aBin_bn5, aBin_be6, aBin_bn6, aBin_be7, aBin_bn7, aBin_be8, aBin_bn8, aBin_be9, aBin_bn9, aUn_b, aUn_t, aUn_f, aUn_i, aNil_ptr, aNil_pv, aConv_int, aField_ptr, aField_pv, aIdx_sl, aIdx_prm, aIdx_row, aIdx_drow, aMake_i, aMake_s, aExtr_tup, aLen_ref, aLen_nil, aLen_sl, aLen_prm, aLen_str, aBuildL_some, aBuildS_some, aLoad_1b, aLoad_1d, aLoad_fb, aLoad_fd, aLoad_1p, aLoad_fp, aLoad_ep, aLoad_rr, aLoad_rd, aStore_1, aStore_f, aStore_r, aApp_some, aAppend_nil, aAppend_ref, aSlice_h, aSlice_l, aSlice_lh, bc_draw, kregD_at, aopsD_nil, aopsD_plain, aopsD_guard, kontD_at, contD_at, yesD_at, noD_at, splD_bool, splD_undef, splD_skip, splD_int, splD_tt, splD_ff, splD_str, splD_nil, splD_sl, splD_prm, splD_ref, splD_ptr, splD_rp, splD_ep, splD_pv, splD_agg, splD_tup, splD_clo, gD_tt, gD_tf, gD_ft, gD_ff, gD_ts, gD_fs, slotO_some, addTr_nil, addTr_cons, memQ_nil, memQ_cons, clash_nil, clash_cons, regC_none, regC_nil, regC_cons, regR_nil, regR_cons, rng0, rng1, rng2, rng3, rng4, SC.take, SC.drop, mp_nil, acond_ct, acond_cf, mp_one0, mp_one1, mp_one2, mp_one3, kcall_one, liveB_row, liveB_box, idx, cont, still, dies, lend, lendA, lendDies, snocs, SC.snoc, SC.app, meet, AV.cells, fillA, List.getD_cons_zero, List.getD_cons_succ, List.set_cons_zero, List.set_cons_succ, List.length_singleton, Nat.le_refl, Nat.lt_irrefl, Nat.reduceLT, Nat.reduceLeDiff, Option.map_some, Option.map_none, List.flatMap_nil, List.flatMap_cons, Nat.zero_add, BEq.rfl, sl3, ty3, un3, sl37, ty37, un37, sl44, ty44, un44, sl42, ty42, un42, sl5, ty5, un5, sl2, ty2, un2, sl21, ty21, un21, sl4, ty4, un4, sl9, un9, sl22, ty22, un22, inR64, inRu64, inRu32, gs_laws_FnExactCascadeOf_12, at_laws_eqIntS, lend_laws_eqIntS, gs_laws_FnExactCascadeOf_21, at_spec_CascadeOf, lend_spec_CascadeOf, gs_laws_FnExactCascadeOf_22, at_impl_CascadeOf, lend_impl_CascadeOf, gs_laws_FnExactCascadeOf_23, at_laws_markIntS, lend_laws_markIntS, gs_laws_FnExactCascadeOf_24, at_laws_heldIntS, lend_laws_heldIntS, iotaI_len, heldI_iota, Try.f8]
  have h6 := @cascL_len m k
  simp
  omega
def lend_laws_FnExactCascadeOf : List Nat := []
def sp_laws_FnExactCascadeOf : List AV → List Bx → (AV → List Bx → Prop) → Prop
  | [.int .i64 m, .int .i64 k], [], K => (-9223372036854775808 ≤ m ∧ m ≤ 9223372036854775807) ∧ (-9223372036854775808 ≤ k ∧ k ≤ 9223372036854775807) ∧ K (.bool true) []
  | _, _, _ => False
theorem at_laws_FnExactCascadeOf {m k : Int} {K : AV → List Bx → Prop} : sp_laws_FnExactCascadeOf [.int .i64 m, .int .i64 k] [] K = ((-9223372036854775808 ≤ m ∧ m ≤ 9223372036854775807) ∧ (-9223372036854775808 ≤ k ∧ k ≤ 9223372036854775807) ∧ K (.bool true) []) := id rfl
theorem ok_laws_FnExactCascadeOf : ∀ args giv K, sp_laws_FnExactCascadeOf args giv K → ∃ r outs, ARuns Try.prog 8 args giv r outs ∧ K r outs := by
  intro args giv K hk
  unfold sp_laws_FnExactCascadeOf at hk
  split at hk
  · obtain ⟨hp1, hp2, hk⟩ := hk; exact ⟨_, _, runs_laws_FnExactCascadeOf _ _ hp1 hp2, hk⟩
  · exact hk.elim
end Go.Proofs.Ytdnhlfbcgpicoaa
