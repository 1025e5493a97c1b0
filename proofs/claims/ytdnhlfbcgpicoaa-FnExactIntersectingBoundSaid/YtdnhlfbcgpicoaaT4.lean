/-
  For all arguments the program's IntersectingBound returns what the reference's returns. No further condition.
-/
import Derived.Test.YtdnhlfbcgpicoaaA21
import Derived.OpenShut
namespace Go.Proofs.Ytdnhlfbcgpicoaa
open AM
set_option linter.unusedSimpArgs false
set_option linter.unusedVariables false
theorem sl3 : slTy Try.prog 3 = none := by kernel_rfl
theorem ty3 : tyOf Try.prog 3 = .one (.int .i64 0) := by kernel_rfl
theorem inR64 {n : Int} : InR .i64 n = (-9223372036854775808 ≤ n ∧ n ≤ 9223372036854775807) := rfl
def ch : Nat → Nat → Nat
  | _, 0 => 1
  | 0, _ + 1 => 0
  | n + 1, k + 1 => ch n k + ch n (k + 1)
theorem ch_mul : ∀ n k, ch (n + 1) (k + 1) * (k + 1) = ch n k * (n + 1)
  | 0, 0 => by simp [ch]
  | 0, k + 1 => by simp [ch]
  | n + 1, 0 => by have := ch_mul n 0; simp only [ch] at this ⊢; omega
  | n + 1, k + 1 => by
    have h1 := ch_mul n k
    have h2 := ch_mul n (k + 1)
    have e1 : ch (n + 2) (k + 2) = ch (n + 1) (k + 1) + ch (n + 1) (k + 2) := rfl
    have e2 : ch (n + 1) (k + 1) = ch n k + ch n (k + 1) := rfl
    rw [e1, Nat.add_mul, h2]
    have e3 : ch (n + 1) (k + 1) * (k + 1 + 1) = ch (n + 1) (k + 1) * (k + 1) + ch (n + 1) (k + 1) := by rw [Nat.mul_add, Nat.mul_one]
    have e4 : ch (n + 1) (k + 1) * (n + 1 + 1) = ch (n + 1) (k + 1) * (n + 1) + ch (n + 1) (k + 1) := by rw [Nat.mul_add, Nat.mul_one]
    rw [e3, e4, h1, e2, Nat.add_mul]; omega
theorem ch_next {n j : Nat} (h : j ≤ n) : ch n (j + 1) * (j + 1) = ch n j * (n - j) := by
  have h1 := ch_mul n j
  have e : ch (n + 1) (j + 1) = ch n j + ch n (j + 1) := rfl
  rw [e, Nat.add_mul] at h1
  have e2 : ch n j * (n + 1) = ch n j * (j + 1) + ch n j * (n - j) := by rw [← Nat.mul_add]; congr 1; omega
  omega
theorem ch_le : ∀ n k, ch n k ≤ 2 ^ n
  | 0, 0 => by simp [ch]
  | 0, k + 1 => by simp [ch]
  | n + 1, 0 => by simp only [ch]; exact Nat.one_le_two_pow
  | n + 1, k + 1 => by
    have h1 := ch_le n k
    have h2 := ch_le n (k + 1)
    simp only [ch]; rw [Nat.pow_succ]; omega
theorem ch_small {n : Nat} (h : n ≤ 20) (k : Nat) : ch n k ≤ 1048576 := Nat.le_trans (ch_le n k) (Nat.le_trans (Nat.pow_le_pow_right (by omega) h) (by decide))
def chooseI (n k : Int) : Int := if 0 ≤ k ∧ k ≤ n then (ch n.toNat k.toNat : Int) else 0
theorem is25 : FnIs Try.prog 25 15 [.tmp 6] (Try.f25.body.getD .skip) := ⟨⟨Try.f25, by kernel_rfl, by kernel_rfl, by kernel_rfl, by kernel_rfl⟩, by kernel_rfl, by kernel_rfl⟩
theorem is28 : FnIs Try.prog 28 15 [.tmp 6] (Try.f28.body.getD .skip) := ⟨⟨Try.f28, by kernel_rfl, by kernel_rfl, by kernel_rfl, by kernel_rfl⟩, by kernel_rfl, by kernel_rfl⟩
theorem is27 : FnIs Try.prog 27 29 [.tmp 4] (Try.f27.body.getD .skip) := ⟨⟨Try.f27, by kernel_rfl, by kernel_rfl, by kernel_rfl, by kernel_rfl⟩, by kernel_rfl, by kernel_rfl⟩
theorem is29 : FnIs Try.prog 29 28 [.tmp 4] (Try.f29.body.getD .skip) := ⟨⟨Try.f29, by kernel_rfl, by kernel_rfl, by kernel_rfl, by kernel_rfl⟩, by kernel_rfl, by kernel_rfl⟩
theorem is13 : FnIs Try.prog 13 28 [.tmp 4] (Try.f13.body.getD .skip) := ⟨⟨Try.f13, by kernel_rfl, by kernel_rfl, by kernel_rfl, by kernel_rfl⟩, by kernel_rfl, by kernel_rfl⟩
theorem is14 : FnIs Try.prog 14 28 [.tmp 4] (Try.f14.body.getD .skip) := ⟨⟨Try.f14, by kernel_rfl, by kernel_rfl, by kernel_rfl, by kernel_rfl⟩, by kernel_rfl, by kernel_rfl⟩
theorem is4 : FnIs Try.prog 4 16 [.tmp 4] (Try.f4.body.getD .skip) := ⟨⟨Try.f4, by kernel_rfl, by kernel_rfl, by kernel_rfl, by kernel_rfl⟩, by kernel_rfl, by kernel_rfl⟩
set_option maxHeartbeats 1000000
def inB (n l m : Int) : Bool := decide (l ≤ n) && decide (n ≤ m)
theorem runs28 (n l m : Int) : ARuns Try.prog 28 [.int .i64 n, .int .i64 l, .int .i64 m] [] (.bool (inB n l m)) [] := by
  refine ARuns_bc Gm.none_ok is28 (by simp) fun hl _ => ?_
  simp only [Try.f28, kcode_at, kreg_at, bc_skip, bc_seq, bc_cond, bc_block, bc_exit, bc_ret, bc_region, lkX_cons, acond_tmp, aCase_t, aCase_f, aCase_b, afin_nil, cvE_some, resL, resV, cv, cvL, pack, entryE, inPrm, Option.getD_some, acall_clo, add_sp, add_lend, kcall_nil, selOf, inArgs, inA, inL, okA, okL, okBx, okC, outA, outL, outU, outB, bids, AV.bid, List.map_nil, List.map_cons, List.all_nil, List.all_cons, BEq.rfl, Bool.and_true, Bool.true_and, List.append_nil, sl3, ty3, aops_nil, aops_plain, aops_guard, kont_at, yes_at, no_at, aop_move, aop_assign, aop_pick, aop_alloc, aop_box, aop_build, aop_buildSlice, aop_load, aop_store, aop_nilCheck, aop_binOp, aop_unOp, aop_convert, aop_fieldAddr, aop_indexAddr, aop_slice, aop_extract, aop_makeSlice, aop_len, aop_max, aMax_int, slTy2, SC0, aop_append, aop_call, evalE, getE, putE, getB, setB, St.put, setsB, nth, AV.ofV, AV.blk, AV.bid, AV.one, SC.len, SC.get, List.length_nil, List.length_cons, Nat.reduceEqDiff, Nat.reduceAdd, ↓reduceIte, true_and, and_true, Bool.true_eq_false, Bool.false_eq_true, false_imp_iff, true_imp_iff, decide_eq_true_eq, Bool.not_eq_true', Bool.not_eq_false', decide_eq_false_iff_not, Option.isSome, List.nil_append, List.cons_append, aGuardO_some, aGuard_tt, aGuard_tf, aGuard_ft, aGuard_ff, aGuard_tb, aGuard_fb, aGuard_ts, aGuard_fs, aPick_b, aPick_t, aPick_f, aAlloc_one, aAlloc_flat, aBox_some, aBuild_flat, aInt_add, aBin_add, aInt_sub, aBin_sub, aInt_mul, aBin_mul, aInt_quo, aBin_quo, aInt_rem, aBin_rem, aInt_and, aBin_and, aInt_or, aBin_or, aInt_xor, aBin_xor, aInt_andNot, aBin_andNot, aInt_eql, aBin_eql, aInt_neq, aBin_neq, aInt_lss, aBin_lss, aInt_leq, aBin_leq, aInt_gtr, aBin_gtr, aInt_geq, aBin_geq, aBin_shl, aBin_shr, aShift_shl, aShift_shr, aBin_be1, aBin_bn1, aBin_be2, aBin_bn2, aBin_be3, aBin_bn3, aBin_be4, aBin_bn4, aBin_be5, aBin_bn5, aBin_be6, aBin_bn6, aBin_be7, aBin_bn7, aBin_be8, aBin_bn8, aBin_be9, aBin_bn9, aUn_b, aUn_t, aUn_f, aUn_i, aNil_ptr, aNil_pv, aConv_int, aField_ptr, aField_pv, aIdx_sl, aIdx_prm, aIdx_row, aIdx_drow, aMake_i, aMake_s, aExtr_tup, aLen_ref, aLen_nil, aLen_sl, aLen_prm, aLen_str, aBuildL_some, aBuildS_some, aLoad_1b, aLoad_1d, aLoad_fb, aLoad_fd, aLoad_1p, aLoad_fp, aLoad_ep, aLoad_rr, aLoad_rd, aStore_1, aStore_f, aStore_r, aApp_some, aAppend_nil, aAppend_ref, aSlice_h, aSlice_l, aSlice_lh]
  refine ⟨fun h => ?_, fun h => ?_⟩ <;> simp [h, inB]
theorem runs25 (n l m : Int) : ARuns Try.prog 25 [.int .i64 n, .int .i64 l, .int .i64 m] [] (.bool (inB n l m)) [] := by
  refine ARuns_bc Gm.none_ok is25 (by simp) fun hl _ => ?_
  simp only [Try.f25, kcode_at, kreg_at, bc_skip, bc_seq, bc_cond, bc_block, bc_exit, bc_ret, bc_region, lkX_cons, acond_tmp, aCase_t, aCase_f, aCase_b, afin_nil, cvE_some, resL, resV, cv, cvL, pack, entryE, inPrm, Option.getD_some, acall_clo, add_sp, add_lend, kcall_nil, selOf, inArgs, inA, inL, okA, okL, okBx, okC, outA, outL, outU, outB, bids, AV.bid, List.map_nil, List.map_cons, List.all_nil, List.all_cons, BEq.rfl, Bool.and_true, Bool.true_and, List.append_nil, sl3, ty3, aops_nil, aops_plain, aops_guard, kont_at, yes_at, no_at, aop_move, aop_assign, aop_pick, aop_alloc, aop_box, aop_build, aop_buildSlice, aop_load, aop_store, aop_nilCheck, aop_binOp, aop_unOp, aop_convert, aop_fieldAddr, aop_indexAddr, aop_slice, aop_extract, aop_makeSlice, aop_len, aop_max, aMax_int, slTy2, SC0, aop_append, aop_call, evalE, getE, putE, getB, setB, St.put, setsB, nth, AV.ofV, AV.blk, AV.bid, AV.one, SC.len, SC.get, List.length_nil, List.length_cons, Nat.reduceEqDiff, Nat.reduceAdd, ↓reduceIte, true_and, and_true, Bool.true_eq_false, Bool.false_eq_true, false_imp_iff, true_imp_iff, decide_eq_true_eq, Bool.not_eq_true', Bool.not_eq_false', decide_eq_false_iff_not, Option.isSome, List.nil_append, List.cons_append, aGuardO_some, aGuard_tt, aGuard_tf, aGuard_ft, aGuard_ff, aGuard_tb, aGuard_fb, aGuard_ts, aGuard_fs, aPick_b, aPick_t, aPick_f, aAlloc_one, aAlloc_flat, aBox_some, aBuild_flat, aInt_add, aBin_add, aInt_sub, aBin_sub, aInt_mul, aBin_mul, aInt_quo, aBin_quo, aInt_rem, aBin_rem, aInt_and, aBin_and, aInt_or, aBin_or, aInt_xor, aBin_xor, aInt_andNot, aBin_andNot, aInt_eql, aBin_eql, aInt_neq, aBin_neq, aInt_lss, aBin_lss, aInt_leq, aBin_leq, aInt_gtr, aBin_gtr, aInt_geq, aBin_geq, aBin_shl, aBin_shr, aShift_shl, aShift_shr, aBin_be1, aBin_bn1, aBin_be2, aBin_bn2, aBin_be3, aBin_bn3, aBin_be4, aBin_bn4, aBin_be5, aBin_bn5, aBin_be6, aBin_bn6, aBin_be7, aBin_bn7, aBin_be8, aBin_bn8, aBin_be9, aBin_bn9, aUn_b, aUn_t, aUn_f, aUn_i, aNil_ptr, aNil_pv, aConv_int, aField_ptr, aField_pv, aIdx_sl, aIdx_prm, aIdx_row, aIdx_drow, aMake_i, aMake_s, aExtr_tup, aLen_ref, aLen_nil, aLen_sl, aLen_prm, aLen_str, aBuildL_some, aBuildS_some, aLoad_1b, aLoad_1d, aLoad_fb, aLoad_fd, aLoad_1p, aLoad_fp, aLoad_ep, aLoad_rr, aLoad_rd, aStore_1, aStore_f, aStore_r, aApp_some, aAppend_nil, aAppend_ref, aSlice_h, aSlice_l, aSlice_lh]
  refine ⟨fun h => ?_, fun h => ?_⟩ <;> simp [h, inB]
def spIn : List AV → List Bx → (AV → List Bx → Prop) → Prop
  | [.int .i64 n, .int .i64 l, .int .i64 m], [], K => K (.bool (inB n l m)) []
  | _, _, _ => False
theorem spIn_at {n l m : Int} {K} : spIn [.int .i64 n, .int .i64 l, .int .i64 m] [] K = K (.bool (inB n l m)) [] := id rfl
theorem spIn_ok {f : FuncId} (h : ∀ n l m, ARuns Try.prog f [.int .i64 n, .int .i64 l, .int .i64 m] [] (.bool (inB n l m)) []) : ∀ args giv K, spIn args giv K → ∃ r outs, ARuns Try.prog f args giv r outs ∧ K r outs := by
  intro args giv K hk
  unfold spIn at hk
  split at hk
  · exact ⟨_, _, h _ _ _, hk⟩
  · exact hk.elim
def G1 : Gm := (Gm.none.add 28 [] spIn).add 25 [] spIn
theorem G1_25 : G1.sp 25 = spIn ∧ G1.lend 25 = [] := ⟨rfl, rfl⟩
theorem G1_28 : G1.sp 28 = spIn ∧ G1.lend 28 = [] := ⟨rfl, rfl⟩
theorem G1_ok : G1.ok Try.prog := Gm.add_ok (Gm.add_ok Gm.none_ok (spIn_ok runs28)) (spIn_ok runs25)
theorem inB_t {n l m : Int} : (inB n l m = true) = (l ≤ n ∧ n ≤ m) := by simp [inB]
theorem inB_f {n l m : Int} : (inB n l m = false) = ¬ (l ≤ n ∧ n ≤ m) := by rw [← inB_t]; simp
theorem tdivN {a b c : Nat} (hb : 0 < b) (h : c * b = a) : (a : Int).tdiv b = c := by
  have : (a : Int) = (c : Int) * (b : Int) := by rw [← h]; simp
  rw [this, Int.mul_tdiv_cancel _ (by omega)]
theorem runs27 (n k : Int) : ARuns Try.prog 27 [.int .i64 n, .int .i64 k] [] (.int .i64 (if 0 ≤ n ∧ n ≤ 20 then chooseI n k else -1)) [] := by
  refine ARuns_bc G1_ok is27 (by simp) fun hl _ => ?_
  simp only [Try.f27, G1_25, spIn_at, inB_t, inB_f, kcode_at, kreg_at, bc_skip, bc_seq, bc_cond, bc_block, bc_exit, bc_ret, bc_region, lkX_cons, acond_tmp, aCase_t, aCase_f, aCase_b, afin_nil, cvE_some, resL, resV, cv, cvL, pack, entryE, inPrm, Option.getD_some, acall_clo, add_sp, add_lend, kcall_nil, selOf, inArgs, inA, inL, okA, okL, okBx, okC, outA, outL, outU, outB, bids, AV.bid, List.map_nil, List.map_cons, List.all_nil, List.all_cons, BEq.rfl, Bool.and_true, Bool.true_and, List.append_nil, sl3, ty3, aops_nil, aops_plain, aops_guard, kont_at, yes_at, no_at, aop_move, aop_assign, aop_pick, aop_alloc, aop_box, aop_build, aop_buildSlice, aop_load, aop_store, aop_nilCheck, aop_binOp, aop_unOp, aop_convert, aop_fieldAddr, aop_indexAddr, aop_slice, aop_extract, aop_makeSlice, aop_len, aop_max, aMax_int, slTy2, SC0, aop_append, aop_call, evalE, getE, putE, getB, setB, St.put, setsB, nth, AV.ofV, AV.blk, AV.bid, AV.one, SC.len, SC.get, List.length_nil, List.length_cons, Nat.reduceEqDiff, Nat.reduceAdd, ↓reduceIte, true_and, and_true, Bool.true_eq_false, Bool.false_eq_true, false_imp_iff, true_imp_iff, decide_eq_true_eq, Bool.not_eq_true', Bool.not_eq_false', decide_eq_false_iff_not, Option.isSome, List.nil_append, List.cons_append, aGuardO_some, aGuard_tt, aGuard_tf, aGuard_ft, aGuard_ff, aGuard_tb, aGuard_fb, aGuard_ts, aGuard_fs, aPick_b, aPick_t, aPick_f, aAlloc_one, aAlloc_flat, aBox_some, aBuild_flat, aInt_add, aBin_add, aInt_sub, aBin_sub, aInt_mul, aBin_mul, aInt_quo, aBin_quo, aInt_rem, aBin_rem, aInt_and, aBin_and, aInt_or, aBin_or, aInt_xor, aBin_xor, aInt_andNot, aBin_andNot, aInt_eql, aBin_eql, aInt_neq, aBin_neq, aInt_lss, aBin_lss, aInt_leq, aBin_leq, aInt_gtr, aBin_gtr, aInt_geq, aBin_geq, aBin_shl, aBin_shr, aShift_shl, aShift_shr, aBin_be1, aBin_bn1, aBin_be2, aBin_bn2, aBin_be3, aBin_bn3, aBin_be4, aBin_bn4, aBin_be5, aBin_bn5, aBin_be6, aBin_bn6, aBin_be7, aBin_bn7, aBin_be8, aBin_bn8, aBin_be9, aBin_bn9, aUn_b, aUn_t, aUn_f, aUn_i, aNil_ptr, aNil_pv, aConv_int, aField_ptr, aField_pv, aIdx_sl, aIdx_prm, aIdx_row, aIdx_drow, aMake_i, aMake_s, aExtr_tup, aLen_ref, aLen_nil, aLen_sl, aLen_prm, aLen_str, aBuildL_some, aBuildS_some, aLoad_1b, aLoad_1d, aLoad_fb, aLoad_fd, aLoad_1p, aLoad_fp, aLoad_ep, aLoad_rr, aLoad_rd, aStore_1, aStore_f, aStore_r, aApp_some, aAppend_nil, aAppend_ref, aSlice_h, aSlice_l, aSlice_lh]
  refine ⟨fun h => by rw [if_neg h], fun h => ⟨fun h2 => by rw [if_pos h, chooseI, if_neg h2], fun h2 => ?_⟩⟩
  obtain ⟨N, rfl⟩ : ∃ N : Nat, n = N := ⟨n.toNat, by omega⟩
  obtain ⟨K, rfl⟩ : ∃ K : Nat, k = K := ⟨k.toNat, by omega⟩
  refine bc_loop (fun j : Nat => j ≤ K) (fun j => ⟨[(0, .int .i64 N), (1, .int .i64 K), (5, .int .i64 (ch (N - K + j) j)), (6, .int .i64 (j + 1))], []⟩) (fun j => K + 1 - j)
    [0, 1, 5, 6] [] 0 rfl (by simp [St.conv, getE, cv, ch]) (by omega) fun j hj => ?_
  simp only [kcode_at, kreg_at, bc_skip, bc_seq, bc_cond, bc_block, bc_exit, bc_ret, bc_region, lkX_cons, acond_tmp, aCase_t, aCase_f, aCase_b, afin_nil, cvE_some, resL, resV, cv, cvL, pack, entryE, inPrm, Option.getD_some, acall_clo, add_sp, add_lend, kcall_nil, selOf, inArgs, inA, inL, okA, okL, okBx, okC, outA, outL, outU, outB, bids, AV.bid, List.map_nil, List.map_cons, List.all_nil, List.all_cons, BEq.rfl, Bool.and_true, Bool.true_and, List.append_nil, sl3, ty3, aops_nil, aops_plain, aops_guard, kont_at, yes_at, no_at, aop_move, aop_assign, aop_pick, aop_alloc, aop_box, aop_build, aop_buildSlice, aop_load, aop_store, aop_nilCheck, aop_binOp, aop_unOp, aop_convert, aop_fieldAddr, aop_indexAddr, aop_slice, aop_extract, aop_makeSlice, aop_len, aop_max, aMax_int, slTy2, SC0, aop_append, aop_call, evalE, getE, putE, getB, setB, St.put, setsB, nth, AV.ofV, AV.blk, AV.bid, AV.one, SC.len, SC.get, List.length_nil, List.length_cons, Nat.reduceEqDiff, Nat.reduceAdd, ↓reduceIte, true_and, and_true, Bool.true_eq_false, Bool.false_eq_true, false_imp_iff, true_imp_iff, decide_eq_true_eq, Bool.not_eq_true', Bool.not_eq_false', decide_eq_false_iff_not, Option.isSome, List.nil_append, List.cons_append, aGuardO_some, aGuard_tt, aGuard_tf, aGuard_ft, aGuard_ff, aGuard_tb, aGuard_fb, aGuard_ts, aGuard_fs, aPick_b, aPick_t, aPick_f, aAlloc_one, aAlloc_flat, aBox_some, aBuild_flat, aInt_add, aBin_add, aInt_sub, aBin_sub, aInt_mul, aBin_mul, aInt_quo, aBin_quo, aInt_rem, aBin_rem, aInt_and, aBin_and, aInt_or, aBin_or, aInt_xor, aBin_xor, aInt_andNot, aBin_andNot, aInt_eql, aBin_eql, aInt_neq, aBin_neq, aInt_lss, aBin_lss, aInt_leq, aBin_leq, aInt_gtr, aBin_gtr, aInt_geq, aBin_geq, aBin_shl, aBin_shr, aShift_shl, aShift_shr, aBin_be1, aBin_bn1, aBin_be2, aBin_bn2, aBin_be3, aBin_bn3, aBin_be4, aBin_bn4, aBin_be5, aBin_bn5, aBin_be6, aBin_bn6, aBin_be7, aBin_bn7, aBin_be8, aBin_bn8, aBin_be9, aBin_bn9, aUn_b, aUn_t, aUn_f, aUn_i, aNil_ptr, aNil_pv, aConv_int, aField_ptr, aField_pv, aIdx_sl, aIdx_prm, aIdx_row, aIdx_drow, aMake_i, aMake_s, aExtr_tup, aLen_ref, aLen_nil, aLen_sl, aLen_prm, aLen_str, aBuildL_some, aBuildS_some, aLoad_1b, aLoad_1d, aLoad_fb, aLoad_fd, aLoad_1p, aLoad_fp, aLoad_ep, aLoad_rr, aLoad_rd, aStore_1, aStore_f, aStore_r, aApp_some, aAppend_nil, aAppend_ref, aSlice_h, aSlice_l, aSlice_lh, inR64]
  have hs := ch_small (n := N - K + j) (by omega) j
  have e1 : (N : Int) - K + (j + 1) = ((N - K + j + 1 : Nat) : Int) := by omega
  have e2 : (ch (N - K + j) j : Int) * ((N - K + j + 1 : Nat) : Int) = ((ch (N - K + j) j * (N - K + j + 1) : Nat) : Int) := by simp
  have hm : ch (N - K + j) j * (N - K + j + 1) ≤ 1048576 * 21 := Nat.mul_le_mul hs (by omega)
  have ed : ((ch (N - K + j) j * (N - K + j + 1) : Nat) : Int).tdiv ((j + 1 : Nat) : Int) = (ch (N - K + (j + 1)) (j + 1) : Nat) := tdivN (by omega) (ch_mul (N - K + j) j)
  have ec : ((j : Int) + 1) = ((j + 1 : Nat) : Int) := by omega
  rw [e1, e2]
  refine ⟨fun hi => ⟨by omega, by omega, by omega, ⟨by omega, ?_⟩, by omega, ?_⟩, fun hi => ?_⟩
  · rw [ec, ed]; have := ch_small (n := N - K + (j + 1)) (by omega) (j + 1); omega
  · rw [ec, ed]
    refine klp_of (j + 1) ?_ (by omega) (by omega)
    simp [St.conv, getE, cv]
  · have : j = K := by omega
    subst this
    have e : N - j + j = N := by omega
    rw [if_pos h, chooseI, if_pos h2, e]
    simp
theorem runs29 (n k : Int) (hn : n ≤ 20) : ARuns Try.prog 29 [.int .i64 n, .int .i64 k] [] (.int .i64 (chooseI n k)) [] := by
  refine ARuns_bc G1_ok is29 (by simp) fun hl _ => ?_
  simp only [Try.f29, G1_25, spIn_at, inB_t, inB_f, kcode_at, kreg_at, bc_skip, bc_seq, bc_cond, bc_block, bc_exit, bc_ret, bc_region, lkX_cons, acond_tmp, aCase_t, aCase_f, aCase_b, afin_nil, cvE_some, resL, resV, cv, cvL, pack, entryE, inPrm, Option.getD_some, acall_clo, add_sp, add_lend, kcall_nil, selOf, inArgs, inA, inL, okA, okL, okBx, okC, outA, outL, outU, outB, bids, AV.bid, List.map_nil, List.map_cons, List.all_nil, List.all_cons, BEq.rfl, Bool.and_true, Bool.true_and, List.append_nil, sl3, ty3, aops_nil, aops_plain, aops_guard, kont_at, yes_at, no_at, aop_move, aop_assign, aop_pick, aop_alloc, aop_box, aop_build, aop_buildSlice, aop_load, aop_store, aop_nilCheck, aop_binOp, aop_unOp, aop_convert, aop_fieldAddr, aop_indexAddr, aop_slice, aop_extract, aop_makeSlice, aop_len, aop_max, aMax_int, slTy2, SC0, aop_append, aop_call, evalE, getE, putE, getB, setB, St.put, setsB, nth, AV.ofV, AV.blk, AV.bid, AV.one, SC.len, SC.get, List.length_nil, List.length_cons, Nat.reduceEqDiff, Nat.reduceAdd, ↓reduceIte, true_and, and_true, Bool.true_eq_false, Bool.false_eq_true, false_imp_iff, true_imp_iff, decide_eq_true_eq, Bool.not_eq_true', Bool.not_eq_false', decide_eq_false_iff_not, Option.isSome, List.nil_append, List.cons_append, aGuardO_some, aGuard_tt, aGuard_tf, aGuard_ft, aGuard_ff, aGuard_tb, aGuard_fb, aGuard_ts, aGuard_fs, aPick_b, aPick_t, aPick_f, aAlloc_one, aAlloc_flat, aBox_some, aBuild_flat, aInt_add, aBin_add, aInt_sub, aBin_sub, aInt_mul, aBin_mul, aInt_quo, aBin_quo, aInt_rem, aBin_rem, aInt_and, aBin_and, aInt_or, aBin_or, aInt_xor, aBin_xor, aInt_andNot, aBin_andNot, aInt_eql, aBin_eql, aInt_neq, aBin_neq, aInt_lss, aBin_lss, aInt_leq, aBin_leq, aInt_gtr, aBin_gtr, aInt_geq, aBin_geq, aBin_shl, aBin_shr, aShift_shl, aShift_shr, aBin_be1, aBin_bn1, aBin_be2, aBin_bn2, aBin_be3, aBin_bn3, aBin_be4, aBin_bn4, aBin_be5, aBin_bn5, aBin_be6, aBin_bn6, aBin_be7, aBin_bn7, aBin_be8, aBin_bn8, aBin_be9, aBin_bn9, aUn_b, aUn_t, aUn_f, aUn_i, aNil_ptr, aNil_pv, aConv_int, aField_ptr, aField_pv, aIdx_sl, aIdx_prm, aIdx_row, aIdx_drow, aMake_i, aMake_s, aExtr_tup, aLen_ref, aLen_nil, aLen_sl, aLen_prm, aLen_str, aBuildL_some, aBuildS_some, aLoad_1b, aLoad_1d, aLoad_fb, aLoad_fd, aLoad_1p, aLoad_fp, aLoad_ep, aLoad_rr, aLoad_rd, aStore_1, aStore_f, aStore_r, aApp_some, aAppend_nil, aAppend_ref, aSlice_h, aSlice_l, aSlice_lh]
  refine ⟨fun h => by rw [chooseI, if_neg (by omega)], fun h => ⟨fun h2 => by rw [chooseI, if_neg (by omega)], fun h2 => ?_⟩⟩
  obtain ⟨N, rfl⟩ : ∃ N : Nat, n = N := ⟨n.toNat, by omega⟩
  obtain ⟨K, rfl⟩ : ∃ K : Nat, k = K := ⟨k.toNat, by omega⟩
  refine bc_loop (fun j : Nat => j ≤ K) (fun j => ⟨[(0, .int .i64 N), (5, .int .i64 (ch N j)), (14, .int .i64 K), (15, .int .i64 j)], []⟩) (fun j => K - j)
    [0, 5, 14, 15] [] 0 rfl (by simp [St.conv, getE, cv, ch]) (by omega) fun j hj => ?_
  simp only [kcode_at, kreg_at, bc_skip, bc_seq, bc_cond, bc_block, bc_exit, bc_ret, bc_region, lkX_cons, acond_tmp, aCase_t, aCase_f, aCase_b, afin_nil, cvE_some, resL, resV, cv, cvL, pack, entryE, inPrm, Option.getD_some, acall_clo, add_sp, add_lend, kcall_nil, selOf, inArgs, inA, inL, okA, okL, okBx, okC, outA, outL, outU, outB, bids, AV.bid, List.map_nil, List.map_cons, List.all_nil, List.all_cons, BEq.rfl, Bool.and_true, Bool.true_and, List.append_nil, sl3, ty3, aops_nil, aops_plain, aops_guard, kont_at, yes_at, no_at, aop_move, aop_assign, aop_pick, aop_alloc, aop_box, aop_build, aop_buildSlice, aop_load, aop_store, aop_nilCheck, aop_binOp, aop_unOp, aop_convert, aop_fieldAddr, aop_indexAddr, aop_slice, aop_extract, aop_makeSlice, aop_len, aop_max, aMax_int, slTy2, SC0, aop_append, aop_call, evalE, getE, putE, getB, setB, St.put, setsB, nth, AV.ofV, AV.blk, AV.bid, AV.one, SC.len, SC.get, List.length_nil, List.length_cons, Nat.reduceEqDiff, Nat.reduceAdd, ↓reduceIte, true_and, and_true, Bool.true_eq_false, Bool.false_eq_true, false_imp_iff, true_imp_iff, decide_eq_true_eq, Bool.not_eq_true', Bool.not_eq_false', decide_eq_false_iff_not, Option.isSome, List.nil_append, List.cons_append, aGuardO_some, aGuard_tt, aGuard_tf, aGuard_ft, aGuard_ff, aGuard_tb, aGuard_fb, aGuard_ts, aGuard_fs, aPick_b, aPick_t, aPick_f, aAlloc_one, aAlloc_flat, aBox_some, aBuild_flat, aInt_add, aBin_add, aInt_sub, aBin_sub, aInt_mul, aBin_mul, aInt_quo, aBin_quo, aInt_rem, aBin_rem, aInt_and, aBin_and, aInt_or, aBin_or, aInt_xor, aBin_xor, aInt_andNot, aBin_andNot, aInt_eql, aBin_eql, aInt_neq, aBin_neq, aInt_lss, aBin_lss, aInt_leq, aBin_leq, aInt_gtr, aBin_gtr, aInt_geq, aBin_geq, aBin_shl, aBin_shr, aShift_shl, aShift_shr, aBin_be1, aBin_bn1, aBin_be2, aBin_bn2, aBin_be3, aBin_bn3, aBin_be4, aBin_bn4, aBin_be5, aBin_bn5, aBin_be6, aBin_bn6, aBin_be7, aBin_bn7, aBin_be8, aBin_bn8, aBin_be9, aBin_bn9, aUn_b, aUn_t, aUn_f, aUn_i, aNil_ptr, aNil_pv, aConv_int, aField_ptr, aField_pv, aIdx_sl, aIdx_prm, aIdx_row, aIdx_drow, aMake_i, aMake_s, aExtr_tup, aLen_ref, aLen_nil, aLen_sl, aLen_prm, aLen_str, aBuildL_some, aBuildS_some, aLoad_1b, aLoad_1d, aLoad_fb, aLoad_fd, aLoad_1p, aLoad_fp, aLoad_ep, aLoad_rr, aLoad_rd, aStore_1, aStore_f, aStore_r, aApp_some, aAppend_nil, aAppend_ref, aSlice_h, aSlice_l, aSlice_lh, inR64]
  have hs := ch_small (n := N) (by omega) j
  have hm : ch N j * (N - j) ≤ 1048576 * 21 := Nat.mul_le_mul hs (by omega)
  have ed : ((ch N j * (N - j) : Nat) : Int).tdiv ((j + 1 : Nat) : Int) = (ch N (j + 1) : Nat) := tdivN (by omega) (ch_next (by omega))
  have ec : ((j : Int) + 1) = ((j + 1 : Nat) : Int) := by omega
  refine ⟨fun hi => ?_, fun hi => ?_⟩
  · have e1 : (N : Int) - j = ((N - j : Nat) : Int) := by omega
    have e2 : (ch N j : Int) * ((N - j : Nat) : Int) = ((ch N j * (N - j) : Nat) : Int) := by simp
    rw [e1, e2, ec, ed]
    have := ch_small (n := N) (by omega) (j + 1)
    refine ⟨by omega, by omega, by omega, ⟨by omega, by omega⟩, by omega, ?_⟩
    refine klp_of (j + 1) ?_ (by omega) (by omega)
    simp [St.conv, getE, cv]
  · have : j = K := by omega
    subst this
    rw [chooseI, if_pos (by omega)]
    simp

def spInts2 (pre : Int → Int → Prop) (r : Int → Int → Int) : List AV → List Bx → (AV → List Bx → Prop) → Prop
  | [.int .i64 n, .int .i64 k], [], K => pre n k ∧ K (.int .i64 (r n k)) []
  | _, _, _ => False
theorem spInts2_at {pre : Int → Int → Prop} {r : Int → Int → Int} {n k : Int} {K} : spInts2 pre r [.int .i64 n, .int .i64 k] [] K = (pre n k ∧ K (.int .i64 (r n k)) []) := id rfl
theorem spInts2_ok {pre : Int → Int → Prop} {r : Int → Int → Int} {f : FuncId} (h : ∀ n k, pre n k → ARuns Try.prog f [.int .i64 n, .int .i64 k] [] (.int .i64 (r n k)) []) : ∀ args giv K, spInts2 pre r args giv K → ∃ r outs, ARuns Try.prog f args giv r outs ∧ K r outs := by
  intro args giv K hk
  unfold spInts2 at hk
  split at hk
  · exact ⟨_, _, h _ _ hk.1, hk.2⟩
  · exact hk.elim
def r27 (n k : Int) : Int := if 0 ≤ n ∧ n ≤ 20 then chooseI n k else -1
def G2 : Gm := (G1.add 27 [] (spInts2 (fun _ _ => True) r27)).add 29 [] (spInts2 (fun n _ => n ≤ 20) chooseI)
theorem G2_ok : G2.ok Try.prog := Gm.add_ok (Gm.add_ok G1_ok (spInts2_ok fun n k _ => runs27 n k)) (spInts2_ok fun n k h => runs29 n k h)
theorem G2_25 : G2.sp 25 = spIn ∧ G2.lend 25 = [] := ⟨rfl, rfl⟩
theorem G2_28 : G2.sp 28 = spIn ∧ G2.lend 28 = [] := ⟨rfl, rfl⟩
theorem G2_27 : G2.sp 27 = spInts2 (fun _ _ => True) r27 ∧ G2.lend 27 = [] := ⟨rfl, rfl⟩
theorem G2_29 : G2.sp 29 = spInts2 (fun n _ => n ≤ 20) chooseI ∧ G2.lend 29 = [] := ⟨rfl, rfl⟩
def r13 (n k : Int) : Int := if 0 ≤ n ∧ n ≤ 20 ∧ 0 ≤ k ∧ k ≤ n then (if k = 0 then 0 else if n < 2 * k then chooseI n k else chooseI (n - 1) (k - 1)) else -1
theorem runs13 (n k : Int) : ARuns Try.prog 13 [.int .i64 n, .int .i64 k] [] (.int .i64 (r13 n k)) [] := by
  refine ARuns_bc G2_ok is13 (by simp) fun hl _ => ?_
  simp only [Try.f13, G2_25, G2_27, spIn_at, spInts2_at, inB_t, inB_f, kcode_at, kreg_at, bc_skip, bc_seq, bc_cond, bc_block, bc_exit, bc_ret, bc_region, lkX_cons, acond_tmp, aCase_t, aCase_f, aCase_b, afin_nil, cvE_some, resL, resV, cv, cvL, pack, entryE, inPrm, Option.getD_some, acall_clo, add_sp, add_lend, kcall_nil, selOf, inArgs, inA, inL, okA, okL, okBx, okC, outA, outL, outU, outB, bids, AV.bid, List.map_nil, List.map_cons, List.all_nil, List.all_cons, BEq.rfl, Bool.and_true, Bool.true_and, List.append_nil, sl3, ty3, aops_nil, aops_plain, aops_guard, kont_at, yes_at, no_at, aop_move, aop_assign, aop_pick, aop_alloc, aop_box, aop_build, aop_buildSlice, aop_load, aop_store, aop_nilCheck, aop_binOp, aop_unOp, aop_convert, aop_fieldAddr, aop_indexAddr, aop_slice, aop_extract, aop_makeSlice, aop_len, aop_max, aMax_int, slTy2, SC0, aop_append, aop_call, evalE, getE, putE, getB, setB, St.put, setsB, nth, AV.ofV, AV.blk, AV.bid, AV.one, SC.len, SC.get, List.length_nil, List.length_cons, Nat.reduceEqDiff, Nat.reduceAdd, ↓reduceIte, true_and, and_true, Bool.true_eq_false, Bool.false_eq_true, false_imp_iff, true_imp_iff, decide_eq_true_eq, Bool.not_eq_true', Bool.not_eq_false', decide_eq_false_iff_not, Option.isSome, List.nil_append, List.cons_append, aGuardO_some, aGuard_tt, aGuard_tf, aGuard_ft, aGuard_ff, aGuard_tb, aGuard_fb, aGuard_ts, aGuard_fs, aPick_b, aPick_t, aPick_f, aAlloc_one, aAlloc_flat, aBox_some, aBuild_flat, aInt_add, aBin_add, aInt_sub, aBin_sub, aInt_mul, aBin_mul, aInt_quo, aBin_quo, aInt_rem, aBin_rem, aInt_and, aBin_and, aInt_or, aBin_or, aInt_xor, aBin_xor, aInt_andNot, aBin_andNot, aInt_eql, aBin_eql, aInt_neq, aBin_neq, aInt_lss, aBin_lss, aInt_leq, aBin_leq, aInt_gtr, aBin_gtr, aInt_geq, aBin_geq, aBin_shl, aBin_shr, aShift_shl, aShift_shr, aBin_be1, aBin_bn1, aBin_be2, aBin_bn2, aBin_be3, aBin_bn3, aBin_be4, aBin_bn4, aBin_be5, aBin_bn5, aBin_be6, aBin_bn6, aBin_be7, aBin_bn7, aBin_be8, aBin_bn8, aBin_be9, aBin_bn9, aUn_b, aUn_t, aUn_f, aUn_i, aNil_ptr, aNil_pv, aConv_int, aField_ptr, aField_pv, aIdx_sl, aIdx_prm, aIdx_row, aIdx_drow, aMake_i, aMake_s, aExtr_tup, aLen_ref, aLen_nil, aLen_sl, aLen_prm, aLen_str, aBuildL_some, aBuildS_some, aLoad_1b, aLoad_1d, aLoad_fb, aLoad_fd, aLoad_1p, aLoad_fp, aLoad_ep, aLoad_rr, aLoad_rd, aStore_1, aStore_f, aStore_r, aApp_some, aAppend_nil, aAppend_ref, aSlice_h, aSlice_l, aSlice_lh, inR64]
  refine ⟨fun h => by rw [r13, if_neg (by omega)], fun h => ⟨fun h2 => by rw [r13, if_neg (by omega)], fun h2 => ⟨fun h3 => by rw [r13, if_pos (by omega), if_pos h3],
    fun h3 => ⟨by omega, fun h4 => by rw [r13, if_pos (by omega), if_neg h3, if_pos h4, r27, if_pos h], fun h4 => ⟨by omega, by omega, by rw [r13, if_pos (by omega), if_neg h3, if_neg h4, r27, if_pos (by omega)]⟩⟩⟩⟩⟩
theorem runs14 (n k : Int) : ARuns Try.prog 14 [.int .i64 n, .int .i64 k] [] (.int .i64 (r13 n k)) [] := by
  refine ARuns_bc G2_ok is14 (by simp) fun hl _ => ?_
  simp only [Try.f14, G2_28, G2_29, spIn_at, spInts2_at, inB_t, inB_f, kcode_at, kreg_at, bc_skip, bc_seq, bc_cond, bc_block, bc_exit, bc_ret, bc_region, lkX_cons, acond_tmp, aCase_t, aCase_f, aCase_b, afin_nil, cvE_some, resL, resV, cv, cvL, pack, entryE, inPrm, Option.getD_some, acall_clo, add_sp, add_lend, kcall_nil, selOf, inArgs, inA, inL, okA, okL, okBx, okC, outA, outL, outU, outB, bids, AV.bid, List.map_nil, List.map_cons, List.all_nil, List.all_cons, BEq.rfl, Bool.and_true, Bool.true_and, List.append_nil, sl3, ty3, aops_nil, aops_plain, aops_guard, kont_at, yes_at, no_at, aop_move, aop_assign, aop_pick, aop_alloc, aop_box, aop_build, aop_buildSlice, aop_load, aop_store, aop_nilCheck, aop_binOp, aop_unOp, aop_convert, aop_fieldAddr, aop_indexAddr, aop_slice, aop_extract, aop_makeSlice, aop_len, aop_max, aMax_int, slTy2, SC0, aop_append, aop_call, evalE, getE, putE, getB, setB, St.put, setsB, nth, AV.ofV, AV.blk, AV.bid, AV.one, SC.len, SC.get, List.length_nil, List.length_cons, Nat.reduceEqDiff, Nat.reduceAdd, ↓reduceIte, true_and, and_true, Bool.true_eq_false, Bool.false_eq_true, false_imp_iff, true_imp_iff, decide_eq_true_eq, Bool.not_eq_true', Bool.not_eq_false', decide_eq_false_iff_not, Option.isSome, List.nil_append, List.cons_append, aGuardO_some, aGuard_tt, aGuard_tf, aGuard_ft, aGuard_ff, aGuard_tb, aGuard_fb, aGuard_ts, aGuard_fs, aPick_b, aPick_t, aPick_f, aAlloc_one, aAlloc_flat, aBox_some, aBuild_flat, aInt_add, aBin_add, aInt_sub, aBin_sub, aInt_mul, aBin_mul, aInt_quo, aBin_quo, aInt_rem, aBin_rem, aInt_and, aBin_and, aInt_or, aBin_or, aInt_xor, aBin_xor, aInt_andNot, aBin_andNot, aInt_eql, aBin_eql, aInt_neq, aBin_neq, aInt_lss, aBin_lss, aInt_leq, aBin_leq, aInt_gtr, aBin_gtr, aInt_geq, aBin_geq, aBin_shl, aBin_shr, aShift_shl, aShift_shr, aBin_be1, aBin_bn1, aBin_be2, aBin_bn2, aBin_be3, aBin_bn3, aBin_be4, aBin_bn4, aBin_be5, aBin_bn5, aBin_be6, aBin_bn6, aBin_be7, aBin_bn7, aBin_be8, aBin_bn8, aBin_be9, aBin_bn9, aUn_b, aUn_t, aUn_f, aUn_i, aNil_ptr, aNil_pv, aConv_int, aField_ptr, aField_pv, aIdx_sl, aIdx_prm, aIdx_row, aIdx_drow, aMake_i, aMake_s, aExtr_tup, aLen_ref, aLen_nil, aLen_sl, aLen_prm, aLen_str, aBuildL_some, aBuildS_some, aLoad_1b, aLoad_1d, aLoad_fb, aLoad_fd, aLoad_1p, aLoad_fp, aLoad_ep, aLoad_rr, aLoad_rd, aStore_1, aStore_f, aStore_r, aApp_some, aAppend_nil, aAppend_ref, aSlice_h, aSlice_l, aSlice_lh, inR64]
  refine ⟨fun h => by rw [r13, if_neg (by omega)], fun h => ⟨fun h2 => by rw [r13, if_neg (by omega)], fun h2 => ⟨fun h3 => by rw [r13, if_pos (by omega), if_pos h3],
    fun h3 => ⟨by omega, fun h4 => ⟨by omega, by rw [r13, if_pos (by omega), if_neg h3, if_pos h4]⟩, fun h4 => ⟨by omega, by omega, by omega, by rw [r13, if_pos (by omega), if_neg h3, if_neg h4]⟩⟩⟩⟩⟩
def G3 : Gm := (G2.add 13 [] (spInts2 (fun _ _ => True) r13)).add 14 [] (spInts2 (fun _ _ => True) r13)
theorem G3_ok : G3.ok Try.prog := Gm.add_ok (Gm.add_ok G2_ok (spInts2_ok fun n k _ => runs13 n k)) (spInts2_ok fun n k h => runs14 n k)
theorem G3_13 : G3.sp 13 = spInts2 (fun _ _ => True) r13 ∧ G3.lend 13 = [] := ⟨rfl, rfl⟩
theorem G3_14 : G3.sp 14 = spInts2 (fun _ _ => True) r13 ∧ G3.lend 14 = [] := ⟨rfl, rfl⟩
theorem runs4 (n k : Int) : ARuns Try.prog 4 [.int .i64 n, .int .i64 k] [] (.bool true) [] := by
  refine ARuns_bc G3_ok is4 (by simp) fun hl _ => ?_
  simp only [Try.f4, G3_13, G3_14, spInts2_at, kcode_at, kreg_at, bc_skip, bc_seq, bc_cond, bc_block, bc_exit, bc_ret, bc_region, lkX_cons, acond_tmp, aCase_t, aCase_f, aCase_b, afin_nil, cvE_some, resL, resV, cv, cvL, pack, entryE, inPrm, Option.getD_some, acall_clo, add_sp, add_lend, kcall_nil, selOf, inArgs, inA, inL, okA, okL, okBx, okC, outA, outL, outU, outB, bids, AV.bid, List.map_nil, List.map_cons, List.all_nil, List.all_cons, BEq.rfl, Bool.and_true, Bool.true_and, List.append_nil, sl3, ty3, aops_nil, aops_plain, aops_guard, kont_at, yes_at, no_at, aop_move, aop_assign, aop_pick, aop_alloc, aop_box, aop_build, aop_buildSlice, aop_load, aop_store, aop_nilCheck, aop_binOp, aop_unOp, aop_convert, aop_fieldAddr, aop_indexAddr, aop_slice, aop_extract, aop_makeSlice, aop_len, aop_max, aMax_int, slTy2, SC0, aop_append, aop_call, evalE, getE, putE, getB, setB, St.put, setsB, nth, AV.ofV, AV.blk, AV.bid, AV.one, SC.len, SC.get, List.length_nil, List.length_cons, Nat.reduceEqDiff, Nat.reduceAdd, ↓reduceIte, true_and, and_true, Bool.true_eq_false, Bool.false_eq_true, false_imp_iff, true_imp_iff, decide_eq_true_eq, Bool.not_eq_true', Bool.not_eq_false', decide_eq_false_iff_not, Option.isSome, List.nil_append, List.cons_append, aGuardO_some, aGuard_tt, aGuard_tf, aGuard_ft, aGuard_ff, aGuard_tb, aGuard_fb, aGuard_ts, aGuard_fs, aPick_b, aPick_t, aPick_f, aAlloc_one, aAlloc_flat, aBox_some, aBuild_flat, aInt_add, aBin_add, aInt_sub, aBin_sub, aInt_mul, aBin_mul, aInt_quo, aBin_quo, aInt_rem, aBin_rem, aInt_and, aBin_and, aInt_or, aBin_or, aInt_xor, aBin_xor, aInt_andNot, aBin_andNot, aInt_eql, aBin_eql, aInt_neq, aBin_neq, aInt_lss, aBin_lss, aInt_leq, aBin_leq, aInt_gtr, aBin_gtr, aInt_geq, aBin_geq, aBin_shl, aBin_shr, aShift_shl, aShift_shr, aBin_be1, aBin_bn1, aBin_be2, aBin_bn2, aBin_be3, aBin_bn3, aBin_be4, aBin_bn4, aBin_be5, aBin_bn5, aBin_be6, aBin_bn6, aBin_be7, aBin_bn7, aBin_be8, aBin_bn8, aBin_be9, aBin_bn9, aUn_b, aUn_t, aUn_f, aUn_i, aNil_ptr, aNil_pv, aConv_int, aField_ptr, aField_pv, aIdx_sl, aIdx_prm, aIdx_row, aIdx_drow, aMake_i, aMake_s, aExtr_tup, aLen_ref, aLen_nil, aLen_sl, aLen_prm, aLen_str, aBuildL_some, aBuildS_some, aLoad_1b, aLoad_1d, aLoad_fb, aLoad_fd, aLoad_1p, aLoad_fp, aLoad_ep, aLoad_rr, aLoad_rd, aStore_1, aStore_f, aStore_r, aApp_some, aAppend_nil, aAppend_ref, aSlice_h, aSlice_l, aSlice_lh, inR64]
  exact fun h => absurd trivial h

namespace L4
open Go.ChangeShapes Go.WideShapes Go.ChangeAt Go.RowKit
theorem own : ownKnob Try.prog.godebug = none := by kernel_rfl
theorem und3 : Try.prog.underlying 3 = some (.int .i64) := by kernel_rfl
theorem und4 : Try.prog.underlying 4 = some .bool := by kernel_rfl
theorem func4 : Try.prog.funcs[4]? = some Try.f4 := by kernel_rfl
theorem params4 : Try.f4.params.toList = [3, 3] := by kernel_rfl
theorem walk (a0 a1 : Int) (W : World) : Calls Try.prog 4 #[.int .i64 a0, .int .i64 a1] W fun e W' => e = .returned (.bool true) ∧ Frame0 W W' (fun _ => False) :=
  (runs4 a0 a1).calls_bool fun g => by simp [RelL, Rel]
set_option maxRecDepth 100000 in
theorem lifted (os : Os) (started : os.Started) (H : Type) (enc : TypeId × Value → H) :
    ReturnsInHanded {} Try.checked os 4 .any (Rows.fnExactIntersectingBoundSpec.pre6 enc Try.prog Try.f4 Rows.fnExactIntersectingBoundRow.domain false) (Rows.fnExactIntersectingBoundSpec.post enc Try.prog Try.f4 false true false false) := by
  refine returnsInHanded_of_change (C := Try.checked) own started (by kernel_rfl) func4
    (ChangeSpec.witness6 (enc := enc) (C := Try.checked) false ⟨#[], #[.int .i64 0, .int .i64 0], []⟩ 8 (by kernel_rfl) (by kernel_rfl) (by kernel_rfl) (by kernel_rfl)) ?_
  intro W base args ds gs before hval hW _ _
  have hval : ∀ (j : Nat) t v, Try.f4.params[j]? = some t → args[j]? = some v → Value.okWide Try.prog W .any base t v := hval
  have hW' := hW
  obtain ⟨p, q, hA0, hV, rfl, hfz, hnd⟩ := hW
  have hA : DataW.TrodAll enc Try.prog W 0 (fun _ => true) true Try.f4.params.toList args.toList ds p := hA0
  rw [params4] at hA
  obtain ⟨v0, vs0, d0, ds0, p0, q0, hargs, rfl, rfl, h0, r0⟩ := trodAll_cons hA
  obtain ⟨v1, vs1, d1, ds1, p1, q1, rfl, rfl, rfl, h1, r1⟩ := trodAll_cons r0
  obtain ⟨rfl, rfl, rfl⟩ := trodAll_nil r1
  obtain rfl : args = #[v0, v1] := by cases args; simp_all
  obtain ⟨rfl, rfl⟩ := trodVars_none hV
  obtain ⟨a0, rfl, rfl, rfl, w0⟩ := open_int und3 (hval 0 3 v0 (by kernel_rfl) rfl) h0
  obtain ⟨a1, rfl, rfl, rfl, w1⟩ := open_int und3 (hval 1 3 v1 (by kernel_rfl) rfl) h1
  clear hA0
  simp only [List.append_nil] at hW'
  refine (walk a0 a1 W).mono fun e W' ⟨he, hg⟩ => ?_
  subst he
  exact ⟨_, rfl, post_of_frame (pa := []) (pv := []) hW' hg (fun _ _ _ => (trodAll_cons_mk (shut_bool und4 _) trodAll_mk0)) (fun sp _ => (trodAll_cons_mk (shut_int und3 w0) (trodAll_cons_mk (shut_int und3 w1) trodAll_mk0))) (fun _ _ => rfl) rfl
    (ok_one (by kernel_rfl) rfl (okWide_bool_mk und4 _))⟩
theorem over : Rows.fnExactIntersectingBoundRow.holds Try.pinned (OpenSpec.ofChange Rows.fnExactIntersectingBoundSpec) :=
  OpenClaim.holds_of_wide 4 Try.f4 rfl rfl rfl rfl rfl rfl rfl ⟨rfl, rfl, rfl, rfl, rfl⟩ rfl rfl rfl rfl rfl (by kernel_rfl) func4 (by kernel_rfl)
    (of_decide_eq_true (by kernel_rfl)) (by unfold Func.isWrapper; first | (rw [if_pos (by decide +kernel)]; kernel_rfl) | (rw [if_neg (by decide +kernel)]; exact ⟨rfl, rfl⟩))
    (fun os started H enc _ => lifted os started H enc)
end L4
theorem fnExactIntersectingBound : Rows.FnExactIntersectingBoundSaid := L4.over
#print axioms fnExactIntersectingBound
end Go.Proofs.Ytdnhlfbcgpicoaa
