import Derived.Test.YtdnhlfbcgpicoaaA28
namespace Go.Proofs.Ytdnhlfbcgpicoaa
open AM
set_option linter.unusedSimpArgs false
set_option linter.unusedVariables false
theorem sl3 : slTy Try.prog 3 = none := by kernel_rfl
theorem ty3 : tyOf Try.prog 3 = .one (.int .i64 0) := by kernel_rfl
theorem un3 : Try.prog.underlying 3 = some (.int .i64) := by kernel_rfl
theorem sl37 : slTy Try.prog 37 = none := by kernel_rfl
theorem ty37 : tyOf Try.prog 37 = .one (.int .u64 0) := by kernel_rfl
theorem un37 : Try.prog.underlying 37 = some (.int .u64) := by kernel_rfl
theorem sl44 : slTy Try.prog 44 = none := by kernel_rfl
theorem ty44 : tyOf Try.prog 44 = .one (.int .u64 0) := by kernel_rfl
theorem un44 : Try.prog.underlying 44 = some (.int .u64) := by kernel_rfl
theorem sl42 : slTy Try.prog 42 = none := by kernel_rfl
theorem ty42 : tyOf Try.prog 42 = .one (.int .u32 0) := by kernel_rfl
theorem un42 : Try.prog.underlying 42 = some (.int .u32) := by kernel_rfl
theorem sl5 : slTy Try.prog 5 = none := by kernel_rfl
theorem ty5 : tyOf Try.prog 5 = .one (.int .u8 0) := by kernel_rfl
theorem un5 : Try.prog.underlying 5 = some (.int .u8) := by kernel_rfl
theorem sl2 : slTy Try.prog 2 = none := by kernel_rfl
theorem ty2 : tyOf Try.prog 2 = .one (.int .i64 0) := by kernel_rfl
theorem un2 : Try.prog.underlying 2 = some (.int .i64) := by kernel_rfl
theorem sl21 : slTy Try.prog 21 = none := by kernel_rfl
theorem ty21 : tyOf Try.prog 21 = .one (.int .i32 0) := by kernel_rfl
theorem un21 : Try.prog.underlying 21 = some (.int .i32) := by kernel_rfl
theorem sl4 : slTy Try.prog 4 = none := by kernel_rfl
theorem ty4 : tyOf Try.prog 4 = .one .ff := by kernel_rfl
theorem un4 : Try.prog.underlying 4 = some .bool := by kernel_rfl
theorem sl9 : slTy Try.prog 9 = none := by kernel_rfl
theorem un9 : Try.prog.underlying 9 = some .string := by kernel_rfl
theorem sl22 : slTy Try.prog 22 = some (3, .ints .i64 []) := by kernel_rfl
theorem ty22 : tyOf Try.prog 22 = .one .nil := by kernel_rfl
theorem un22 : Try.prog.underlying 22 = some (.slice 3) := by kernel_rfl
theorem inR64 {n : Int} : InR .i64 n = (-9223372036854775808 ≤ n ∧ n ≤ 9223372036854775807) := rfl
theorem inRu64 {n : Int} : InR .u64 n = (0 ≤ n ∧ n ≤ 18446744073709551615) := rfl
theorem inRu32 {n : Int} : InR .u32 n = (0 ≤ n ∧ n ≤ 4294967295) := rfl
def inB (n l m : Int) : Bool := decide (l ≤ n) && decide (n ≤ m)
theorem inB_t {n l m : Int} : (inB n l m = true) = (l ≤ n ∧ n ≤ m) := by simp [inB]
theorem inB_f {n l m : Int} : (inB n l m = false) = ¬ (l ≤ n ∧ n ≤ m) := by rw [← inB_t]; simp

theorem getD_get {xs : List Int} {i : Nat} (h : i < xs.length) : xs.getD i 0 = xs[i] := by rw [List.getD_eq_getElem?_getD, List.getElem?_eq_getElem h]; rfl
theorem take_succ_getD {xs : List Int} {i : Nat} (h : i < xs.length) : xs.take (i + 1) = xs.take i ++ [xs.getD i 0] := by
  rw [List.take_add_one, List.getElem?_eq_getElem h, getD_get h]; rfl
theorem copy_step {xs : List Int} {i : Nat} (h : i < xs.length) : (xs.take i ++ List.replicate (xs.length - i) 0).set i (xs.getD i 0) = xs.take (i + 1) ++ List.replicate (xs.length - (i + 1)) 0 := by
  have e : (xs.take i).length = i := by rw [List.length_take]; omega
  obtain ⟨m, hm⟩ : ∃ m, xs.length - i = m + 1 := ⟨xs.length - i - 1, by omega⟩
  rw [List.set_append_right _ _ (by omega), e, Nat.sub_self, hm, List.replicate_succ, List.set_cons_zero, take_succ_getD h, show xs.length - (i + 1) = m by omega, List.append_assoc]; rfl
/-- One list, at a prefix another. -/
theorem eq_of_get {xs ys : List Int} (hl : xs.length = ys.length) (h : ∀ i, i < xs.length → xs.getD i 0 = ys.getD i 0) : xs = ys := by
  apply List.ext_getElem hl
  intro i h1 h2
  have := h i h1
  rwa [getD_get h1, getD_get h2] at this

/-- Each below the next. -/
def chStep (xs : List Int) (i : Nat) : Bool := decide (band .i64 (xs.getD (i - 1) 0) (xs.getD i 0) = xs.getD (i - 1) 0) && !decide (xs.getD (i - 1) 0 = xs.getD i 0)
def chainB (xs : List Int) : Bool := decide (xs.length ≤ 64) && xs.all (fun n => inB n 0 1023) && (List.range xs.length).all fun i => i == 0 || chStep xs i
theorem all_getD {xs : List Int} {p : Int → Bool} : xs.all p = true ↔ ∀ i, i < xs.length → p (xs.getD i 0) = true := by
  rw [List.all_eq_true]
  constructor
  · intro h i hi; rw [getD_get hi]; exact h _ (List.getElem_mem hi)
  · intro h x hx
    obtain ⟨i, hi, rfl⟩ := List.getElem_of_mem hx
    have := h i hi
    rwa [getD_get hi] at this
theorem chainB_iff {xs : List Int} : chainB xs = true ↔ xs.length ≤ 64 ∧ (∀ i, i < xs.length → inB (xs.getD i 0) 0 1023 = true) ∧ ∀ i, 0 < i → i < xs.length → chStep xs i = true := by
  simp only [chainB, Bool.and_eq_true, decide_eq_true_eq, all_getD, and_assoc]
  refine and_congr_right fun _ => and_congr_right fun _ => ?_
  rw [List.all_eq_true]
  constructor
  · intro h i h0 hi; have := h i (by simpa using hi); simpa [show i ≠ 0 by omega] using this
  · intro h i hi; by_cases h0 : i = 0
    · simp [h0]
    · simp [h i (by omega) (by simpa using hi)]
theorem chainB_false {xs : List Int} (h : ¬ (xs.length ≤ 64 ∧ (∀ i, i < xs.length → inB (xs.getD i 0) 0 1023 = true) ∧ ∀ i, 0 < i → i < xs.length → chStep xs i = true)) : chainB xs = false := by
  rw [← chainB_iff] at h; simpa using h
theorem chStep_iff {xs : List Int} {i : Nat} : chStep xs i = true ↔ (band .i64 (xs.getD (i - 1) 0) (xs.getD i 0) = xs.getD (i - 1) 0 ∧ ¬ xs.getD (i - 1) 0 = xs.getD i 0) := by
  unfold chStep
  generalize xs.getD (i - 1) 0 = a
  generalize xs.getD i 0 = b
  simp

theorem is_spec_l1In : FnIs Try.prog 25 15 [.tmp 6] (Try.f25.body.getD .skip) := ⟨⟨Try.f25, by kernel_rfl, by kernel_rfl, by kernel_rfl, by kernel_rfl⟩, by kernel_rfl, by kernel_rfl⟩
def G_spec_l1In : Gm := Gm.none
theorem G_spec_l1In_ok : G_spec_l1In.ok Try.prog := Gm.none_ok
set_option maxHeartbeats 1000000 in
set_option maxRecDepth 100000 in
theorem runs_spec_l1In (n l m : Int) : ARuns Try.prog 25 [.int .i64 n, .int .i64 l, .int .i64 m] [] (.bool (inB n l m)) [] := by
  refine ARuns_bc G_spec_l1In_ok is_spec_l1In (by simp) fun hl hlB => ?_
  simp only [kcode_at, kreg_at, bc_skip, bc_seq, bc_cond, bc_block, bc_exit, bc_ret, bc_region, lkX_cons, acond_tmp, aCase_t, aCase_f, aCase_b, afin_nil, cvE_some, resL, resV, cv, cvL, pack, entryE, inPrm, Option.getD_some, acall_clo, add_sp, add_lend, kcall_nil, selOf, inArgs, inA, inL, okA, okL, okBx, okC, outA, outL, outU, outB, deep, deepL, boxIds, AV.bid, List.map_nil, List.map_cons, List.all_nil, List.all_cons, BEq.rfl, Bool.and_true, Bool.true_and, List.append_nil, aops_nil, aops_plain, aops_guard, kont_at, yes_at, no_at, aop_move, aop_assign, aop_pick, aop_alloc, aop_box, aop_build, aop_buildSlice, aop_load, aop_store, aop_nilCheck, aop_binOp, aop_unOp, aop_convert, aop_fieldAddr, aop_indexAddr, aop_slice, aop_extract, aop_makeSlice, aop_len, aop_max, aMax_int, slTy2, SC0, aop_append, aop_call, evalE, getE, putE, getB, setB, St.put, setsB, nth, AV.ofV, AV.blk, AV.bid, AV.one, SC.len, SC.get, List.length_nil, List.length_cons, Nat.reduceEqDiff, Nat.reduceAdd, ↓reduceIte, true_and, and_true, Bool.true_eq_false, Bool.false_eq_true, false_imp_iff, true_imp_iff, decide_eq_true_eq, Bool.not_eq_true', Bool.not_eq_false', decide_eq_false_iff_not, Option.isSome, List.nil_append, List.cons_append, aGuardO_some, aGuard_tt, aGuard_tf, aGuard_ft, aGuard_ff, aGuard_tb, aGuard_fb, aGuard_ts, aGuard_fs, aPick_b, aPick_t, aPick_f, aAlloc_one, aAlloc_flat, aBox_some, aBuild_flat, aInt_add, aBin_add, aInt_sub, aBin_sub, aInt_mul, aBin_mul, aInt_quo, aBin_quo, aInt_rem, aBin_rem, aInt_and, aBin_and, aInt_or, aBin_or, aInt_xor, aBin_xor, aInt_andNot, aBin_andNot, aInt_eql, aBin_eql, aInt_neq, aBin_neq, aInt_lss, aBin_lss, aInt_leq, aBin_leq, aInt_gtr, aBin_gtr, aInt_geq, aBin_geq, aBin_shl, aBin_shr, aShift_shl, aShift_shr, aBin_be1, aBin_bn1, aBin_be2, aBin_bn2, aBin_be3, aBin_bn3, aBin_be4, aBin_bn4, aBin_be5, aBin_bn5, aBin_be6, aBin_bn6, aBin_be7, aBin_bn7, aBin_be8, aBin_bn8, aBin_be9, aBin_bn9, aUn_b, aUn_t, aUn_f, aUn_i, aNil_ptr, aNil_pv, aConv_int, aField_ptr, aField_pv, aIdx_sl, aIdx_prm, aIdx_row, aIdx_drow, aMake_i, aMake_s, aExtr_tup, aLen_ref, aLen_nil, aLen_sl, aLen_prm, aLen_str, aBuildL_some, aBuildS_some, aLoad_1b, aLoad_1d, aLoad_fb, aLoad_fd, aLoad_1p, aLoad_fp, aLoad_ep, aLoad_rr, aLoad_rd, aStore_1, aStore_f, aStore_r, aApp_some, aAppend_nil, aAppend_ref, aSlice_h, aSlice_l, aSlice_lh, bc_draw, kregD_at, aopsD_nil, aopsD_plain, aopsD_guard, kontD_at, contD_at, yesD_at, noD_at, splD_bool, splD_undef, splD_skip, splD_int, splD_tt, splD_ff, splD_str, splD_nil, splD_sl, splD_prm, splD_ref, splD_ptr, splD_rp, splD_ep, splD_pv, splD_agg, splD_tup, splD_clo, gD_tt, gD_tf, gD_ft, gD_ff, gD_ts, gD_fs, slotO_some, addTr_nil, addTr_cons, memQ_nil, memQ_cons, clash_nil, clash_cons, regC_none, regC_nil, regC_cons, regR_nil, regR_cons, mp_nil, mp_one0, mp_one1, mp_one2, mp_one3, kcall_one, liveB_row, liveB_box, idx, cont, still, dies, lend, lendA, lendDies, snocs, SC.snoc, SC.app, meet, AV.cells, fillA, List.getD_cons_zero, List.getD_cons_succ, List.set_cons_zero, List.set_cons_succ, List.length_singleton, Nat.le_refl, Nat.lt_irrefl, Nat.reduceLT, Nat.reduceLeDiff, Option.map_some, Option.map_none, List.flatMap_nil, List.flatMap_cons, Nat.zero_add, BEq.rfl, sl3, ty3, un3, sl37, ty37, un37, sl44, ty44, un44, sl42, ty42, un42, sl5, ty5, un5, sl2, ty2, un2, sl21, ty21, un21, sl4, ty4, un4, sl9, un9, sl22, ty22, un22, inR64, inRu64, inRu32, Try.f25]
  refine ⟨fun h => ?_, fun h => ?_⟩ <;> simp [h, inB]
def lend_spec_l1In : List Nat := []
def sp_spec_l1In : List AV → List Bx → (AV → List Bx → Prop) → Prop
  | [.int .i64 n, .int .i64 l, .int .i64 m], [], K => K (.bool (inB n l m)) []
  | _, _, _ => False
theorem at_spec_l1In {n l m : Int} {K : AV → List Bx → Prop} : sp_spec_l1In [.int .i64 n, .int .i64 l, .int .i64 m] [] K = (K (.bool (inB n l m)) []) := id rfl
theorem ok_spec_l1In : ∀ args giv K, sp_spec_l1In args giv K → ∃ r outs, ARuns Try.prog 25 args giv r outs ∧ K r outs := by
  intro args giv K hk
  unfold sp_spec_l1In at hk
  split at hk
  · exact ⟨_, _, runs_spec_l1In _ _ _ , hk⟩
  · exact hk.elim
theorem is_spec_IsChain : FnIs Try.prog 9 53 [.tmp 2] (Try.f9.body.getD .skip) := ⟨⟨Try.f9, by kernel_rfl, by kernel_rfl, by kernel_rfl, by kernel_rfl⟩, by kernel_rfl, by kernel_rfl⟩
def G_spec_IsChain : Gm := (Gm.none.add 25 lend_spec_l1In sp_spec_l1In)
theorem G_spec_IsChain_ok : G_spec_IsChain.ok Try.prog := (Gm.add_ok Gm.none_ok ok_spec_l1In)
theorem gs_spec_IsChain_25 : G_spec_IsChain.sp 25 = sp_spec_l1In ∧ G_spec_IsChain.lend 25 = lend_spec_l1In := ⟨rfl, rfl⟩
set_option maxHeartbeats 1000000 in
set_option maxRecDepth 100000 in
theorem runs_spec_IsChain (xs : List Int) : ARuns Try.prog 9 [.sl none (.ints .i64 xs)] [] (.bool (chainB xs)) [] := by
  refine ARuns_bc G_spec_IsChain_ok is_spec_IsChain (by simp) fun hl hlB => ?_
  simp only [kcode_at, kreg_at, bc_skip, bc_seq, bc_cond, bc_block, bc_exit, bc_ret, bc_region, lkX_cons, acond_tmp, aCase_t, aCase_f, aCase_b, afin_nil, cvE_some, resL, resV, cv, cvL, pack, entryE, inPrm, Option.getD_some, acall_clo, add_sp, add_lend, kcall_nil, selOf, inArgs, inA, inL, okA, okL, okBx, okC, outA, outL, outU, outB, deep, deepL, boxIds, AV.bid, List.map_nil, List.map_cons, List.all_nil, List.all_cons, BEq.rfl, Bool.and_true, Bool.true_and, List.append_nil, aops_nil, aops_plain, aops_guard, kont_at, yes_at, no_at, aop_move, aop_assign, aop_pick, aop_alloc, aop_box, aop_build, aop_buildSlice, aop_load, aop_store, aop_nilCheck, aop_binOp, aop_unOp, aop_convert, aop_fieldAddr, aop_indexAddr, aop_slice, aop_extract, aop_makeSlice, aop_len, aop_max, aMax_int, slTy2, SC0, aop_append, aop_call, evalE, getE, putE, getB, setB, St.put, setsB, nth, AV.ofV, AV.blk, AV.bid, AV.one, SC.len, SC.get, List.length_nil, List.length_cons, Nat.reduceEqDiff, Nat.reduceAdd, ↓reduceIte, true_and, and_true, Bool.true_eq_false, Bool.false_eq_true, false_imp_iff, true_imp_iff, decide_eq_true_eq, Bool.not_eq_true', Bool.not_eq_false', decide_eq_false_iff_not, Option.isSome, List.nil_append, List.cons_append, aGuardO_some, aGuard_tt, aGuard_tf, aGuard_ft, aGuard_ff, aGuard_tb, aGuard_fb, aGuard_ts, aGuard_fs, aPick_b, aPick_t, aPick_f, aAlloc_one, aAlloc_flat, aBox_some, aBuild_flat, aInt_add, aBin_add, aInt_sub, aBin_sub, aInt_mul, aBin_mul, aInt_quo, aBin_quo, aInt_rem, aBin_rem, aInt_and, aBin_and, aInt_or, aBin_or, aInt_xor, aBin_xor, aInt_andNot, aBin_andNot, aInt_eql, aBin_eql, aInt_neq, aBin_neq, aInt_lss, aBin_lss, aInt_leq, aBin_leq, aInt_gtr, aBin_gtr, aInt_geq, aBin_geq, aBin_shl, aBin_shr, aShift_shl, aShift_shr, aBin_be1, aBin_bn1, aBin_be2, aBin_bn2, aBin_be3, aBin_bn3, aBin_be4, aBin_bn4, aBin_be5, aBin_bn5, aBin_be6, aBin_bn6, aBin_be7, aBin_bn7, aBin_be8, aBin_bn8, aBin_be9, aBin_bn9, aUn_b, aUn_t, aUn_f, aUn_i, aNil_ptr, aNil_pv, aConv_int, aField_ptr, aField_pv, aIdx_sl, aIdx_prm, aIdx_row, aIdx_drow, aMake_i, aMake_s, aExtr_tup, aLen_ref, aLen_nil, aLen_sl, aLen_prm, aLen_str, aBuildL_some, aBuildS_some, aLoad_1b, aLoad_1d, aLoad_fb, aLoad_fd, aLoad_1p, aLoad_fp, aLoad_ep, aLoad_rr, aLoad_rd, aStore_1, aStore_f, aStore_r, aApp_some, aAppend_nil, aAppend_ref, aSlice_h, aSlice_l, aSlice_lh, bc_draw, kregD_at, aopsD_nil, aopsD_plain, aopsD_guard, kontD_at, contD_at, yesD_at, noD_at, splD_bool, splD_undef, splD_skip, splD_int, splD_tt, splD_ff, splD_str, splD_nil, splD_sl, splD_prm, splD_ref, splD_ptr, splD_rp, splD_ep, splD_pv, splD_agg, splD_tup, splD_clo, gD_tt, gD_tf, gD_ft, gD_ff, gD_ts, gD_fs, slotO_some, addTr_nil, addTr_cons, memQ_nil, memQ_cons, clash_nil, clash_cons, regC_none, regC_nil, regC_cons, regR_nil, regR_cons, mp_nil, mp_one0, mp_one1, mp_one2, mp_one3, kcall_one, liveB_row, liveB_box, idx, cont, still, dies, lend, lendA, lendDies, snocs, SC.snoc, SC.app, meet, AV.cells, fillA, List.getD_cons_zero, List.getD_cons_succ, List.set_cons_zero, List.set_cons_succ, List.length_singleton, Nat.le_refl, Nat.lt_irrefl, Nat.reduceLT, Nat.reduceLeDiff, Option.map_some, Option.map_none, List.flatMap_nil, List.flatMap_cons, Nat.zero_add, BEq.rfl, sl3, ty3, un3, sl37, ty37, un37, sl44, ty44, un44, sl42, ty42, un42, sl5, ty5, un5, sl2, ty2, un2, sl21, ty21, un21, sl4, ty4, un4, sl9, un9, sl22, ty22, un22, inR64, inRu64, inRu32, gs_spec_IsChain_25, at_spec_l1In, lend_spec_l1In, Try.f9]
  simp only [lensA, lenA, lenSC] at hl
  refine bc_loop (fun i : Nat => i ≤ xs.length ∧ (∀ k, k < i → inB (xs.getD k 0) 0 1023 = true) ∧ ∀ k, 0 < k → k < i → chStep xs k = true)
    (fun i => ⟨[(0, .prm 0 (.ints .i64 xs)), (3, .int .i64 i)], []⟩) (fun i => xs.length - i)
    [0, 3] [] 0 rfl rfl (by simp) fun i ⟨h1, h2, h3⟩ => ?_
  simp only [kcode_at, kreg_at, bc_skip, bc_seq, bc_cond, bc_block, bc_exit, bc_ret, bc_region, lkX_cons, acond_tmp, aCase_t, aCase_f, aCase_b, afin_nil, cvE_some, resL, resV, cv, cvL, pack, entryE, inPrm, Option.getD_some, acall_clo, add_sp, add_lend, kcall_nil, selOf, inArgs, inA, inL, okA, okL, okBx, okC, outA, outL, outU, outB, deep, deepL, boxIds, AV.bid, List.map_nil, List.map_cons, List.all_nil, List.all_cons, BEq.rfl, Bool.and_true, Bool.true_and, List.append_nil, aops_nil, aops_plain, aops_guard, kont_at, yes_at, no_at, aop_move, aop_assign, aop_pick, aop_alloc, aop_box, aop_build, aop_buildSlice, aop_load, aop_store, aop_nilCheck, aop_binOp, aop_unOp, aop_convert, aop_fieldAddr, aop_indexAddr, aop_slice, aop_extract, aop_makeSlice, aop_len, aop_max, aMax_int, slTy2, SC0, aop_append, aop_call, evalE, getE, putE, getB, setB, St.put, setsB, nth, AV.ofV, AV.blk, AV.bid, AV.one, SC.len, SC.get, List.length_nil, List.length_cons, Nat.reduceEqDiff, Nat.reduceAdd, ↓reduceIte, true_and, and_true, Bool.true_eq_false, Bool.false_eq_true, false_imp_iff, true_imp_iff, decide_eq_true_eq, Bool.not_eq_true', Bool.not_eq_false', decide_eq_false_iff_not, Option.isSome, List.nil_append, List.cons_append, aGuardO_some, aGuard_tt, aGuard_tf, aGuard_ft, aGuard_ff, aGuard_tb, aGuard_fb, aGuard_ts, aGuard_fs, aPick_b, aPick_t, aPick_f, aAlloc_one, aAlloc_flat, aBox_some, aBuild_flat, aInt_add, aBin_add, aInt_sub, aBin_sub, aInt_mul, aBin_mul, aInt_quo, aBin_quo, aInt_rem, aBin_rem, aInt_and, aBin_and, aInt_or, aBin_or, aInt_xor, aBin_xor, aInt_andNot, aBin_andNot, aInt_eql, aBin_eql, aInt_neq, aBin_neq, aInt_lss, aBin_lss, aInt_leq, aBin_leq, aInt_gtr, aBin_gtr, aInt_geq, aBin_geq, aBin_shl, aBin_shr, aShift_shl, aShift_shr, aBin_be1, aBin_bn1, aBin_be2, aBin_bn2, aBin_be3, aBin_bn3, aBin_be4, aBin_bn4, aBin_be5, aBin_bn5, aBin_be6, aBin_bn6, aBin_be7, aBin_bn7, aBin_be8, aBin_bn8, aBin_be9, aBin_bn9, aUn_b, aUn_t, aUn_f, aUn_i, aNil_ptr, aNil_pv, aConv_int, aField_ptr, aField_pv, aIdx_sl, aIdx_prm, aIdx_row, aIdx_drow, aMake_i, aMake_s, aExtr_tup, aLen_ref, aLen_nil, aLen_sl, aLen_prm, aLen_str, aBuildL_some, aBuildS_some, aLoad_1b, aLoad_1d, aLoad_fb, aLoad_fd, aLoad_1p, aLoad_fp, aLoad_ep, aLoad_rr, aLoad_rd, aStore_1, aStore_f, aStore_r, aApp_some, aAppend_nil, aAppend_ref, aSlice_h, aSlice_l, aSlice_lh, bc_draw, kregD_at, aopsD_nil, aopsD_plain, aopsD_guard, kontD_at, contD_at, yesD_at, noD_at, splD_bool, splD_undef, splD_skip, splD_int, splD_tt, splD_ff, splD_str, splD_nil, splD_sl, splD_prm, splD_ref, splD_ptr, splD_rp, splD_ep, splD_pv, splD_agg, splD_tup, splD_clo, gD_tt, gD_tf, gD_ft, gD_ff, gD_ts, gD_fs, slotO_some, addTr_nil, addTr_cons, memQ_nil, memQ_cons, clash_nil, clash_cons, regC_none, regC_nil, regC_cons, regR_nil, regR_cons, mp_nil, mp_one0, mp_one1, mp_one2, mp_one3, kcall_one, liveB_row, liveB_box, idx, cont, still, dies, lend, lendA, lendDies, snocs, SC.snoc, SC.app, meet, AV.cells, fillA, List.getD_cons_zero, List.getD_cons_succ, List.set_cons_zero, List.set_cons_succ, List.length_singleton, Nat.le_refl, Nat.lt_irrefl, Nat.reduceLT, Nat.reduceLeDiff, Option.map_some, Option.map_none, List.flatMap_nil, List.flatMap_cons, Nat.zero_add, BEq.rfl, sl3, ty3, un3, sl37, ty37, un37, sl44, ty44, un44, sl42, ty42, un42, sl5, ty5, un5, sl2, ty2, un2, sl21, ty21, un21, sl4, ty4, un4, sl9, un9, sl22, ty22, un22, inR64, inRu64, inRu32, gs_spec_IsChain_25, at_spec_l1In, lend_spec_l1In, Int.toNat_natCast]
  have e1 : ((i : Int) - 1).toNat = i - 1 := by omega
  rw [e1]
  have no : i < xs.length → 0 < i → ¬ chStep xs i = true → chainB xs = false := fun a b c => chainB_false fun h => c (h.2.2 i b a)
  (repeat' (first | apply And.intro | intro _)) <;> try (first | omega | trivial)
  · rename_i a _ b c; rw [no (by omega) (by omega) (by rw [chStep_iff]; exact fun h => c h.1)]
  · rename_i a _ b c d; rw [no (by omega) (by omega) (by rw [chStep_iff]; exact fun h => h.2 d)]
  · rename_i a b c d e
    refine klp_of (i + 1) rfl ⟨by omega, fun k hk => ?_, fun k h0 hk => ?_⟩ (by omega)
    · by_cases ek : k = i
      · rw [ek]; exact b
      · exact h2 k (by omega)
    · by_cases ek : k = i
      · rw [ek, chStep_iff]; exact ⟨d, e⟩
      · exact h3 k h0 (by omega)
  · rename_i a b c
    refine klp_of (i + 1) rfl ⟨by omega, fun k hk => ?_, fun k h0 hk => ?_⟩ (by omega)
    · by_cases ek : k = i
      · rw [ek]; exact b
      · exact h2 k (by omega)
    · by_cases ek : k = i
      · omega
      · exact h3 k h0 (by omega)
  · rename_i a b
    rw [chainB_false fun h => by rw [h.2.1 i (by omega)] at b; cases b]
  · rename_i a
    have : i = xs.length := by omega
    subst this
    congr 1
    by_cases h : xs.length ≤ 64
    · rw [chainB_iff.2 ⟨h, h2, h3⟩]; simp; omega
    · rw [chainB_false fun x => h x.1]; simp; omega
def lend_spec_IsChain : List Nat := []
def sp_spec_IsChain : List AV → List Bx → (AV → List Bx → Prop) → Prop
  | [.sl none (.ints .i64 xs)], [], K => K (.bool (chainB xs)) []
  | _, _, _ => False
theorem at_spec_IsChain {xs : List Int} {K : AV → List Bx → Prop} : sp_spec_IsChain [.sl none (.ints .i64 xs)] [] K = (K (.bool (chainB xs)) []) := id rfl
theorem ok_spec_IsChain : ∀ args giv K, sp_spec_IsChain args giv K → ∃ r outs, ARuns Try.prog 9 args giv r outs ∧ K r outs := by
  intro args giv K hk
  unfold sp_spec_IsChain at hk
  split at hk
  · exact ⟨_, _, runs_spec_IsChain _ , hk⟩
  · exact hk.elim
theorem is_laws_toIntS : FnIs Try.prog 10 22 [.tmp 2] (Try.f10.body.getD .skip) := ⟨⟨Try.f10, by kernel_rfl, by kernel_rfl, by kernel_rfl, by kernel_rfl⟩, by kernel_rfl, by kernel_rfl⟩
def G_laws_toIntS : Gm := Gm.none
theorem G_laws_toIntS_ok : G_laws_toIntS.ok Try.prog := Gm.none_ok
set_option maxHeartbeats 1000000 in
set_option maxRecDepth 100000 in
theorem runs_laws_toIntS (xs : List Int) (hp1 : xs.length ≤ 1099511627776) : ARuns Try.prog 10 [.sl none (.ints .i64 xs)] [] (.ref 0 xs.length) [.row 3 (.ints .i64 xs)] := by
  refine ARuns_bc G_laws_toIntS_ok is_laws_toIntS (by simp) fun hl hlB => ?_
  simp only [kcode_at, kreg_at, bc_skip, bc_seq, bc_cond, bc_block, bc_exit, bc_ret, bc_region, lkX_cons, acond_tmp, aCase_t, aCase_f, aCase_b, afin_nil, cvE_some, resL, resV, cv, cvL, pack, entryE, inPrm, Option.getD_some, acall_clo, add_sp, add_lend, kcall_nil, selOf, inArgs, inA, inL, okA, okL, okBx, okC, outA, outL, outU, outB, deep, deepL, boxIds, AV.bid, List.map_nil, List.map_cons, List.all_nil, List.all_cons, BEq.rfl, Bool.and_true, Bool.true_and, List.append_nil, aops_nil, aops_plain, aops_guard, kont_at, yes_at, no_at, aop_move, aop_assign, aop_pick, aop_alloc, aop_box, aop_build, aop_buildSlice, aop_load, aop_store, aop_nilCheck, aop_binOp, aop_unOp, aop_convert, aop_fieldAddr, aop_indexAddr, aop_slice, aop_extract, aop_makeSlice, aop_len, aop_max, aMax_int, slTy2, SC0, aop_append, aop_call, evalE, getE, putE, getB, setB, St.put, setsB, nth, AV.ofV, AV.blk, AV.bid, AV.one, SC.len, SC.get, List.length_nil, List.length_cons, Nat.reduceEqDiff, Nat.reduceAdd, ↓reduceIte, true_and, and_true, Bool.true_eq_false, Bool.false_eq_true, false_imp_iff, true_imp_iff, decide_eq_true_eq, Bool.not_eq_true', Bool.not_eq_false', decide_eq_false_iff_not, Option.isSome, List.nil_append, List.cons_append, aGuardO_some, aGuard_tt, aGuard_tf, aGuard_ft, aGuard_ff, aGuard_tb, aGuard_fb, aGuard_ts, aGuard_fs, aPick_b, aPick_t, aPick_f, aAlloc_one, aAlloc_flat, aBox_some, aBuild_flat, aInt_add, aBin_add, aInt_sub, aBin_sub, aInt_mul, aBin_mul, aInt_quo, aBin_quo, aInt_rem, aBin_rem, aInt_and, aBin_and, aInt_or, aBin_or, aInt_xor, aBin_xor, aInt_andNot, aBin_andNot, aInt_eql, aBin_eql, aInt_neq, aBin_neq, aInt_lss, aBin_lss, aInt_leq, aBin_leq, aInt_gtr, aBin_gtr, aInt_geq, aBin_geq, aBin_shl, aBin_shr, aShift_shl, aShift_shr, aBin_be1, aBin_bn1, aBin_be2, aBin_bn2, aBin_be3, aBin_bn3, aBin_be4, aBin_bn4, aBin_be5, aBin_bn5, aBin_be6, aBin_bn6, aBin_be7, aBin_bn7, aBin_be8, aBin_bn8, aBin_be9, aBin_bn9, aUn_b, aUn_t, aUn_f, aUn_i, aNil_ptr, aNil_pv, aConv_int, aField_ptr, aField_pv, aIdx_sl, aIdx_prm, aIdx_row, aIdx_drow, aMake_i, aMake_s, aExtr_tup, aLen_ref, aLen_nil, aLen_sl, aLen_prm, aLen_str, aBuildL_some, aBuildS_some, aLoad_1b, aLoad_1d, aLoad_fb, aLoad_fd, aLoad_1p, aLoad_fp, aLoad_ep, aLoad_rr, aLoad_rd, aStore_1, aStore_f, aStore_r, aApp_some, aAppend_nil, aAppend_ref, aSlice_h, aSlice_l, aSlice_lh, bc_draw, kregD_at, aopsD_nil, aopsD_plain, aopsD_guard, kontD_at, contD_at, yesD_at, noD_at, splD_bool, splD_undef, splD_skip, splD_int, splD_tt, splD_ff, splD_str, splD_nil, splD_sl, splD_prm, splD_ref, splD_ptr, splD_rp, splD_ep, splD_pv, splD_agg, splD_tup, splD_clo, gD_tt, gD_tf, gD_ft, gD_ff, gD_ts, gD_fs, slotO_some, addTr_nil, addTr_cons, memQ_nil, memQ_cons, clash_nil, clash_cons, regC_none, regC_nil, regC_cons, regR_nil, regR_cons, mp_nil, mp_one0, mp_one1, mp_one2, mp_one3, kcall_one, liveB_row, liveB_box, idx, cont, still, dies, lend, lendA, lendDies, snocs, SC.snoc, SC.app, meet, AV.cells, fillA, List.getD_cons_zero, List.getD_cons_succ, List.set_cons_zero, List.set_cons_succ, List.length_singleton, Nat.le_refl, Nat.lt_irrefl, Nat.reduceLT, Nat.reduceLeDiff, Option.map_some, Option.map_none, List.flatMap_nil, List.flatMap_cons, Nat.zero_add, BEq.rfl, sl3, ty3, un3, sl37, ty37, un37, sl44, ty44, un44, sl42, ty42, un42, sl5, ty5, un5, sl2, ty2, un2, sl21, ty21, un21, sl4, ty4, un4, sl9, un9, sl22, ty22, un22, inR64, inRu64, inRu32, Try.f10]
  refine ⟨⟨by omega, by omega, by omega⟩, ?_⟩
  refine bc_loop (fun i : Nat => i ≤ xs.length)
    (fun i => ⟨[(0, .prm 0 (.ints .i64 xs)), (3, .ref 0 xs.length), (4, .int .i64 i)], [.row 3 (.ints .i64 (xs.take i ++ List.replicate (xs.length - i) 0))]⟩) (fun i => xs.length - i)
    [0, 3, 4] [0] 0 rfl (by simp [St.conv, St.bf, getE, getB, cv, cvL, cvB, idx, still, pack]) (by simp) fun i h1 => ?_
  simp only [kcode_at, kreg_at, bc_skip, bc_seq, bc_cond, bc_block, bc_exit, bc_ret, bc_region, lkX_cons, acond_tmp, aCase_t, aCase_f, aCase_b, afin_nil, cvE_some, resL, resV, cv, cvL, pack, entryE, inPrm, Option.getD_some, acall_clo, add_sp, add_lend, kcall_nil, selOf, inArgs, inA, inL, okA, okL, okBx, okC, outA, outL, outU, outB, deep, deepL, boxIds, AV.bid, List.map_nil, List.map_cons, List.all_nil, List.all_cons, BEq.rfl, Bool.and_true, Bool.true_and, List.append_nil, aops_nil, aops_plain, aops_guard, kont_at, yes_at, no_at, aop_move, aop_assign, aop_pick, aop_alloc, aop_box, aop_build, aop_buildSlice, aop_load, aop_store, aop_nilCheck, aop_binOp, aop_unOp, aop_convert, aop_fieldAddr, aop_indexAddr, aop_slice, aop_extract, aop_makeSlice, aop_len, aop_max, aMax_int, slTy2, SC0, aop_append, aop_call, evalE, getE, putE, getB, setB, St.put, setsB, nth, AV.ofV, AV.blk, AV.bid, AV.one, SC.len, SC.get, List.length_nil, List.length_cons, Nat.reduceEqDiff, Nat.reduceAdd, ↓reduceIte, true_and, and_true, Bool.true_eq_false, Bool.false_eq_true, false_imp_iff, true_imp_iff, decide_eq_true_eq, Bool.not_eq_true', Bool.not_eq_false', decide_eq_false_iff_not, Option.isSome, List.nil_append, List.cons_append, aGuardO_some, aGuard_tt, aGuard_tf, aGuard_ft, aGuard_ff, aGuard_tb, aGuard_fb, aGuard_ts, aGuard_fs, aPick_b, aPick_t, aPick_f, aAlloc_one, aAlloc_flat, aBox_some, aBuild_flat, aInt_add, aBin_add, aInt_sub, aBin_sub, aInt_mul, aBin_mul, aInt_quo, aBin_quo, aInt_rem, aBin_rem, aInt_and, aBin_and, aInt_or, aBin_or, aInt_xor, aBin_xor, aInt_andNot, aBin_andNot, aInt_eql, aBin_eql, aInt_neq, aBin_neq, aInt_lss, aBin_lss, aInt_leq, aBin_leq, aInt_gtr, aBin_gtr, aInt_geq, aBin_geq, aBin_shl, aBin_shr, aShift_shl, aShift_shr, aBin_be1, aBin_bn1, aBin_be2, aBin_bn2, aBin_be3, aBin_bn3, aBin_be4, aBin_bn4, aBin_be5, aBin_bn5, aBin_be6, aBin_bn6, aBin_be7, aBin_bn7, aBin_be8, aBin_bn8, aBin_be9, aBin_bn9, aUn_b, aUn_t, aUn_f, aUn_i, aNil_ptr, aNil_pv, aConv_int, aField_ptr, aField_pv, aIdx_sl, aIdx_prm, aIdx_row, aIdx_drow, aMake_i, aMake_s, aExtr_tup, aLen_ref, aLen_nil, aLen_sl, aLen_prm, aLen_str, aBuildL_some, aBuildS_some, aLoad_1b, aLoad_1d, aLoad_fb, aLoad_fd, aLoad_1p, aLoad_fp, aLoad_ep, aLoad_rr, aLoad_rd, aStore_1, aStore_f, aStore_r, aApp_some, aAppend_nil, aAppend_ref, aSlice_h, aSlice_l, aSlice_lh, bc_draw, kregD_at, aopsD_nil, aopsD_plain, aopsD_guard, kontD_at, contD_at, yesD_at, noD_at, splD_bool, splD_undef, splD_skip, splD_int, splD_tt, splD_ff, splD_str, splD_nil, splD_sl, splD_prm, splD_ref, splD_ptr, splD_rp, splD_ep, splD_pv, splD_agg, splD_tup, splD_clo, gD_tt, gD_tf, gD_ft, gD_ff, gD_ts, gD_fs, slotO_some, addTr_nil, addTr_cons, memQ_nil, memQ_cons, clash_nil, clash_cons, regC_none, regC_nil, regC_cons, regR_nil, regR_cons, mp_nil, mp_one0, mp_one1, mp_one2, mp_one3, kcall_one, liveB_row, liveB_box, idx, cont, still, dies, lend, lendA, lendDies, snocs, SC.snoc, SC.app, meet, AV.cells, fillA, List.getD_cons_zero, List.getD_cons_succ, List.set_cons_zero, List.set_cons_succ, List.length_singleton, Nat.le_refl, Nat.lt_irrefl, Nat.reduceLT, Nat.reduceLeDiff, Option.map_some, Option.map_none, List.flatMap_nil, List.flatMap_cons, Nat.zero_add, BEq.rfl, sl3, ty3, un3, sl37, ty37, un37, sl44, ty44, un44, sl42, ty42, un42, sl5, ty5, un5, sl2, ty2, un2, sl21, ty21, un21, sl4, ty4, un4, sl9, un9, sl22, ty22, un22, inR64, inRu64, inRu32]
  simp only [lensA, lenA, lenSC] at hl
  have e : (xs.take i ++ List.replicate (xs.length - i) (0 : Int)).length = xs.length := by simp; omega
  refine ⟨fun h => ⟨by omega, ⟨e, by omega, by omega⟩, ⟨e, by omega⟩, by omega, ?_⟩, fun h => ?_⟩
  · refine klp_of (i + 1) ?_ (by omega) (by omega)
    have := copy_step (xs := xs) (i := i) (by omega)
    simp [St.conv, St.bf, getE, getB, cv, cvL, cvB, idx, still, pack]
    simpa using this
  · have : i = xs.length := by omega
    subst this
    refine afin_of [0] rfl rfl (by simp [St.conv, St.bf, getE, getB, cv, cvL, cvB, idx, still, pack]) (by simp [St.conv, St.bf, getE, getB, cv, cvL, cvB, idx, still, pack])
def lend_laws_toIntS : List Nat := []
def sp_laws_toIntS : List AV → List Bx → (AV → List Bx → Prop) → Prop
  | [.sl none (.ints .i64 xs)], [], K => (xs.length ≤ 1099511627776) ∧ K (.ref 0 xs.length) [.row 3 (.ints .i64 xs)]
  | _, _, _ => False
theorem at_laws_toIntS {xs : List Int} {K : AV → List Bx → Prop} : sp_laws_toIntS [.sl none (.ints .i64 xs)] [] K = ((xs.length ≤ 1099511627776) ∧ K (.ref 0 xs.length) [.row 3 (.ints .i64 xs)]) := id rfl
theorem ok_laws_toIntS : ∀ args giv K, sp_laws_toIntS args giv K → ∃ r outs, ARuns Try.prog 10 args giv r outs ∧ K r outs := by
  intro args giv K hk
  unfold sp_laws_toIntS at hk
  split at hk
  · obtain ⟨hp1, hk⟩ := hk; exact ⟨_, _, runs_laws_toIntS _ hp1, hk⟩
  · exact hk.elim
theorem wrap64 {n : Nat} (h : n < 2 ^ 63) : IntKind.wrap .i64 (n : Int) = n := by
  have h1 : (n : Int) % 2 ^ 64 = n := Int.emod_eq_of_lt (by omega) (by omega)
  simp only [IntKind.wrap, IntKind.bits, IntKind.signed, h1]
  rw [if_neg]
  simp; omega
theorem ofInt_nat {a : Nat} : BitVec.ofInt 64 (a : Int) = BitVec.ofNat 64 a := by simp
theorem bnd {a : Int} (h : 0 ≤ a) : a = ((a.toNat : Nat) : Int) := by omega
theorem band_nat {a b : Nat} (ha : a < 2 ^ 63) (hb : b < 2 ^ 63) : band .i64 a b = ((a &&& b : Nat) : Int) := by
  show IntKind.wrap .i64 ((BitVec.ofInt 64 (a : Int) &&& BitVec.ofInt 64 (b : Int)).toNat : Int) = _
  rw [ofInt_nat, ofInt_nat, BitVec.toNat_and, BitVec.toNat_ofNat, BitVec.toNat_ofNat]
  rw [Nat.mod_eq_of_lt (by omega), Nat.mod_eq_of_lt (by omega)]
  exact wrap64 (Nat.lt_of_le_of_lt Nat.and_le_left ha)
theorem bor_nat {a b : Nat} (ha : a < 2 ^ 63) (hb : b < 2 ^ 63) : bor .i64 a b = ((a ||| b : Nat) : Int) := by
  show IntKind.wrap .i64 ((BitVec.ofInt 64 (a : Int) ||| BitVec.ofInt 64 (b : Int)).toNat : Int) = _
  rw [ofInt_nat, ofInt_nat, BitVec.toNat_or, BitVec.toNat_ofNat, BitVec.toNat_ofNat]
  rw [Nat.mod_eq_of_lt (by omega), Nat.mod_eq_of_lt (by omega)]
  exact wrap64 (Nat.or_lt_two_pow ha hb)
theorem bxor_nat {a b : Nat} (ha : a < 2 ^ 63) (hb : b < 2 ^ 63) : bxor .i64 a b = ((a ^^^ b : Nat) : Int) := by
  show IntKind.wrap .i64 ((BitVec.ofInt 64 (a : Int) ^^^ BitVec.ofInt 64 (b : Int)).toNat : Int) = _
  rw [ofInt_nat, ofInt_nat, BitVec.toNat_xor, BitVec.toNat_ofNat, BitVec.toNat_ofNat]
  rw [Nat.mod_eq_of_lt (by omega), Nat.mod_eq_of_lt (by omega)]
  exact wrap64 (Nat.xor_lt_two_pow ha hb)
/-- a without b's bits. -/
theorem bandn_nat {a b : Nat} (ha : a < 2 ^ 63) (hb : b < 2 ^ 63) : bandn .i64 a b = ((a ^^^ (a &&& b) : Nat) : Int) := by
  have e : (BitVec.ofNat 64 a &&& ~~~ BitVec.ofNat 64 b) = BitVec.ofNat 64 a ^^^ (BitVec.ofNat 64 a &&& BitVec.ofNat 64 b) := by
    ext i hi
    simp only [BitVec.getElem_and, BitVec.getElem_not, BitVec.getElem_xor]
    cases (BitVec.ofNat 64 a)[i] <;> cases (BitVec.ofNat 64 b)[i] <;> rfl
  show IntKind.wrap .i64 ((BitVec.ofInt 64 (a : Int) &&& ~~~ BitVec.ofInt 64 (b : Int)).toNat : Int) = _
  rw [ofInt_nat, ofInt_nat, e, BitVec.toNat_xor, BitVec.toNat_and, BitVec.toNat_ofNat, BitVec.toNat_ofNat]
  rw [Nat.mod_eq_of_lt (show a < 2 ^ 64 by omega), Nat.mod_eq_of_lt (show b < 2 ^ 64 by omega)]
  exact wrap64 (Nat.xor_lt_two_pow ha (Nat.lt_of_le_of_lt Nat.and_le_left ha))
theorem xor_and_zero {a b : Nat} : a ^^^ (a &&& b) = 0 ↔ a &&& b = a := by
  constructor
  · intro h
    have : a ^^^ (a ^^^ (a &&& b)) = a ^^^ 0 := by rw [h]
    rwa [← Nat.xor_assoc, Nat.xor_self, Nat.zero_xor, Nat.xor_zero] at this
  · intro h; rw [h, Nat.xor_self]
theorem bandn_zero {a b : Int} (ha : 0 ≤ a ∧ a < 2 ^ 63) (hb : 0 ≤ b ∧ b < 2 ^ 63) : bandn .i64 a b = 0 ↔ band .i64 a b = a := by
  obtain ⟨a, rfl⟩ := Int.eq_ofNat_of_zero_le ha.1
  obtain ⟨b, rfl⟩ := Int.eq_ofNat_of_zero_le hb.1
  rw [bandn_nat (by omega) (by omega), band_nat (by omega) (by omega)]
  have := @xor_and_zero a b
  omega

theorem is_impl_within : FnIs Try.prog 28 15 [.tmp 6] (Try.f28.body.getD .skip) := ⟨⟨Try.f28, by kernel_rfl, by kernel_rfl, by kernel_rfl, by kernel_rfl⟩, by kernel_rfl, by kernel_rfl⟩
def G_impl_within : Gm := Gm.none
theorem G_impl_within_ok : G_impl_within.ok Try.prog := Gm.none_ok
set_option maxHeartbeats 1000000 in
set_option maxRecDepth 100000 in
theorem runs_impl_within (n l m : Int) : ARuns Try.prog 28 [.int .i64 n, .int .i64 l, .int .i64 m] [] (.bool (inB n l m)) [] := by
  refine ARuns_bc G_impl_within_ok is_impl_within (by simp) fun hl hlB => ?_
  simp only [kcode_at, kreg_at, bc_skip, bc_seq, bc_cond, bc_block, bc_exit, bc_ret, bc_region, lkX_cons, acond_tmp, aCase_t, aCase_f, aCase_b, afin_nil, cvE_some, resL, resV, cv, cvL, pack, entryE, inPrm, Option.getD_some, acall_clo, add_sp, add_lend, kcall_nil, selOf, inArgs, inA, inL, okA, okL, okBx, okC, outA, outL, outU, outB, deep, deepL, boxIds, AV.bid, List.map_nil, List.map_cons, List.all_nil, List.all_cons, BEq.rfl, Bool.and_true, Bool.true_and, List.append_nil, aops_nil, aops_plain, aops_guard, kont_at, yes_at, no_at, aop_move, aop_assign, aop_pick, aop_alloc, aop_box, aop_build, aop_buildSlice, aop_load, aop_store, aop_nilCheck, aop_binOp, aop_unOp, aop_convert, aop_fieldAddr, aop_indexAddr, aop_slice, aop_extract, aop_makeSlice, aop_len, aop_max, aMax_int, slTy2, SC0, aop_append, aop_call, evalE, getE, putE, getB, setB, St.put, setsB, nth, AV.ofV, AV.blk, AV.bid, AV.one, SC.len, SC.get, List.length_nil, List.length_cons, Nat.reduceEqDiff, Nat.reduceAdd, ↓reduceIte, true_and, and_true, Bool.true_eq_false, Bool.false_eq_true, false_imp_iff, true_imp_iff, decide_eq_true_eq, Bool.not_eq_true', Bool.not_eq_false', decide_eq_false_iff_not, Option.isSome, List.nil_append, List.cons_append, aGuardO_some, aGuard_tt, aGuard_tf, aGuard_ft, aGuard_ff, aGuard_tb, aGuard_fb, aGuard_ts, aGuard_fs, aPick_b, aPick_t, aPick_f, aAlloc_one, aAlloc_flat, aBox_some, aBuild_flat, aInt_add, aBin_add, aInt_sub, aBin_sub, aInt_mul, aBin_mul, aInt_quo, aBin_quo, aInt_rem, aBin_rem, aInt_and, aBin_and, aInt_or, aBin_or, aInt_xor, aBin_xor, aInt_andNot, aBin_andNot, aInt_eql, aBin_eql, aInt_neq, aBin_neq, aInt_lss, aBin_lss, aInt_leq, aBin_leq, aInt_gtr, aBin_gtr, aInt_geq, aBin_geq, aBin_shl, aBin_shr, aShift_shl, aShift_shr, aBin_be1, aBin_bn1, aBin_be2, aBin_bn2, aBin_be3, aBin_bn3, aBin_be4, aBin_bn4, aBin_be5, aBin_bn5, aBin_be6, aBin_bn6, aBin_be7, aBin_bn7, aBin_be8, aBin_bn8, aBin_be9, aBin_bn9, aUn_b, aUn_t, aUn_f, aUn_i, aNil_ptr, aNil_pv, aConv_int, aField_ptr, aField_pv, aIdx_sl, aIdx_prm, aIdx_row, aIdx_drow, aMake_i, aMake_s, aExtr_tup, aLen_ref, aLen_nil, aLen_sl, aLen_prm, aLen_str, aBuildL_some, aBuildS_some, aLoad_1b, aLoad_1d, aLoad_fb, aLoad_fd, aLoad_1p, aLoad_fp, aLoad_ep, aLoad_rr, aLoad_rd, aStore_1, aStore_f, aStore_r, aApp_some, aAppend_nil, aAppend_ref, aSlice_h, aSlice_l, aSlice_lh, bc_draw, kregD_at, aopsD_nil, aopsD_plain, aopsD_guard, kontD_at, contD_at, yesD_at, noD_at, splD_bool, splD_undef, splD_skip, splD_int, splD_tt, splD_ff, splD_str, splD_nil, splD_sl, splD_prm, splD_ref, splD_ptr, splD_rp, splD_ep, splD_pv, splD_agg, splD_tup, splD_clo, gD_tt, gD_tf, gD_ft, gD_ff, gD_ts, gD_fs, slotO_some, addTr_nil, addTr_cons, memQ_nil, memQ_cons, clash_nil, clash_cons, regC_none, regC_nil, regC_cons, regR_nil, regR_cons, mp_nil, mp_one0, mp_one1, mp_one2, mp_one3, kcall_one, liveB_row, liveB_box, idx, cont, still, dies, lend, lendA, lendDies, snocs, SC.snoc, SC.app, meet, AV.cells, fillA, List.getD_cons_zero, List.getD_cons_succ, List.set_cons_zero, List.set_cons_succ, List.length_singleton, Nat.le_refl, Nat.lt_irrefl, Nat.reduceLT, Nat.reduceLeDiff, Option.map_some, Option.map_none, List.flatMap_nil, List.flatMap_cons, Nat.zero_add, BEq.rfl, sl3, ty3, un3, sl37, ty37, un37, sl44, ty44, un44, sl42, ty42, un42, sl5, ty5, un5, sl2, ty2, un2, sl21, ty21, un21, sl4, ty4, un4, sl9, un9, sl22, ty22, un22, inR64, inRu64, inRu32, Try.f28]
  refine ⟨fun h => ?_, fun h => ?_⟩ <;> simp [h, inB]
def lend_impl_within : List Nat := []
def sp_impl_within : List AV → List Bx → (AV → List Bx → Prop) → Prop
  | [.int .i64 n, .int .i64 l, .int .i64 m], [], K => K (.bool (inB n l m)) []
  | _, _, _ => False
theorem at_impl_within {n l m : Int} {K : AV → List Bx → Prop} : sp_impl_within [.int .i64 n, .int .i64 l, .int .i64 m] [] K = (K (.bool (inB n l m)) []) := id rfl
theorem ok_impl_within : ∀ args giv K, sp_impl_within args giv K → ∃ r outs, ARuns Try.prog 28 args giv r outs ∧ K r outs := by
  intro args giv K hk
  unfold sp_impl_within at hk
  split at hk
  · exact ⟨_, _, runs_impl_within _ _ _ , hk⟩
  · exact hk.elim
theorem is_impl_areWithin : FnIs Try.prog 26 21 [.tmp 6] (Try.f26.body.getD .skip) := ⟨⟨Try.f26, by kernel_rfl, by kernel_rfl, by kernel_rfl, by kernel_rfl⟩, by kernel_rfl, by kernel_rfl⟩
def G_impl_areWithin : Gm := (Gm.none.add 28 lend_impl_within sp_impl_within)
theorem G_impl_areWithin_ok : G_impl_areWithin.ok Try.prog := (Gm.add_ok Gm.none_ok ok_impl_within)
theorem gs_impl_areWithin_28 : G_impl_areWithin.sp 28 = sp_impl_within ∧ G_impl_areWithin.lend 28 = lend_impl_within := ⟨rfl, rfl⟩
set_option maxHeartbeats 1000000 in
set_option maxRecDepth 100000 in
theorem runs_impl_areWithin (xs : List Int) (l m : Int) : ARuns Try.prog 26 [.sl none (.ints .i64 xs), .int .i64 l, .int .i64 m] [] (.bool (xs.all fun n => inB n l m)) [] := by
  refine ARuns_bc G_impl_areWithin_ok is_impl_areWithin (by simp) fun hl hlB => ?_
  simp only [kcode_at, kreg_at, bc_skip, bc_seq, bc_cond, bc_block, bc_exit, bc_ret, bc_region, lkX_cons, acond_tmp, aCase_t, aCase_f, aCase_b, afin_nil, cvE_some, resL, resV, cv, cvL, pack, entryE, inPrm, Option.getD_some, acall_clo, add_sp, add_lend, kcall_nil, selOf, inArgs, inA, inL, okA, okL, okBx, okC, outA, outL, outU, outB, deep, deepL, boxIds, AV.bid, List.map_nil, List.map_cons, List.all_nil, List.all_cons, BEq.rfl, Bool.and_true, Bool.true_and, List.append_nil, aops_nil, aops_plain, aops_guard, kont_at, yes_at, no_at, aop_move, aop_assign, aop_pick, aop_alloc, aop_box, aop_build, aop_buildSlice, aop_load, aop_store, aop_nilCheck, aop_binOp, aop_unOp, aop_convert, aop_fieldAddr, aop_indexAddr, aop_slice, aop_extract, aop_makeSlice, aop_len, aop_max, aMax_int, slTy2, SC0, aop_append, aop_call, evalE, getE, putE, getB, setB, St.put, setsB, nth, AV.ofV, AV.blk, AV.bid, AV.one, SC.len, SC.get, List.length_nil, List.length_cons, Nat.reduceEqDiff, Nat.reduceAdd, ↓reduceIte, true_and, and_true, Bool.true_eq_false, Bool.false_eq_true, false_imp_iff, true_imp_iff, decide_eq_true_eq, Bool.not_eq_true', Bool.not_eq_false', decide_eq_false_iff_not, Option.isSome, List.nil_append, List.cons_append, aGuardO_some, aGuard_tt, aGuard_tf, aGuard_ft, aGuard_ff, aGuard_tb, aGuard_fb, aGuard_ts, aGuard_fs, aPick_b, aPick_t, aPick_f, aAlloc_one, aAlloc_flat, aBox_some, aBuild_flat, aInt_add, aBin_add, aInt_sub, aBin_sub, aInt_mul, aBin_mul, aInt_quo, aBin_quo, aInt_rem, aBin_rem, aInt_and, aBin_and, aInt_or, aBin_or, aInt_xor, aBin_xor, aInt_andNot, aBin_andNot, aInt_eql, aBin_eql, aInt_neq, aBin_neq, aInt_lss, aBin_lss, aInt_leq, aBin_leq, aInt_gtr, aBin_gtr, aInt_geq, aBin_geq, aBin_shl, aBin_shr, aShift_shl, aShift_shr, aBin_be1, aBin_bn1, aBin_be2, aBin_bn2, aBin_be3, aBin_bn3, aBin_be4, aBin_bn4, aBin_be5, aBin_bn5, aBin_be6, aBin_bn6, aBin_be7, aBin_bn7, aBin_be8, aBin_bn8, aBin_be9, aBin_bn9, aUn_b, aUn_t, aUn_f, aUn_i, aNil_ptr, aNil_pv, aConv_int, aField_ptr, aField_pv, aIdx_sl, aIdx_prm, aIdx_row, aIdx_drow, aMake_i, aMake_s, aExtr_tup, aLen_ref, aLen_nil, aLen_sl, aLen_prm, aLen_str, aBuildL_some, aBuildS_some, aLoad_1b, aLoad_1d, aLoad_fb, aLoad_fd, aLoad_1p, aLoad_fp, aLoad_ep, aLoad_rr, aLoad_rd, aStore_1, aStore_f, aStore_r, aApp_some, aAppend_nil, aAppend_ref, aSlice_h, aSlice_l, aSlice_lh, bc_draw, kregD_at, aopsD_nil, aopsD_plain, aopsD_guard, kontD_at, contD_at, yesD_at, noD_at, splD_bool, splD_undef, splD_skip, splD_int, splD_tt, splD_ff, splD_str, splD_nil, splD_sl, splD_prm, splD_ref, splD_ptr, splD_rp, splD_ep, splD_pv, splD_agg, splD_tup, splD_clo, gD_tt, gD_tf, gD_ft, gD_ff, gD_ts, gD_fs, slotO_some, addTr_nil, addTr_cons, memQ_nil, memQ_cons, clash_nil, clash_cons, regC_none, regC_nil, regC_cons, regR_nil, regR_cons, mp_nil, mp_one0, mp_one1, mp_one2, mp_one3, kcall_one, liveB_row, liveB_box, idx, cont, still, dies, lend, lendA, lendDies, snocs, SC.snoc, SC.app, meet, AV.cells, fillA, List.getD_cons_zero, List.getD_cons_succ, List.set_cons_zero, List.set_cons_succ, List.length_singleton, Nat.le_refl, Nat.lt_irrefl, Nat.reduceLT, Nat.reduceLeDiff, Option.map_some, Option.map_none, List.flatMap_nil, List.flatMap_cons, Nat.zero_add, BEq.rfl, sl3, ty3, un3, sl37, ty37, un37, sl44, ty44, un44, sl42, ty42, un42, sl5, ty5, un5, sl2, ty2, un2, sl21, ty21, un21, sl4, ty4, un4, sl9, un9, sl22, ty22, un22, inR64, inRu64, inRu32, gs_impl_areWithin_28, at_impl_within, lend_impl_within, Try.f26]
  refine bc_loop (fun i : Nat => i ≤ xs.length ∧ (xs.take i).all (fun n => inB n l m) = true)
    (fun i => ⟨[(0, .prm 0 (.ints .i64 xs)), (1, .int .i64 l), (2, .int .i64 m), (9, .prm 0 (.ints .i64 xs)), (10, .int .i64 xs.length), (11, .int .i64 i)], []⟩) (fun i => xs.length - i)
    [0, 1, 2, 9, 10, 11] [] 0 rfl rfl (by simp) fun i ⟨h1, h2⟩ => ?_
  simp only [kcode_at, kreg_at, bc_skip, bc_seq, bc_cond, bc_block, bc_exit, bc_ret, bc_region, lkX_cons, acond_tmp, aCase_t, aCase_f, aCase_b, afin_nil, cvE_some, resL, resV, cv, cvL, pack, entryE, inPrm, Option.getD_some, acall_clo, add_sp, add_lend, kcall_nil, selOf, inArgs, inA, inL, okA, okL, okBx, okC, outA, outL, outU, outB, deep, deepL, boxIds, AV.bid, List.map_nil, List.map_cons, List.all_nil, List.all_cons, BEq.rfl, Bool.and_true, Bool.true_and, List.append_nil, aops_nil, aops_plain, aops_guard, kont_at, yes_at, no_at, aop_move, aop_assign, aop_pick, aop_alloc, aop_box, aop_build, aop_buildSlice, aop_load, aop_store, aop_nilCheck, aop_binOp, aop_unOp, aop_convert, aop_fieldAddr, aop_indexAddr, aop_slice, aop_extract, aop_makeSlice, aop_len, aop_max, aMax_int, slTy2, SC0, aop_append, aop_call, evalE, getE, putE, getB, setB, St.put, setsB, nth, AV.ofV, AV.blk, AV.bid, AV.one, SC.len, SC.get, List.length_nil, List.length_cons, Nat.reduceEqDiff, Nat.reduceAdd, ↓reduceIte, true_and, and_true, Bool.true_eq_false, Bool.false_eq_true, false_imp_iff, true_imp_iff, decide_eq_true_eq, Bool.not_eq_true', Bool.not_eq_false', decide_eq_false_iff_not, Option.isSome, List.nil_append, List.cons_append, aGuardO_some, aGuard_tt, aGuard_tf, aGuard_ft, aGuard_ff, aGuard_tb, aGuard_fb, aGuard_ts, aGuard_fs, aPick_b, aPick_t, aPick_f, aAlloc_one, aAlloc_flat, aBox_some, aBuild_flat, aInt_add, aBin_add, aInt_sub, aBin_sub, aInt_mul, aBin_mul, aInt_quo, aBin_quo, aInt_rem, aBin_rem, aInt_and, aBin_and, aInt_or, aBin_or, aInt_xor, aBin_xor, aInt_andNot, aBin_andNot, aInt_eql, aBin_eql, aInt_neq, aBin_neq, aInt_lss, aBin_lss, aInt_leq, aBin_leq, aInt_gtr, aBin_gtr, aInt_geq, aBin_geq, aBin_shl, aBin_shr, aShift_shl, aShift_shr, aBin_be1, aBin_bn1, aBin_be2, aBin_bn2, aBin_be3, aBin_bn3, aBin_be4, aBin_bn4, aBin_be5, aBin_bn5, aBin_be6, aBin_bn6, aBin_be7, aBin_bn7, aBin_be8, aBin_bn8, aBin_be9, aBin_bn9, aUn_b, aUn_t, aUn_f, aUn_i, aNil_ptr, aNil_pv, aConv_int, aField_ptr, aField_pv, aIdx_sl, aIdx_prm, aIdx_row, aIdx_drow, aMake_i, aMake_s, aExtr_tup, aLen_ref, aLen_nil, aLen_sl, aLen_prm, aLen_str, aBuildL_some, aBuildS_some, aLoad_1b, aLoad_1d, aLoad_fb, aLoad_fd, aLoad_1p, aLoad_fp, aLoad_ep, aLoad_rr, aLoad_rd, aStore_1, aStore_f, aStore_r, aApp_some, aAppend_nil, aAppend_ref, aSlice_h, aSlice_l, aSlice_lh, bc_draw, kregD_at, aopsD_nil, aopsD_plain, aopsD_guard, kontD_at, contD_at, yesD_at, noD_at, splD_bool, splD_undef, splD_skip, splD_int, splD_tt, splD_ff, splD_str, splD_nil, splD_sl, splD_prm, splD_ref, splD_ptr, splD_rp, splD_ep, splD_pv, splD_agg, splD_tup, splD_clo, gD_tt, gD_tf, gD_ft, gD_ff, gD_ts, gD_fs, slotO_some, addTr_nil, addTr_cons, memQ_nil, memQ_cons, clash_nil, clash_cons, regC_none, regC_nil, regC_cons, regR_nil, regR_cons, mp_nil, mp_one0, mp_one1, mp_one2, mp_one3, kcall_one, liveB_row, liveB_box, idx, cont, still, dies, lend, lendA, lendDies, snocs, SC.snoc, SC.app, meet, AV.cells, fillA, List.getD_cons_zero, List.getD_cons_succ, List.set_cons_zero, List.set_cons_succ, List.length_singleton, Nat.le_refl, Nat.lt_irrefl, Nat.reduceLT, Nat.reduceLeDiff, Option.map_some, Option.map_none, List.flatMap_nil, List.flatMap_cons, Nat.zero_add, BEq.rfl, sl3, ty3, un3, sl37, ty37, un37, sl44, ty44, un44, sl42, ty42, un42, sl5, ty5, un5, sl2, ty2, un2, sl21, ty21, un21, sl4, ty4, un4, sl9, un9, sl22, ty22, un22, inR64, inRu64, inRu32, gs_impl_areWithin_28, at_impl_within, lend_impl_within]
  simp only [lensA, lenA, lenSC] at hl
  refine ⟨fun hi => ⟨by omega, fun h => ?_, fun h => ⟨?_, ?_⟩⟩, fun hi => ?_⟩
  · simp only [Int.toNat_natCast] at h
    congr 1; symm
    rw [List.all_eq_false]
    refine ⟨xs.getD i 0, ?_, by rw [h]; simp⟩
    have : i < xs.length := by omega
    rw [List.getD_eq_getElem?_getD, List.getElem?_eq_getElem this]; exact List.getElem_mem _
  · omega
  · refine klp_of (i + 1) ?_ ⟨by omega, ?_⟩ (by omega)
    · rfl
    · have : i < xs.length := by omega
      rw [List.take_add_one, List.all_append, h2, List.getElem?_eq_getElem this]
      simpa [List.getD_eq_getElem?_getD, List.getElem?_eq_getElem this] using h
  · have : i = xs.length := by omega
    subst this
    rw [List.take_length] at h2
    rw [h2]
def lend_impl_areWithin : List Nat := []
def sp_impl_areWithin : List AV → List Bx → (AV → List Bx → Prop) → Prop
  | [.sl none (.ints .i64 xs), .int .i64 l, .int .i64 m], [], K => K (.bool (xs.all fun n => inB n l m)) []
  | _, _, _ => False
theorem at_impl_areWithin {xs : List Int} {l m : Int} {K : AV → List Bx → Prop} : sp_impl_areWithin [.sl none (.ints .i64 xs), .int .i64 l, .int .i64 m] [] K = (K (.bool (xs.all fun n => inB n l m)) []) := id rfl
theorem ok_impl_areWithin : ∀ args giv K, sp_impl_areWithin args giv K → ∃ r outs, ARuns Try.prog 26 args giv r outs ∧ K r outs := by
  intro args giv K hk
  unfold sp_impl_areWithin at hk
  split at hk
  · exact ⟨_, _, runs_impl_areWithin _ _ _ , hk⟩
  · exact hk.elim
theorem is_impl_IsChain : FnIs Try.prog 11 41 [.tmp 2] (Try.f11.body.getD .skip) := ⟨⟨Try.f11, by kernel_rfl, by kernel_rfl, by kernel_rfl, by kernel_rfl⟩, by kernel_rfl, by kernel_rfl⟩
def G_impl_IsChain : Gm := (Gm.none.add 26 lend_impl_areWithin sp_impl_areWithin)
theorem G_impl_IsChain_ok : G_impl_IsChain.ok Try.prog := (Gm.add_ok Gm.none_ok ok_impl_areWithin)
theorem gs_impl_IsChain_26 : G_impl_IsChain.sp 26 = sp_impl_areWithin ∧ G_impl_IsChain.lend 26 = lend_impl_areWithin := ⟨rfl, rfl⟩
set_option maxHeartbeats 1000000 in
set_option maxRecDepth 100000 in
theorem runs_impl_IsChain (xs : List Int) : ARuns Try.prog 11 [.sl none (.ints .i64 xs)] [] (.bool (chainB xs)) [] := by
  refine ARuns_bc G_impl_IsChain_ok is_impl_IsChain (by simp) fun hl hlB => ?_
  simp only [kcode_at, kreg_at, bc_skip, bc_seq, bc_cond, bc_block, bc_exit, bc_ret, bc_region, lkX_cons, acond_tmp, aCase_t, aCase_f, aCase_b, afin_nil, cvE_some, resL, resV, cv, cvL, pack, entryE, inPrm, Option.getD_some, acall_clo, add_sp, add_lend, kcall_nil, selOf, inArgs, inA, inL, okA, okL, okBx, okC, outA, outL, outU, outB, deep, deepL, boxIds, AV.bid, List.map_nil, List.map_cons, List.all_nil, List.all_cons, BEq.rfl, Bool.and_true, Bool.true_and, List.append_nil, aops_nil, aops_plain, aops_guard, kont_at, yes_at, no_at, aop_move, aop_assign, aop_pick, aop_alloc, aop_box, aop_build, aop_buildSlice, aop_load, aop_store, aop_nilCheck, aop_binOp, aop_unOp, aop_convert, aop_fieldAddr, aop_indexAddr, aop_slice, aop_extract, aop_makeSlice, aop_len, aop_max, aMax_int, slTy2, SC0, aop_append, aop_call, evalE, getE, putE, getB, setB, St.put, setsB, nth, AV.ofV, AV.blk, AV.bid, AV.one, SC.len, SC.get, List.length_nil, List.length_cons, Nat.reduceEqDiff, Nat.reduceAdd, ↓reduceIte, true_and, and_true, Bool.true_eq_false, Bool.false_eq_true, false_imp_iff, true_imp_iff, decide_eq_true_eq, Bool.not_eq_true', Bool.not_eq_false', decide_eq_false_iff_not, Option.isSome, List.nil_append, List.cons_append, aGuardO_some, aGuard_tt, aGuard_tf, aGuard_ft, aGuard_ff, aGuard_tb, aGuard_fb, aGuard_ts, aGuard_fs, aPick_b, aPick_t, aPick_f, aAlloc_one, aAlloc_flat, aBox_some, aBuild_flat, aInt_add, aBin_add, aInt_sub, aBin_sub, aInt_mul, aBin_mul, aInt_quo, aBin_quo, aInt_rem, aBin_rem, aInt_and, aBin_and, aInt_or, aBin_or, aInt_xor, aBin_xor, aInt_andNot, aBin_andNot, aInt_eql, aBin_eql, aInt_neq, aBin_neq, aInt_lss, aBin_lss, aInt_leq, aBin_leq, aInt_gtr, aBin_gtr, aInt_geq, aBin_geq, aBin_shl, aBin_shr, aShift_shl, aShift_shr, aBin_be1, aBin_bn1, aBin_be2, aBin_bn2, aBin_be3, aBin_bn3, aBin_be4, aBin_bn4, aBin_be5, aBin_bn5, aBin_be6, aBin_bn6, aBin_be7, aBin_bn7, aBin_be8, aBin_bn8, aBin_be9, aBin_bn9, aUn_b, aUn_t, aUn_f, aUn_i, aNil_ptr, aNil_pv, aConv_int, aField_ptr, aField_pv, aIdx_sl, aIdx_prm, aIdx_row, aIdx_drow, aMake_i, aMake_s, aExtr_tup, aLen_ref, aLen_nil, aLen_sl, aLen_prm, aLen_str, aBuildL_some, aBuildS_some, aLoad_1b, aLoad_1d, aLoad_fb, aLoad_fd, aLoad_1p, aLoad_fp, aLoad_ep, aLoad_rr, aLoad_rd, aStore_1, aStore_f, aStore_r, aApp_some, aAppend_nil, aAppend_ref, aSlice_h, aSlice_l, aSlice_lh, bc_draw, kregD_at, aopsD_nil, aopsD_plain, aopsD_guard, kontD_at, contD_at, yesD_at, noD_at, splD_bool, splD_undef, splD_skip, splD_int, splD_tt, splD_ff, splD_str, splD_nil, splD_sl, splD_prm, splD_ref, splD_ptr, splD_rp, splD_ep, splD_pv, splD_agg, splD_tup, splD_clo, gD_tt, gD_tf, gD_ft, gD_ff, gD_ts, gD_fs, slotO_some, addTr_nil, addTr_cons, memQ_nil, memQ_cons, clash_nil, clash_cons, regC_none, regC_nil, regC_cons, regR_nil, regR_cons, mp_nil, mp_one0, mp_one1, mp_one2, mp_one3, kcall_one, liveB_row, liveB_box, idx, cont, still, dies, lend, lendA, lendDies, snocs, SC.snoc, SC.app, meet, AV.cells, fillA, List.getD_cons_zero, List.getD_cons_succ, List.set_cons_zero, List.set_cons_succ, List.length_singleton, Nat.le_refl, Nat.lt_irrefl, Nat.reduceLT, Nat.reduceLeDiff, Option.map_some, Option.map_none, List.flatMap_nil, List.flatMap_cons, Nat.zero_add, BEq.rfl, sl3, ty3, un3, sl37, ty37, un37, sl44, ty44, un44, sl42, ty42, un42, sl5, ty5, un5, sl2, ty2, un2, sl21, ty21, un21, sl4, ty4, un4, sl9, un9, sl22, ty22, un22, inR64, inRu64, inRu32, gs_impl_IsChain_26, at_impl_areWithin, lend_impl_areWithin, Try.f11]
  simp only [lensA, lenA, lenSC] at hl
  refine ⟨fun h => ?_, fun h => ⟨fun ha => ?_, fun ha => ?_⟩⟩
  · rw [chainB_false fun x => by omega]
  · rw [chainB_false fun x => by rw [all_getD.2 x.2.1] at ha; cases ha]
  rw [all_getD] at ha
  refine bc_loop (fun i : Nat => 1 ≤ i ∧ (i ≤ xs.length ∨ i = 1) ∧ ∀ k, 0 < k → k < i → chStep xs k = true)
    (fun i => ⟨[(0, .prm 0 (.ints .i64 xs)), (3, .int .i64 i)], []⟩) (fun i => xs.length - i)
    [0, 3] [] 1 rfl rfl (by simp; omega) fun i ⟨h1, h2, h3⟩ => ?_
  simp only [kcode_at, kreg_at, bc_skip, bc_seq, bc_cond, bc_block, bc_exit, bc_ret, bc_region, lkX_cons, acond_tmp, aCase_t, aCase_f, aCase_b, afin_nil, cvE_some, resL, resV, cv, cvL, pack, entryE, inPrm, Option.getD_some, acall_clo, add_sp, add_lend, kcall_nil, selOf, inArgs, inA, inL, okA, okL, okBx, okC, outA, outL, outU, outB, deep, deepL, boxIds, AV.bid, List.map_nil, List.map_cons, List.all_nil, List.all_cons, BEq.rfl, Bool.and_true, Bool.true_and, List.append_nil, aops_nil, aops_plain, aops_guard, kont_at, yes_at, no_at, aop_move, aop_assign, aop_pick, aop_alloc, aop_box, aop_build, aop_buildSlice, aop_load, aop_store, aop_nilCheck, aop_binOp, aop_unOp, aop_convert, aop_fieldAddr, aop_indexAddr, aop_slice, aop_extract, aop_makeSlice, aop_len, aop_max, aMax_int, slTy2, SC0, aop_append, aop_call, evalE, getE, putE, getB, setB, St.put, setsB, nth, AV.ofV, AV.blk, AV.bid, AV.one, SC.len, SC.get, List.length_nil, List.length_cons, Nat.reduceEqDiff, Nat.reduceAdd, ↓reduceIte, true_and, and_true, Bool.true_eq_false, Bool.false_eq_true, false_imp_iff, true_imp_iff, decide_eq_true_eq, Bool.not_eq_true', Bool.not_eq_false', decide_eq_false_iff_not, Option.isSome, List.nil_append, List.cons_append, aGuardO_some, aGuard_tt, aGuard_tf, aGuard_ft, aGuard_ff, aGuard_tb, aGuard_fb, aGuard_ts, aGuard_fs, aPick_b, aPick_t, aPick_f, aAlloc_one, aAlloc_flat, aBox_some, aBuild_flat, aInt_add, aBin_add, aInt_sub, aBin_sub, aInt_mul, aBin_mul, aInt_quo, aBin_quo, aInt_rem, aBin_rem, aInt_and, aBin_and, aInt_or, aBin_or, aInt_xor, aBin_xor, aInt_andNot, aBin_andNot, aInt_eql, aBin_eql, aInt_neq, aBin_neq, aInt_lss, aBin_lss, aInt_leq, aBin_leq, aInt_gtr, aBin_gtr, aInt_geq, aBin_geq, aBin_shl, aBin_shr, aShift_shl, aShift_shr, aBin_be1, aBin_bn1, aBin_be2, aBin_bn2, aBin_be3, aBin_bn3, aBin_be4, aBin_bn4, aBin_be5, aBin_bn5, aBin_be6, aBin_bn6, aBin_be7, aBin_bn7, aBin_be8, aBin_bn8, aBin_be9, aBin_bn9, aUn_b, aUn_t, aUn_f, aUn_i, aNil_ptr, aNil_pv, aConv_int, aField_ptr, aField_pv, aIdx_sl, aIdx_prm, aIdx_row, aIdx_drow, aMake_i, aMake_s, aExtr_tup, aLen_ref, aLen_nil, aLen_sl, aLen_prm, aLen_str, aBuildL_some, aBuildS_some, aLoad_1b, aLoad_1d, aLoad_fb, aLoad_fd, aLoad_1p, aLoad_fp, aLoad_ep, aLoad_rr, aLoad_rd, aStore_1, aStore_f, aStore_r, aApp_some, aAppend_nil, aAppend_ref, aSlice_h, aSlice_l, aSlice_lh, bc_draw, kregD_at, aopsD_nil, aopsD_plain, aopsD_guard, kontD_at, contD_at, yesD_at, noD_at, splD_bool, splD_undef, splD_skip, splD_int, splD_tt, splD_ff, splD_str, splD_nil, splD_sl, splD_prm, splD_ref, splD_ptr, splD_rp, splD_ep, splD_pv, splD_agg, splD_tup, splD_clo, gD_tt, gD_tf, gD_ft, gD_ff, gD_ts, gD_fs, slotO_some, addTr_nil, addTr_cons, memQ_nil, memQ_cons, clash_nil, clash_cons, regC_none, regC_nil, regC_cons, regR_nil, regR_cons, mp_nil, mp_one0, mp_one1, mp_one2, mp_one3, kcall_one, liveB_row, liveB_box, idx, cont, still, dies, lend, lendA, lendDies, snocs, SC.snoc, SC.app, meet, AV.cells, fillA, List.getD_cons_zero, List.getD_cons_succ, List.set_cons_zero, List.set_cons_succ, List.length_singleton, Nat.le_refl, Nat.lt_irrefl, Nat.reduceLT, Nat.reduceLeDiff, Option.map_some, Option.map_none, List.flatMap_nil, List.flatMap_cons, Nat.zero_add, BEq.rfl, sl3, ty3, un3, sl37, ty37, un37, sl44, ty44, un44, sl42, ty42, un42, sl5, ty5, un5, sl2, ty2, un2, sl21, ty21, un21, sl4, ty4, un4, sl9, un9, sl22, ty22, un22, inR64, inRu64, inRu32, gs_impl_IsChain_26, at_impl_areWithin, lend_impl_areWithin, Int.toNat_natCast]
  have e1 : ((i : Int) - 1).toNat = i - 1 := by omega
  rw [e1]
  have no : i < xs.length → ¬ chStep xs i = true → chainB xs = false := fun a c => chainB_false fun h => c (h.2.2 i (by omega) a)
  have hz : i < xs.length → (bandn .i64 (xs.getD (i - 1) 0) (xs.getD i 0) = 0 ↔ band .i64 (xs.getD (i - 1) 0) (xs.getD i 0) = xs.getD (i - 1) 0) := fun hi => by
    have a := ha (i - 1) (by omega); have b := ha i hi
    rw [inB_t] at a b
    exact bandn_zero (by omega) (by omega)
  (repeat' (first | apply And.intro | intro _)) <;> try (first | omega | trivial)
  · rename_i a b; rw [no (by omega) (by rw [chStep_iff, ← hz (by omega)]; exact fun h => b h.1)]
  · rename_i a b c; rw [no (by omega) (by rw [chStep_iff]; exact fun h => h.2 c)]
  · rename_i a b c
    refine klp_of (i + 1) rfl ⟨by omega, by omega, fun k h0 hk => ?_⟩ (by omega)
    by_cases ek : k = i
    · rw [ek, chStep_iff, ← hz (by omega)]; exact ⟨b, c⟩
    · exact h3 k h0 (by omega)
  · rename_i a
    congr 1; symm
    exact chainB_iff.2 ⟨by omega, ha, fun k h0 hk => h3 k h0 (by omega)⟩
def lend_impl_IsChain : List Nat := []
def sp_impl_IsChain : List AV → List Bx → (AV → List Bx → Prop) → Prop
  | [.sl none (.ints .i64 xs)], [], K => K (.bool (chainB xs)) []
  | _, _, _ => False
theorem at_impl_IsChain {xs : List Int} {K : AV → List Bx → Prop} : sp_impl_IsChain [.sl none (.ints .i64 xs)] [] K = (K (.bool (chainB xs)) []) := id rfl
theorem ok_impl_IsChain : ∀ args giv K, sp_impl_IsChain args giv K → ∃ r outs, ARuns Try.prog 11 args giv r outs ∧ K r outs := by
  intro args giv K hk
  unfold sp_impl_IsChain at hk
  split at hk
  · exact ⟨_, _, runs_impl_IsChain _ , hk⟩
  · exact hk.elim
theorem is_laws_eqIntS : FnIs Try.prog 12 26 [.tmp 4] (Try.f12.body.getD .skip) := ⟨⟨Try.f12, by kernel_rfl, by kernel_rfl, by kernel_rfl, by kernel_rfl⟩, by kernel_rfl, by kernel_rfl⟩
def G_laws_eqIntS : Gm := Gm.none
theorem G_laws_eqIntS_ok : G_laws_eqIntS.ok Try.prog := Gm.none_ok
set_option maxHeartbeats 1000000 in
set_option maxRecDepth 100000 in
theorem runs_laws_eqIntS (xs ys : List Int) : ARuns Try.prog 12 [.sl none (.ints .i64 xs), .sl none (.ints .i64 ys)] [] (.bool (decide (xs = ys))) [] := by
  refine ARuns_bc G_laws_eqIntS_ok is_laws_eqIntS (by simp) fun hl hlB => ?_
  simp only [kcode_at, kreg_at, bc_skip, bc_seq, bc_cond, bc_block, bc_exit, bc_ret, bc_region, lkX_cons, acond_tmp, aCase_t, aCase_f, aCase_b, afin_nil, cvE_some, resL, resV, cv, cvL, pack, entryE, inPrm, Option.getD_some, acall_clo, add_sp, add_lend, kcall_nil, selOf, inArgs, inA, inL, okA, okL, okBx, okC, outA, outL, outU, outB, deep, deepL, boxIds, AV.bid, List.map_nil, List.map_cons, List.all_nil, List.all_cons, BEq.rfl, Bool.and_true, Bool.true_and, List.append_nil, aops_nil, aops_plain, aops_guard, kont_at, yes_at, no_at, aop_move, aop_assign, aop_pick, aop_alloc, aop_box, aop_build, aop_buildSlice, aop_load, aop_store, aop_nilCheck, aop_binOp, aop_unOp, aop_convert, aop_fieldAddr, aop_indexAddr, aop_slice, aop_extract, aop_makeSlice, aop_len, aop_max, aMax_int, slTy2, SC0, aop_append, aop_call, evalE, getE, putE, getB, setB, St.put, setsB, nth, AV.ofV, AV.blk, AV.bid, AV.one, SC.len, SC.get, List.length_nil, List.length_cons, Nat.reduceEqDiff, Nat.reduceAdd, ↓reduceIte, true_and, and_true, Bool.true_eq_false, Bool.false_eq_true, false_imp_iff, true_imp_iff, decide_eq_true_eq, Bool.not_eq_true', Bool.not_eq_false', decide_eq_false_iff_not, Option.isSome, List.nil_append, List.cons_append, aGuardO_some, aGuard_tt, aGuard_tf, aGuard_ft, aGuard_ff, aGuard_tb, aGuard_fb, aGuard_ts, aGuard_fs, aPick_b, aPick_t, aPick_f, aAlloc_one, aAlloc_flat, aBox_some, aBuild_flat, aInt_add, aBin_add, aInt_sub, aBin_sub, aInt_mul, aBin_mul, aInt_quo, aBin_quo, aInt_rem, aBin_rem, aInt_and, aBin_and, aInt_or, aBin_or, aInt_xor, aBin_xor, aInt_andNot, aBin_andNot, aInt_eql, aBin_eql, aInt_neq, aBin_neq, aInt_lss, aBin_lss, aInt_leq, aBin_leq, aInt_gtr, aBin_gtr, aInt_geq, aBin_geq, aBin_shl, aBin_shr, aShift_shl, aShift_shr, aBin_be1, aBin_bn1, aBin_be2, aBin_bn2, aBin_be3, aBin_bn3, aBin_be4, aBin_bn4, aBin_be5, aBin_bn5, aBin_be6, aBin_bn6, aBin_be7, aBin_bn7, aBin_be8, aBin_bn8, aBin_be9, aBin_bn9, aUn_b, aUn_t, aUn_f, aUn_i, aNil_ptr, aNil_pv, aConv_int, aField_ptr, aField_pv, aIdx_sl, aIdx_prm, aIdx_row, aIdx_drow, aMake_i, aMake_s, aExtr_tup, aLen_ref, aLen_nil, aLen_sl, aLen_prm, aLen_str, aBuildL_some, aBuildS_some, aLoad_1b, aLoad_1d, aLoad_fb, aLoad_fd, aLoad_1p, aLoad_fp, aLoad_ep, aLoad_rr, aLoad_rd, aStore_1, aStore_f, aStore_r, aApp_some, aAppend_nil, aAppend_ref, aSlice_h, aSlice_l, aSlice_lh, bc_draw, kregD_at, aopsD_nil, aopsD_plain, aopsD_guard, kontD_at, contD_at, yesD_at, noD_at, splD_bool, splD_undef, splD_skip, splD_int, splD_tt, splD_ff, splD_str, splD_nil, splD_sl, splD_prm, splD_ref, splD_ptr, splD_rp, splD_ep, splD_pv, splD_agg, splD_tup, splD_clo, gD_tt, gD_tf, gD_ft, gD_ff, gD_ts, gD_fs, slotO_some, addTr_nil, addTr_cons, memQ_nil, memQ_cons, clash_nil, clash_cons, regC_none, regC_nil, regC_cons, regR_nil, regR_cons, mp_nil, mp_one0, mp_one1, mp_one2, mp_one3, kcall_one, liveB_row, liveB_box, idx, cont, still, dies, lend, lendA, lendDies, snocs, SC.snoc, SC.app, meet, AV.cells, fillA, List.getD_cons_zero, List.getD_cons_succ, List.set_cons_zero, List.set_cons_succ, List.length_singleton, Nat.le_refl, Nat.lt_irrefl, Nat.reduceLT, Nat.reduceLeDiff, Option.map_some, Option.map_none, List.flatMap_nil, List.flatMap_cons, Nat.zero_add, BEq.rfl, sl3, ty3, un3, sl37, ty37, un37, sl44, ty44, un44, sl42, ty42, un42, sl5, ty5, un5, sl2, ty2, un2, sl21, ty21, un21, sl4, ty4, un4, sl9, un9, sl22, ty22, un22, inR64, inRu64, inRu32, Try.f12]
  simp only [lensA, lenA, lenSC] at hl
  refine ⟨fun h => ?_, fun h => ?_⟩
  · congr 1; symm; simp; intro e; rw [e] at h; exact h rfl
  replace h : xs.length = ys.length := by omega
  refine bc_loop (fun i : Nat => i ≤ xs.length ∧ ∀ k, k < i → xs.getD k 0 = ys.getD k 0)
    (fun i => ⟨[(0, .prm 0 (.ints .i64 xs)), (1, .prm 1 (.ints .i64 ys)), (5, .int .i64 i)], []⟩) (fun i => xs.length - i)
    [0, 1, 5] [] 0 rfl rfl (by simp) fun i ⟨h1, h2⟩ => ?_
  simp only [kcode_at, kreg_at, bc_skip, bc_seq, bc_cond, bc_block, bc_exit, bc_ret, bc_region, lkX_cons, acond_tmp, aCase_t, aCase_f, aCase_b, afin_nil, cvE_some, resL, resV, cv, cvL, pack, entryE, inPrm, Option.getD_some, acall_clo, add_sp, add_lend, kcall_nil, selOf, inArgs, inA, inL, okA, okL, okBx, okC, outA, outL, outU, outB, deep, deepL, boxIds, AV.bid, List.map_nil, List.map_cons, List.all_nil, List.all_cons, BEq.rfl, Bool.and_true, Bool.true_and, List.append_nil, aops_nil, aops_plain, aops_guard, kont_at, yes_at, no_at, aop_move, aop_assign, aop_pick, aop_alloc, aop_box, aop_build, aop_buildSlice, aop_load, aop_store, aop_nilCheck, aop_binOp, aop_unOp, aop_convert, aop_fieldAddr, aop_indexAddr, aop_slice, aop_extract, aop_makeSlice, aop_len, aop_max, aMax_int, slTy2, SC0, aop_append, aop_call, evalE, getE, putE, getB, setB, St.put, setsB, nth, AV.ofV, AV.blk, AV.bid, AV.one, SC.len, SC.get, List.length_nil, List.length_cons, Nat.reduceEqDiff, Nat.reduceAdd, ↓reduceIte, true_and, and_true, Bool.true_eq_false, Bool.false_eq_true, false_imp_iff, true_imp_iff, decide_eq_true_eq, Bool.not_eq_true', Bool.not_eq_false', decide_eq_false_iff_not, Option.isSome, List.nil_append, List.cons_append, aGuardO_some, aGuard_tt, aGuard_tf, aGuard_ft, aGuard_ff, aGuard_tb, aGuard_fb, aGuard_ts, aGuard_fs, aPick_b, aPick_t, aPick_f, aAlloc_one, aAlloc_flat, aBox_some, aBuild_flat, aInt_add, aBin_add, aInt_sub, aBin_sub, aInt_mul, aBin_mul, aInt_quo, aBin_quo, aInt_rem, aBin_rem, aInt_and, aBin_and, aInt_or, aBin_or, aInt_xor, aBin_xor, aInt_andNot, aBin_andNot, aInt_eql, aBin_eql, aInt_neq, aBin_neq, aInt_lss, aBin_lss, aInt_leq, aBin_leq, aInt_gtr, aBin_gtr, aInt_geq, aBin_geq, aBin_shl, aBin_shr, aShift_shl, aShift_shr, aBin_be1, aBin_bn1, aBin_be2, aBin_bn2, aBin_be3, aBin_bn3, aBin_be4, aBin_bn4, aBin_be5, aBin_bn5, aBin_be6, aBin_bn6, aBin_be7, aBin_bn7, aBin_be8, aBin_bn8, aBin_be9, aBin_bn9, aUn_b, aUn_t, aUn_f, aUn_i, aNil_ptr, aNil_pv, aConv_int, aField_ptr, aField_pv, aIdx_sl, aIdx_prm, aIdx_row, aIdx_drow, aMake_i, aMake_s, aExtr_tup, aLen_ref, aLen_nil, aLen_sl, aLen_prm, aLen_str, aBuildL_some, aBuildS_some, aLoad_1b, aLoad_1d, aLoad_fb, aLoad_fd, aLoad_1p, aLoad_fp, aLoad_ep, aLoad_rr, aLoad_rd, aStore_1, aStore_f, aStore_r, aApp_some, aAppend_nil, aAppend_ref, aSlice_h, aSlice_l, aSlice_lh, bc_draw, kregD_at, aopsD_nil, aopsD_plain, aopsD_guard, kontD_at, contD_at, yesD_at, noD_at, splD_bool, splD_undef, splD_skip, splD_int, splD_tt, splD_ff, splD_str, splD_nil, splD_sl, splD_prm, splD_ref, splD_ptr, splD_rp, splD_ep, splD_pv, splD_agg, splD_tup, splD_clo, gD_tt, gD_tf, gD_ft, gD_ff, gD_ts, gD_fs, slotO_some, addTr_nil, addTr_cons, memQ_nil, memQ_cons, clash_nil, clash_cons, regC_none, regC_nil, regC_cons, regR_nil, regR_cons, mp_nil, mp_one0, mp_one1, mp_one2, mp_one3, kcall_one, liveB_row, liveB_box, idx, cont, still, dies, lend, lendA, lendDies, snocs, SC.snoc, SC.app, meet, AV.cells, fillA, List.getD_cons_zero, List.getD_cons_succ, List.set_cons_zero, List.set_cons_succ, List.length_singleton, Nat.le_refl, Nat.lt_irrefl, Nat.reduceLT, Nat.reduceLeDiff, Option.map_some, Option.map_none, List.flatMap_nil, List.flatMap_cons, Nat.zero_add, BEq.rfl, sl3, ty3, un3, sl37, ty37, un37, sl44, ty44, un44, sl42, ty42, un42, sl5, ty5, un5, sl2, ty2, un2, sl21, ty21, un21, sl4, ty4, un4, sl9, un9, sl22, ty22, un22, inR64, inRu64, inRu32, Int.toNat_natCast]
  refine ⟨fun hi => ⟨by omega, by omega, fun hne => ?_, fun he => ⟨by omega, ?_⟩⟩, fun hi => ?_⟩
  · congr 1; symm; simp; intro e; rw [e] at hne; exact hne rfl
  · refine klp_of (i + 1) rfl ⟨by omega, fun k hk => ?_⟩ (by omega)
    by_cases e : k = i
    · rw [e]; exact he
    · exact h2 k (by omega)
  · congr 1; symm; simp
    exact eq_of_get h fun k hk => h2 k (by omega)
def lend_laws_eqIntS : List Nat := []
def sp_laws_eqIntS : List AV → List Bx → (AV → List Bx → Prop) → Prop
  | [.sl none (.ints .i64 xs), .sl none (.ints .i64 ys)], [], K => K (.bool (decide (xs = ys))) []
  | _, _, _ => False
theorem at_laws_eqIntS {xs ys : List Int} {K : AV → List Bx → Prop} : sp_laws_eqIntS [.sl none (.ints .i64 xs), .sl none (.ints .i64 ys)] [] K = (K (.bool (decide (xs = ys))) []) := id rfl
theorem ok_laws_eqIntS : ∀ args giv K, sp_laws_eqIntS args giv K → ∃ r outs, ARuns Try.prog 12 args giv r outs ∧ K r outs := by
  intro args giv K hk
  unfold sp_laws_eqIntS at hk
  split at hk
  · exact ⟨_, _, runs_laws_eqIntS _ _ , hk⟩
  · exact hk.elim
theorem is_laws_FnExactIsChain : FnIs Try.prog 3 24 [.tmp 2] (Try.f3.body.getD .skip) := ⟨⟨Try.f3, by kernel_rfl, by kernel_rfl, by kernel_rfl, by kernel_rfl⟩, by kernel_rfl, by kernel_rfl⟩
def G_laws_FnExactIsChain : Gm := ((((Gm.none.add 9 lend_spec_IsChain sp_spec_IsChain).add 10 lend_laws_toIntS sp_laws_toIntS).add 11 lend_impl_IsChain sp_impl_IsChain).add 12 lend_laws_eqIntS sp_laws_eqIntS)
theorem G_laws_FnExactIsChain_ok : G_laws_FnExactIsChain.ok Try.prog := (Gm.add_ok (Gm.add_ok (Gm.add_ok (Gm.add_ok Gm.none_ok ok_spec_IsChain) ok_laws_toIntS) ok_impl_IsChain) ok_laws_eqIntS)
theorem gs_laws_FnExactIsChain_9 : G_laws_FnExactIsChain.sp 9 = sp_spec_IsChain ∧ G_laws_FnExactIsChain.lend 9 = lend_spec_IsChain := ⟨rfl, rfl⟩
theorem gs_laws_FnExactIsChain_10 : G_laws_FnExactIsChain.sp 10 = sp_laws_toIntS ∧ G_laws_FnExactIsChain.lend 10 = lend_laws_toIntS := ⟨rfl, rfl⟩
theorem gs_laws_FnExactIsChain_11 : G_laws_FnExactIsChain.sp 11 = sp_impl_IsChain ∧ G_laws_FnExactIsChain.lend 11 = lend_impl_IsChain := ⟨rfl, rfl⟩
theorem gs_laws_FnExactIsChain_12 : G_laws_FnExactIsChain.sp 12 = sp_laws_eqIntS ∧ G_laws_FnExactIsChain.lend 12 = lend_laws_eqIntS := ⟨rfl, rfl⟩
set_option maxHeartbeats 1000000 in
set_option maxRecDepth 100000 in
theorem runs_laws_FnExactIsChain (xs : List Int) (hp1 : ∀ n ∈ xs, -9223372036854775808 ≤ n ∧ n ≤ 9223372036854775807) (hp2 : xs.length ≤ 9223372036854775807) : ARuns Try.prog 3 [.sl none (.ints .i64 xs)] [] (.bool true) [] := by
  refine ARuns_bc G_laws_FnExactIsChain_ok is_laws_FnExactIsChain (by simp) fun hl hlB => ?_
  simp only [kcode_at, kreg_at, bc_skip, bc_seq, bc_cond, bc_block, bc_exit, bc_ret, bc_region, lkX_cons, acond_tmp, aCase_t, aCase_f, aCase_b, afin_nil, cvE_some, resL, resV, cv, cvL, pack, entryE, inPrm, Option.getD_some, acall_clo, add_sp, add_lend, kcall_nil, selOf, inArgs, inA, inL, okA, okL, okBx, okC, outA, outL, outU, outB, deep, deepL, boxIds, AV.bid, List.map_nil, List.map_cons, List.all_nil, List.all_cons, BEq.rfl, Bool.and_true, Bool.true_and, List.append_nil, aops_nil, aops_plain, aops_guard, kont_at, yes_at, no_at, aop_move, aop_assign, aop_pick, aop_alloc, aop_box, aop_build, aop_buildSlice, aop_load, aop_store, aop_nilCheck, aop_binOp, aop_unOp, aop_convert, aop_fieldAddr, aop_indexAddr, aop_slice, aop_extract, aop_makeSlice, aop_len, aop_max, aMax_int, slTy2, SC0, aop_append, aop_call, evalE, getE, putE, getB, setB, St.put, setsB, nth, AV.ofV, AV.blk, AV.bid, AV.one, SC.len, SC.get, List.length_nil, List.length_cons, Nat.reduceEqDiff, Nat.reduceAdd, ↓reduceIte, true_and, and_true, Bool.true_eq_false, Bool.false_eq_true, false_imp_iff, true_imp_iff, decide_eq_true_eq, Bool.not_eq_true', Bool.not_eq_false', decide_eq_false_iff_not, Option.isSome, List.nil_append, List.cons_append, aGuardO_some, aGuard_tt, aGuard_tf, aGuard_ft, aGuard_ff, aGuard_tb, aGuard_fb, aGuard_ts, aGuard_fs, aPick_b, aPick_t, aPick_f, aAlloc_one, aAlloc_flat, aBox_some, aBuild_flat, aInt_add, aBin_add, aInt_sub, aBin_sub, aInt_mul, aBin_mul, aInt_quo, aBin_quo, aInt_rem, aBin_rem, aInt_and, aBin_and, aInt_or, aBin_or, aInt_xor, aBin_xor, aInt_andNot, aBin_andNot, aInt_eql, aBin_eql, aInt_neq, aBin_neq, aInt_lss, aBin_lss, aInt_leq, aBin_leq, aInt_gtr, aBin_gtr, aInt_geq, aBin_geq, aBin_shl, aBin_shr, aShift_shl, aShift_shr, aBin_be1, aBin_bn1, aBin_be2, aBin_bn2, aBin_be3, aBin_bn3, aBin_be4, aBin_bn4, aBin_be5, aBin_bn5, aBin_be6, aBin_bn6, aBin_be7, aBin_bn7, aBin_be8, aBin_bn8, aBin_be9, aBin_bn9, aUn_b, aUn_t, aUn_f, aUn_i, aNil_ptr, aNil_pv, aConv_int, aField_ptr, aField_pv, aIdx_sl, aIdx_prm, aIdx_row, aIdx_drow, aMake_i, aMake_s, aExtr_tup, aLen_ref, aLen_nil, aLen_sl, aLen_prm, aLen_str, aBuildL_some, aBuildS_some, aLoad_1b, aLoad_1d, aLoad_fb, aLoad_fd, aLoad_1p, aLoad_fp, aLoad_ep, aLoad_rr, aLoad_rd, aStore_1, aStore_f, aStore_r, aApp_some, aAppend_nil, aAppend_ref, aSlice_h, aSlice_l, aSlice_lh, bc_draw, kregD_at, aopsD_nil, aopsD_plain, aopsD_guard, kontD_at, contD_at, yesD_at, noD_at, splD_bool, splD_undef, splD_skip, splD_int, splD_tt, splD_ff, splD_str, splD_nil, splD_sl, splD_prm, splD_ref, splD_ptr, splD_rp, splD_ep, splD_pv, splD_agg, splD_tup, splD_clo, gD_tt, gD_tf, gD_ft, gD_ff, gD_ts, gD_fs, slotO_some, addTr_nil, addTr_cons, memQ_nil, memQ_cons, clash_nil, clash_cons, regC_none, regC_nil, regC_cons, regR_nil, regR_cons, mp_nil, mp_one0, mp_one1, mp_one2, mp_one3, kcall_one, liveB_row, liveB_box, idx, cont, still, dies, lend, lendA, lendDies, snocs, SC.snoc, SC.app, meet, AV.cells, fillA, List.getD_cons_zero, List.getD_cons_succ, List.set_cons_zero, List.set_cons_succ, List.length_singleton, Nat.le_refl, Nat.lt_irrefl, Nat.reduceLT, Nat.reduceLeDiff, Option.map_some, Option.map_none, List.flatMap_nil, List.flatMap_cons, Nat.zero_add, BEq.rfl, sl3, ty3, un3, sl37, ty37, un37, sl44, ty44, un44, sl42, ty42, un42, sl5, ty5, un5, sl2, ty2, un2, sl21, ty21, un21, sl4, ty4, un4, sl9, un9, sl22, ty22, un22, inR64, inRu64, inRu32, gs_laws_FnExactIsChain_9, at_spec_IsChain, lend_spec_IsChain, gs_laws_FnExactIsChain_10, at_laws_toIntS, lend_laws_toIntS, gs_laws_FnExactIsChain_11, at_impl_IsChain, lend_impl_IsChain, gs_laws_FnExactIsChain_12, at_laws_eqIntS, lend_laws_eqIntS, Try.f3]
  refine ⟨fun _ => trivial, fun h => ⟨by omega, by omega, fun h => by simp at h, fun _ => ⟨by omega, fun h => absurd trivial h⟩⟩⟩
def lend_laws_FnExactIsChain : List Nat := []
def sp_laws_FnExactIsChain : List AV → List Bx → (AV → List Bx → Prop) → Prop
  | [.sl none (.ints .i64 xs)], [], K => (∀ n ∈ xs, -9223372036854775808 ≤ n ∧ n ≤ 9223372036854775807) ∧ (xs.length ≤ 9223372036854775807) ∧ K (.bool true) []
  | _, _, _ => False
theorem at_laws_FnExactIsChain {xs : List Int} {K : AV → List Bx → Prop} : sp_laws_FnExactIsChain [.sl none (.ints .i64 xs)] [] K = ((∀ n ∈ xs, -9223372036854775808 ≤ n ∧ n ≤ 9223372036854775807) ∧ (xs.length ≤ 9223372036854775807) ∧ K (.bool true) []) := id rfl
theorem ok_laws_FnExactIsChain : ∀ args giv K, sp_laws_FnExactIsChain args giv K → ∃ r outs, ARuns Try.prog 3 args giv r outs ∧ K r outs := by
  intro args giv K hk
  unfold sp_laws_FnExactIsChain at hk
  split at hk
  · obtain ⟨hp1, hp2, hk⟩ := hk; exact ⟨_, _, runs_laws_FnExactIsChain _ hp1 hp2, hk⟩
  · exact hk.elim
end Go.Proofs.Ytdnhlfbcgpicoaa
