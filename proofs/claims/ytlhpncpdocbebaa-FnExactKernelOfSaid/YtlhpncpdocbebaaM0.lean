import Derived.Test.YtlhpncpdocbebaaA28
namespace Go.Proofs.Ytlhpncpdocbebaa
open AM
set_option linter.unusedSimpArgs false
set_option linter.unusedVariables false
theorem sl3 : slTy Try.prog 3 = none := by kernel_rfl
theorem ty3 : tyOf Try.prog 3 = .one (.int .i64 0) := by kernel_rfl
theorem un3 : Try.prog.underlying 3 = some (.int .i64) := by kernel_rfl
theorem sl52 : slTy Try.prog 52 = none := by kernel_rfl
theorem ty52 : tyOf Try.prog 52 = .one (.int .u64 0) := by kernel_rfl
theorem un52 : Try.prog.underlying 52 = some (.int .u64) := by kernel_rfl
theorem sl59 : slTy Try.prog 59 = none := by kernel_rfl
theorem ty59 : tyOf Try.prog 59 = .one (.int .u64 0) := by kernel_rfl
theorem un59 : Try.prog.underlying 59 = some (.int .u64) := by kernel_rfl
theorem sl57 : slTy Try.prog 57 = none := by kernel_rfl
theorem ty57 : tyOf Try.prog 57 = .one (.int .u32 0) := by kernel_rfl
theorem un57 : Try.prog.underlying 57 = some (.int .u32) := by kernel_rfl
theorem sl5 : slTy Try.prog 5 = none := by kernel_rfl
theorem ty5 : tyOf Try.prog 5 = .one (.int .u8 0) := by kernel_rfl
theorem un5 : Try.prog.underlying 5 = some (.int .u8) := by kernel_rfl
theorem sl2 : slTy Try.prog 2 = none := by kernel_rfl
theorem ty2 : tyOf Try.prog 2 = .one (.int .i64 0) := by kernel_rfl
theorem un2 : Try.prog.underlying 2 = some (.int .i64) := by kernel_rfl
theorem sl21 : slTy Try.prog 21 = none := by kernel_rfl
theorem ty21 : tyOf Try.prog 21 = .one (.int .i32 0) := by kernel_rfl
theorem un21 : Try.prog.underlying 21 = some (.int .i32) := by kernel_rfl
theorem sl4 : slTy Try.prog 4 = none := by kernel_rfl
theorem ty4 : tyOf Try.prog 4 = .one .ff := by kernel_rfl
theorem un4 : Try.prog.underlying 4 = some .bool := by kernel_rfl
theorem sl9 : slTy Try.prog 9 = none := by kernel_rfl
theorem un9 : Try.prog.underlying 9 = some .string := by kernel_rfl
theorem sl22 : slTy Try.prog 22 = some (3, .ints .i64 []) := by kernel_rfl
theorem ty22 : tyOf Try.prog 22 = .one .nil := by kernel_rfl
theorem un22 : Try.prog.underlying 22 = some (.slice 3) := by kernel_rfl
theorem ty30 : tyOf Try.prog 30 = .flat [.int .i64 0, .nil] := by kernel_rfl
theorem sl30 : slTy Try.prog 30 = none := by kernel_rfl
theorem ty33 : tyOf Try.prog 33 = .flat [.int .i64 0, .nil] := by kernel_rfl
theorem sl33 : slTy Try.prog 33 = none := by kernel_rfl
theorem inR64 {n : Int} : InR .i64 n = (-9223372036854775808 ≤ n ∧ n ≤ 9223372036854775807) := rfl
theorem inRu64 {n : Int} : InR .u64 n = (0 ≤ n ∧ n ≤ 18446744073709551615) := rfl
theorem inRu32 {n : Int} : InR .u32 n = (0 ≤ n ∧ n ≤ 4294967295) := rfl
theorem getD_get {xs : List Int} {i : Nat} (h : i < xs.length) : xs.getD i 0 = xs[i] := by rw [List.getD_eq_getElem?_getD, List.getElem?_eq_getElem h]; rfl
theorem take_succ_getD {xs : List Int} {i : Nat} (h : i < xs.length) : xs.take (i + 1) = xs.take i ++ [xs.getD i 0] := by
  rw [List.take_add_one, List.getElem?_eq_getElem h, getD_get h]; rfl
theorem copy_step {xs : List Int} {i : Nat} (h : i < xs.length) : (xs.take i ++ List.replicate (xs.length - i) 0).set i (xs.getD i 0) = xs.take (i + 1) ++ List.replicate (xs.length - (i + 1)) 0 := by
  have e : (xs.take i).length = i := by rw [List.length_take]; omega
  obtain ⟨m, hm⟩ : ∃ m, xs.length - i = m + 1 := ⟨xs.length - i - 1, by omega⟩
  rw [List.set_append_right _ _ (by omega), e, Nat.sub_self, hm, List.replicate_succ, List.set_cons_zero, take_succ_getD h, show xs.length - (i + 1) = m by omega, List.append_assoc]; rfl
/-- Two lists, element by element. -/
theorem eq_of_get {xs ys : List Int} (hl : xs.length = ys.length) (h : ∀ i, i < xs.length → xs.getD i 0 = ys.getD i 0) : xs = ys := by
  apply List.ext_getElem hl
  intro i h1 h2
  have := h i h1
  rwa [getD_get h1, getD_get h2] at this

theorem is_laws_toIntS : FnIs Try.prog 16 22 [.tmp 2] (Try.f16.body.getD .skip) := ⟨⟨Try.f16, by kernel_rfl, by kernel_rfl, by kernel_rfl, by kernel_rfl⟩, by kernel_rfl, by kernel_rfl⟩
def G_laws_toIntS : Gm := Gm.none
theorem G_laws_toIntS_ok : G_laws_toIntS.ok Try.prog := Gm.none_ok
set_option maxHeartbeats 1000000 in
set_option maxRecDepth 100000 in
theorem runs_laws_toIntS (xs : List Int) (hp1 : xs.length ≤ 1099511627776) : ARuns Try.prog 16 [.sl none (.ints .i64 xs)] [] (.ref 0 xs.length) [.row 3 (.ints .i64 xs)] := by
  refine ARuns_bc G_laws_toIntS_ok is_laws_toIntS (by simp) fun hl hlB => ?_
  simp only [kcode_at, kreg_at, bc_skip, bc_seq, bc_cond, bc_block, bc_exit, bc_ret, bc_region, lkX_cons, acond_tmp, aCase_t, aCase_f, aCase_b, afin_nil, cvE_some, resL, resV, resC, cv, cvL, pack, entryE, inPrm, Option.getD_some, acall_clo, add_sp, add_lend, kcall_nil, selOf, selA, inArgs, inA, inL, okA, okL, okBx, okC, outA, outL, outU, outB, deep, deepL, boxIds, AV.bid, List.map_nil, List.map_cons, List.all_nil, List.all_cons, BEq.rfl, Bool.and_true, Bool.true_and, List.append_nil, aops_nil, aops_plain, aops_guard, kont_at, yes_at, no_at, aop_move, aop_assign, aop_pick, aop_alloc, aop_box, aop_build, aop_buildSlice, aop_load, aop_store, aop_nilCheck, aop_binOp, aop_unOp, aop_convert, aop_fieldAddr, aop_indexAddr, aop_slice, aop_extract, aop_makeSlice, aop_len, aop_max, aMax_int, slTy2, SC0, aop_append, aop_call, evalE, getE, putE, getB, setB, St.put, setsB, nth, AV.ofV, AV.blk, AV.bid, AV.one, SC.len, SC.get, List.length_nil, List.length_cons, Nat.reduceEqDiff, Nat.reduceAdd, ↓reduceIte, true_and, and_true, Bool.true_eq_false, Bool.false_eq_true, false_imp_iff, true_imp_iff, decide_eq_true_eq, Bool.not_eq_true', Bool.not_eq_false', decide_eq_false_iff_not, Option.isSome, List.nil_append, List.cons_append, aGuardO_some, aGuard_tt, aGuard_tf, aGuard_ft, aGuard_ff, aGuard_tb, aGuard_fb, aGuard_ts, aGuard_fs, aPick_b, aPick_t, aPick_f, aAlloc_one, aAlloc_flat, aBox_some, aBuild_flat, aInt_add, aBin_add, aInt_sub, aBin_sub, aInt_mul, aBin_mul, aInt_quo, aBin_quo, aInt_rem, aBin_rem, aInt_and, aBin_and, aInt_or, aBin_or, aInt_xor, aBin_xor, aInt_andNot, aBin_andNot, aInt_eql, aBin_eql, aInt_neq, aBin_neq, aInt_lss, aBin_lss, aInt_leq, aBin_leq, aInt_gtr, aBin_gtr, aInt_geq, aBin_geq, aBin_shl, aBin_shr, aShift_shl, aShift_shr, aBin_be1, aBin_bn1, aBin_be2, aBin_bn2, aBin_be3, aBin_bn3, aBin_be4, aBin_bn4, aBin_be5, aBin_bn5, aBin_be6, aBin_bn6, aBin_be7, aBin_bn7, aBin_be8, aBin_bn8, aBin_be9, aBin_bn9, aUn_b, aUn_t, aUn_f, aUn_i, aNil_ptr, aNil_pv, aConv_int, aField_ptr, aField_pv, aIdx_sl, aIdx_prm, aIdx_row, aIdx_drow, aMake_i, aMake_s, aExtr_tup, aLen_ref, aLen_nil, aLen_sl, aLen_prm, aLen_str, aBuildL_some, aBuildS_some, aLoad_1b, aLoad_1d, aLoad_fb, aLoad_fd, aLoad_1p, aLoad_fp, aLoad_ep, aLoad_rr, aLoad_rd, aStore_1, aStore_f, aStore_r, aApp_some, aAppend_nil, aAppend_ref, aSlice_h, aSlice_l, aSlice_lh, bc_draw, kregD_at, aopsD_nil, aopsD_plain, aopsD_guard, kontD_at, contD_at, yesD_at, noD_at, splD_bool, splD_undef, splD_skip, splD_int, splD_tt, splD_ff, splD_str, splD_nil, splD_sl, splD_prm, splD_ref, splD_ptr, splD_rp, splD_ep, splD_pv, splD_agg, splD_tup, splD_clo, gD_tt, gD_tf, gD_ft, gD_ff, gD_ts, gD_fs, slotO_some, addTr_nil, addTr_cons, memQ_nil, memQ_cons, clash_nil, clash_cons, regC_none, regC_nil, regC_cons, regR_nil, regR_cons, Int.toNat_zero, Int.toNat_one, rng0, rng1, rng2, rng3, rng4, SC.take, SC.drop, mp_nil, acond_ct, acond_cf, mp_one0, mp_one1, mp_one2, mp_one3, kcall_one, liveB_row, liveB_box, idx, cont, still, dies, lend, lendA, lendDies, snocs, SC.snoc, SC.app, meet, AV.cells, fillA, List.getD_cons_zero, List.getD_cons_succ, List.set_cons_zero, List.set_cons_succ, List.length_singleton, Nat.le_refl, Nat.lt_irrefl, Nat.reduceLT, Nat.reduceLeDiff, Option.map_some, Option.map_none, List.flatMap_nil, List.flatMap_cons, Nat.zero_add, BEq.rfl, sl3, ty3, un3, sl52, ty52, un52, sl59, ty59, un59, sl57, ty57, un57, sl5, ty5, un5, sl2, ty2, un2, sl21, ty21, un21, sl4, ty4, un4, sl9, un9, sl22, ty22, un22, ty30, sl30, ty33, sl33, inR64, inRu64, inRu32, Try.f16]
  refine ⟨⟨by omega, by omega, by omega⟩, ?_⟩
  refine bc_loop (fun i : Nat => i ≤ xs.length)
    (fun i => ⟨[(0, .prm 0 (.ints .i64 xs)), (3, .ref 0 xs.length), (4, .int .i64 i)], [.row 3 (.ints .i64 (xs.take i ++ List.replicate (xs.length - i) 0))]⟩) (fun i => xs.length - i)
    [0, 3, 4] [0] 0 rfl (by simp [St.conv, St.bf, getE, putE, getB, cv, cvL, cvB, idx, still, pack, lifts]) (by simp) fun i h1 => ?_
  simp only [kcode_at, kreg_at, bc_skip, bc_seq, bc_cond, bc_block, bc_exit, bc_ret, bc_region, lkX_cons, acond_tmp, aCase_t, aCase_f, aCase_b, afin_nil, cvE_some, resL, resV, resC, cv, cvL, pack, entryE, inPrm, Option.getD_some, acall_clo, add_sp, add_lend, kcall_nil, selOf, selA, inArgs, inA, inL, okA, okL, okBx, okC, outA, outL, outU, outB, deep, deepL, boxIds, AV.bid, List.map_nil, List.map_cons, List.all_nil, List.all_cons, BEq.rfl, Bool.and_true, Bool.true_and, List.append_nil, aops_nil, aops_plain, aops_guard, kont_at, yes_at, no_at, aop_move, aop_assign, aop_pick, aop_alloc, aop_box, aop_build, aop_buildSlice, aop_load, aop_store, aop_nilCheck, aop_binOp, aop_unOp, aop_convert, aop_fieldAddr, aop_indexAddr, aop_slice, aop_extract, aop_makeSlice, aop_len, aop_max, aMax_int, slTy2, SC0, aop_append, aop_call, evalE, getE, putE, getB, setB, St.put, setsB, nth, AV.ofV, AV.blk, AV.bid, AV.one, SC.len, SC.get, List.length_nil, List.length_cons, Nat.reduceEqDiff, Nat.reduceAdd, ↓reduceIte, true_and, and_true, Bool.true_eq_false, Bool.false_eq_true, false_imp_iff, true_imp_iff, decide_eq_true_eq, Bool.not_eq_true', Bool.not_eq_false', decide_eq_false_iff_not, Option.isSome, List.nil_append, List.cons_append, aGuardO_some, aGuard_tt, aGuard_tf, aGuard_ft, aGuard_ff, aGuard_tb, aGuard_fb, aGuard_ts, aGuard_fs, aPick_b, aPick_t, aPick_f, aAlloc_one, aAlloc_flat, aBox_some, aBuild_flat, aInt_add, aBin_add, aInt_sub, aBin_sub, aInt_mul, aBin_mul, aInt_quo, aBin_quo, aInt_rem, aBin_rem, aInt_and, aBin_and, aInt_or, aBin_or, aInt_xor, aBin_xor, aInt_andNot, aBin_andNot, aInt_eql, aBin_eql, aInt_neq, aBin_neq, aInt_lss, aBin_lss, aInt_leq, aBin_leq, aInt_gtr, aBin_gtr, aInt_geq, aBin_geq, aBin_shl, aBin_shr, aShift_shl, aShift_shr, aBin_be1, aBin_bn1, aBin_be2, aBin_bn2, aBin_be3, aBin_bn3, aBin_be4, aBin_bn4, aBin_be5, aBin_bn5, aBin_be6, aBin_bn6, aBin_be7, aBin_bn7, aBin_be8, aBin_bn8, aBin_be9, aBin_bn9, aUn_b, aUn_t, aUn_f, aUn_i, aNil_ptr, aNil_pv, aConv_int, aField_ptr, aField_pv, aIdx_sl, aIdx_prm, aIdx_row, aIdx_drow, aMake_i, aMake_s, aExtr_tup, aLen_ref, aLen_nil, aLen_sl, aLen_prm, aLen_str, aBuildL_some, aBuildS_some, aLoad_1b, aLoad_1d, aLoad_fb, aLoad_fd, aLoad_1p, aLoad_fp, aLoad_ep, aLoad_rr, aLoad_rd, aStore_1, aStore_f, aStore_r, aApp_some, aAppend_nil, aAppend_ref, aSlice_h, aSlice_l, aSlice_lh, bc_draw, kregD_at, aopsD_nil, aopsD_plain, aopsD_guard, kontD_at, contD_at, yesD_at, noD_at, splD_bool, splD_undef, splD_skip, splD_int, splD_tt, splD_ff, splD_str, splD_nil, splD_sl, splD_prm, splD_ref, splD_ptr, splD_rp, splD_ep, splD_pv, splD_agg, splD_tup, splD_clo, gD_tt, gD_tf, gD_ft, gD_ff, gD_ts, gD_fs, slotO_some, addTr_nil, addTr_cons, memQ_nil, memQ_cons, clash_nil, clash_cons, regC_none, regC_nil, regC_cons, regR_nil, regR_cons, Int.toNat_zero, Int.toNat_one, rng0, rng1, rng2, rng3, rng4, SC.take, SC.drop, mp_nil, acond_ct, acond_cf, mp_one0, mp_one1, mp_one2, mp_one3, kcall_one, liveB_row, liveB_box, idx, cont, still, dies, lend, lendA, lendDies, snocs, SC.snoc, SC.app, meet, AV.cells, fillA, List.getD_cons_zero, List.getD_cons_succ, List.set_cons_zero, List.set_cons_succ, List.length_singleton, Nat.le_refl, Nat.lt_irrefl, Nat.reduceLT, Nat.reduceLeDiff, Option.map_some, Option.map_none, List.flatMap_nil, List.flatMap_cons, Nat.zero_add, BEq.rfl, sl3, ty3, un3, sl52, ty52, un52, sl59, ty59, un59, sl57, ty57, un57, sl5, ty5, un5, sl2, ty2, un2, sl21, ty21, un21, sl4, ty4, un4, sl9, un9, sl22, ty22, un22, ty30, sl30, ty33, sl33, inR64, inRu64, inRu32]
  simp only [lensA, lenA, lenSC] at hl
  have e : (xs.take i ++ List.replicate (xs.length - i) (0 : Int)).length = xs.length := by simp; omega
  refine ⟨fun h => ⟨by omega, ⟨e, by omega, by omega⟩, ⟨e, by omega⟩, by omega, ?_⟩, fun h => ?_⟩
  · refine klp_of (i + 1) ?_ (by omega) (by omega)
    have := copy_step (xs := xs) (i := i) (by omega)
    simp [St.conv, St.bf, getE, putE, getB, cv, cvL, cvB, idx, still, pack, lifts]
    simpa using this
  · have : i = xs.length := by omega
    subst this
    refine afin_of [0] rfl rfl (by simp [St.conv, St.bf, getE, putE, getB, cv, cvL, cvB, idx, still, pack, lifts]) (by simp [St.conv, St.bf, getE, putE, getB, cv, cvL, cvB, idx, still, pack, lifts])
def lend_laws_toIntS : List Nat := []
def sp_laws_toIntS : List AV → List Bx → (AV → List Bx → Prop) → Prop
  | [.sl none (.ints .i64 xs)], [], K => (xs.length ≤ 1099511627776) ∧ K (.ref 0 xs.length) [.row 3 (.ints .i64 xs)]
  | _, _, _ => False
theorem at_laws_toIntS {xs : List Int} {K : AV → List Bx → Prop} : sp_laws_toIntS [.sl none (.ints .i64 xs)] [] K = ((xs.length ≤ 1099511627776) ∧ K (.ref 0 xs.length) [.row 3 (.ints .i64 xs)]) := id rfl
theorem ok_laws_toIntS : ∀ args giv K, sp_laws_toIntS args giv K → ∃ r outs, ARuns Try.prog 16 args giv r outs ∧ K r outs := by
  intro args giv K hk
  unfold sp_laws_toIntS at hk
  split at hk
  · obtain ⟨hp1, hk⟩ := hk; exact ⟨_, _, runs_laws_toIntS _ hp1, hk⟩
  · exact hk.elim
theorem is_laws_eqIntS : FnIs Try.prog 18 26 [.tmp 4] (Try.f18.body.getD .skip) := ⟨⟨Try.f18, by kernel_rfl, by kernel_rfl, by kernel_rfl, by kernel_rfl⟩, by kernel_rfl, by kernel_rfl⟩
def G_laws_eqIntS : Gm := Gm.none
theorem G_laws_eqIntS_ok : G_laws_eqIntS.ok Try.prog := Gm.none_ok
set_option maxHeartbeats 1000000 in
set_option maxRecDepth 100000 in
theorem runs_laws_eqIntS (xs ys : List Int) : ARuns Try.prog 18 [.sl none (.ints .i64 xs), .sl none (.ints .i64 ys)] [] (.bool (decide (xs = ys))) [] := by
  refine ARuns_bc G_laws_eqIntS_ok is_laws_eqIntS (by simp) fun hl hlB => ?_
  simp only [kcode_at, kreg_at, bc_skip, bc_seq, bc_cond, bc_block, bc_exit, bc_ret, bc_region, lkX_cons, acond_tmp, aCase_t, aCase_f, aCase_b, afin_nil, cvE_some, resL, resV, resC, cv, cvL, pack, entryE, inPrm, Option.getD_some, acall_clo, add_sp, add_lend, kcall_nil, selOf, selA, inArgs, inA, inL, okA, okL, okBx, okC, outA, outL, outU, outB, deep, deepL, boxIds, AV.bid, List.map_nil, List.map_cons, List.all_nil, List.all_cons, BEq.rfl, Bool.and_true, Bool.true_and, List.append_nil, aops_nil, aops_plain, aops_guard, kont_at, yes_at, no_at, aop_move, aop_assign, aop_pick, aop_alloc, aop_box, aop_build, aop_buildSlice, aop_load, aop_store, aop_nilCheck, aop_binOp, aop_unOp, aop_convert, aop_fieldAddr, aop_indexAddr, aop_slice, aop_extract, aop_makeSlice, aop_len, aop_max, aMax_int, slTy2, SC0, aop_append, aop_call, evalE, getE, putE, getB, setB, St.put, setsB, nth, AV.ofV, AV.blk, AV.bid, AV.one, SC.len, SC.get, List.length_nil, List.length_cons, Nat.reduceEqDiff, Nat.reduceAdd, ↓reduceIte, true_and, and_true, Bool.true_eq_false, Bool.false_eq_true, false_imp_iff, true_imp_iff, decide_eq_true_eq, Bool.not_eq_true', Bool.not_eq_false', decide_eq_false_iff_not, Option.isSome, List.nil_append, List.cons_append, aGuardO_some, aGuard_tt, aGuard_tf, aGuard_ft, aGuard_ff, aGuard_tb, aGuard_fb, aGuard_ts, aGuard_fs, aPick_b, aPick_t, aPick_f, aAlloc_one, aAlloc_flat, aBox_some, aBuild_flat, aInt_add, aBin_add, aInt_sub, aBin_sub, aInt_mul, aBin_mul, aInt_quo, aBin_quo, aInt_rem, aBin_rem, aInt_and, aBin_and, aInt_or, aBin_or, aInt_xor, aBin_xor, aInt_andNot, aBin_andNot, aInt_eql, aBin_eql, aInt_neq, aBin_neq, aInt_lss, aBin_lss, aInt_leq, aBin_leq, aInt_gtr, aBin_gtr, aInt_geq, aBin_geq, aBin_shl, aBin_shr, aShift_shl, aShift_shr, aBin_be1, aBin_bn1, aBin_be2, aBin_bn2, aBin_be3, aBin_bn3, aBin_be4, aBin_bn4, aBin_be5, aBin_bn5, aBin_be6, aBin_bn6, aBin_be7, aBin_bn7, aBin_be8, aBin_bn8, aBin_be9, aBin_bn9, aUn_b, aUn_t, aUn_f, aUn_i, aNil_ptr, aNil_pv, aConv_int, aField_ptr, aField_pv, aIdx_sl, aIdx_prm, aIdx_row, aIdx_drow, aMake_i, aMake_s, aExtr_tup, aLen_ref, aLen_nil, aLen_sl, aLen_prm, aLen_str, aBuildL_some, aBuildS_some, aLoad_1b, aLoad_1d, aLoad_fb, aLoad_fd, aLoad_1p, aLoad_fp, aLoad_ep, aLoad_rr, aLoad_rd, aStore_1, aStore_f, aStore_r, aApp_some, aAppend_nil, aAppend_ref, aSlice_h, aSlice_l, aSlice_lh, bc_draw, kregD_at, aopsD_nil, aopsD_plain, aopsD_guard, kontD_at, contD_at, yesD_at, noD_at, splD_bool, splD_undef, splD_skip, splD_int, splD_tt, splD_ff, splD_str, splD_nil, splD_sl, splD_prm, splD_ref, splD_ptr, splD_rp, splD_ep, splD_pv, splD_agg, splD_tup, splD_clo, gD_tt, gD_tf, gD_ft, gD_ff, gD_ts, gD_fs, slotO_some, addTr_nil, addTr_cons, memQ_nil, memQ_cons, clash_nil, clash_cons, regC_none, regC_nil, regC_cons, regR_nil, regR_cons, Int.toNat_zero, Int.toNat_one, rng0, rng1, rng2, rng3, rng4, SC.take, SC.drop, mp_nil, acond_ct, acond_cf, mp_one0, mp_one1, mp_one2, mp_one3, kcall_one, liveB_row, liveB_box, idx, cont, still, dies, lend, lendA, lendDies, snocs, SC.snoc, SC.app, meet, AV.cells, fillA, List.getD_cons_zero, List.getD_cons_succ, List.set_cons_zero, List.set_cons_succ, List.length_singleton, Nat.le_refl, Nat.lt_irrefl, Nat.reduceLT, Nat.reduceLeDiff, Option.map_some, Option.map_none, List.flatMap_nil, List.flatMap_cons, Nat.zero_add, BEq.rfl, sl3, ty3, un3, sl52, ty52, un52, sl59, ty59, un59, sl57, ty57, un57, sl5, ty5, un5, sl2, ty2, un2, sl21, ty21, un21, sl4, ty4, un4, sl9, un9, sl22, ty22, un22, ty30, sl30, ty33, sl33, inR64, inRu64, inRu32, Try.f18]
  simp only [lensA, lenA, lenSC] at hl
  refine ⟨fun h => ?_, fun h => ?_⟩
  · congr 1; symm; simp; intro e; rw [e] at h; exact h rfl
  replace h : xs.length = ys.length := by omega
  refine bc_loop (fun i : Nat => i ≤ xs.length ∧ ∀ k, k < i → xs.getD k 0 = ys.getD k 0)
    (fun i => ⟨[(0, .prm 0 (.ints .i64 xs)), (1, .prm 1 (.ints .i64 ys)), (5, .int .i64 i)], []⟩) (fun i => xs.length - i)
    [0, 1, 5] [] 0 rfl rfl (by simp) fun i ⟨h1, h2⟩ => ?_
  simp only [kcode_at, kreg_at, bc_skip, bc_seq, bc_cond, bc_block, bc_exit, bc_ret, bc_region, lkX_cons, acond_tmp, aCase_t, aCase_f, aCase_b, afin_nil, cvE_some, resL, resV, resC, cv, cvL, pack, entryE, inPrm, Option.getD_some, acall_clo, add_sp, add_lend, kcall_nil, selOf, selA, inArgs, inA, inL, okA, okL, okBx, okC, outA, outL, outU, outB, deep, deepL, boxIds, AV.bid, List.map_nil, List.map_cons, List.all_nil, List.all_cons, BEq.rfl, Bool.and_true, Bool.true_and, List.append_nil, aops_nil, aops_plain, aops_guard, kont_at, yes_at, no_at, aop_move, aop_assign, aop_pick, aop_alloc, aop_box, aop_build, aop_buildSlice, aop_load, aop_store, aop_nilCheck, aop_binOp, aop_unOp, aop_convert, aop_fieldAddr, aop_indexAddr, aop_slice, aop_extract, aop_makeSlice, aop_len, aop_max, aMax_int, slTy2, SC0, aop_append, aop_call, evalE, getE, putE, getB, setB, St.put, setsB, nth, AV.ofV, AV.blk, AV.bid, AV.one, SC.len, SC.get, List.length_nil, List.length_cons, Nat.reduceEqDiff, Nat.reduceAdd, ↓reduceIte, true_and, and_true, Bool.true_eq_false, Bool.false_eq_true, false_imp_iff, true_imp_iff, decide_eq_true_eq, Bool.not_eq_true', Bool.not_eq_false', decide_eq_false_iff_not, Option.isSome, List.nil_append, List.cons_append, aGuardO_some, aGuard_tt, aGuard_tf, aGuard_ft, aGuard_ff, aGuard_tb, aGuard_fb, aGuard_ts, aGuard_fs, aPick_b, aPick_t, aPick_f, aAlloc_one, aAlloc_flat, aBox_some, aBuild_flat, aInt_add, aBin_add, aInt_sub, aBin_sub, aInt_mul, aBin_mul, aInt_quo, aBin_quo, aInt_rem, aBin_rem, aInt_and, aBin_and, aInt_or, aBin_or, aInt_xor, aBin_xor, aInt_andNot, aBin_andNot, aInt_eql, aBin_eql, aInt_neq, aBin_neq, aInt_lss, aBin_lss, aInt_leq, aBin_leq, aInt_gtr, aBin_gtr, aInt_geq, aBin_geq, aBin_shl, aBin_shr, aShift_shl, aShift_shr, aBin_be1, aBin_bn1, aBin_be2, aBin_bn2, aBin_be3, aBin_bn3, aBin_be4, aBin_bn4, aBin_be5, aBin_bn5, aBin_be6, aBin_bn6, aBin_be7, aBin_bn7, aBin_be8, aBin_bn8, aBin_be9, aBin_bn9, aUn_b, aUn_t, aUn_f, aUn_i, aNil_ptr, aNil_pv, aConv_int, aField_ptr, aField_pv, aIdx_sl, aIdx_prm, aIdx_row, aIdx_drow, aMake_i, aMake_s, aExtr_tup, aLen_ref, aLen_nil, aLen_sl, aLen_prm, aLen_str, aBuildL_some, aBuildS_some, aLoad_1b, aLoad_1d, aLoad_fb, aLoad_fd, aLoad_1p, aLoad_fp, aLoad_ep, aLoad_rr, aLoad_rd, aStore_1, aStore_f, aStore_r, aApp_some, aAppend_nil, aAppend_ref, aSlice_h, aSlice_l, aSlice_lh, bc_draw, kregD_at, aopsD_nil, aopsD_plain, aopsD_guard, kontD_at, contD_at, yesD_at, noD_at, splD_bool, splD_undef, splD_skip, splD_int, splD_tt, splD_ff, splD_str, splD_nil, splD_sl, splD_prm, splD_ref, splD_ptr, splD_rp, splD_ep, splD_pv, splD_agg, splD_tup, splD_clo, gD_tt, gD_tf, gD_ft, gD_ff, gD_ts, gD_fs, slotO_some, addTr_nil, addTr_cons, memQ_nil, memQ_cons, clash_nil, clash_cons, regC_none, regC_nil, regC_cons, regR_nil, regR_cons, Int.toNat_zero, Int.toNat_one, rng0, rng1, rng2, rng3, rng4, SC.take, SC.drop, mp_nil, acond_ct, acond_cf, mp_one0, mp_one1, mp_one2, mp_one3, kcall_one, liveB_row, liveB_box, idx, cont, still, dies, lend, lendA, lendDies, snocs, SC.snoc, SC.app, meet, AV.cells, fillA, List.getD_cons_zero, List.getD_cons_succ, List.set_cons_zero, List.set_cons_succ, List.length_singleton, Nat.le_refl, Nat.lt_irrefl, Nat.reduceLT, Nat.reduceLeDiff, Option.map_some, Option.map_none, List.flatMap_nil, List.flatMap_cons, Nat.zero_add, BEq.rfl, sl3, ty3, un3, sl52, ty52, un52, sl59, ty59, un59, sl57, ty57, un57, sl5, ty5, un5, sl2, ty2, un2, sl21, ty21, un21, sl4, ty4, un4, sl9, un9, sl22, ty22, un22, ty30, sl30, ty33, sl33, inR64, inRu64, inRu32, Int.toNat_natCast]
  refine ⟨fun hi => ⟨by omega, by omega, fun hne => ?_, fun he => ⟨by omega, ?_⟩⟩, fun hi => ?_⟩
  · congr 1; symm; simp; intro e; rw [e] at hne; exact hne rfl
  · refine klp_of (i + 1) rfl ⟨by omega, fun k hk => ?_⟩ (by omega)
    by_cases e : k = i
    · rw [e]; exact he
    · exact h2 k (by omega)
  · congr 1; symm; simp
    exact eq_of_get h fun k hk => h2 k (by omega)
def lend_laws_eqIntS : List Nat := []
def sp_laws_eqIntS : List AV → List Bx → (AV → List Bx → Prop) → Prop
  | [.sl none (.ints .i64 xs), .sl none (.ints .i64 ys)], [], K => K (.bool (decide (xs = ys))) []
  | _, _, _ => False
theorem at_laws_eqIntS {xs ys : List Int} {K : AV → List Bx → Prop} : sp_laws_eqIntS [.sl none (.ints .i64 xs), .sl none (.ints .i64 ys)] [] K = (K (.bool (decide (xs = ys))) []) := id rfl
theorem ok_laws_eqIntS : ∀ args giv K, sp_laws_eqIntS args giv K → ∃ r outs, ARuns Try.prog 18 args giv r outs ∧ K r outs := by
  intro args giv K hk
  unfold sp_laws_eqIntS at hk
  split at hk
  · exact ⟨_, _, runs_laws_eqIntS _ _ , hk⟩
  · exact hk.elim
/-- For all indices below n. -/
def allN (n : Nat) (p : Nat → Bool) : Bool := (List.range n).all p
theorem allN_iff {n : Nat} {p : Nat → Bool} : allN n p = true ↔ ∀ i, i < n → p i = true := by simp [allN, List.all_eq_true]
theorem allN_t {n : Nat} {p : Nat → Bool} (h : ∀ i, i < n → p i = true) : allN n p = true := allN_iff.2 h
theorem allN_f {n : Nat} {p : Nat → Bool} (i : Nat) (hi : i < n) (h : p i = false) : allN n p = false := by
  cases hh : allN n p with
  | false => rfl
  | true => rw [allN_iff.1 hh i hi] at h; cases h
theorem allN_congr {n : Nat} {p q : Nat → Bool} (h : ∀ i, i < n → p i = q i) : allN n p = allN n q := by
  rw [Bool.eq_iff_iff, allN_iff, allN_iff]
  exact ⟨fun hh i hi => by rw [← h i hi]; exact hh i hi, fun hh i hi => by rw [h i hi]; exact hh i hi⟩
theorem and_f1 {a b : Bool} (h : a = false) : (a && b) = false := by simp [h]
theorem and_f2 {a b : Bool} (h : b = false) : (a && b) = false := by simp [h]
theorem and_tt {a b : Bool} (h : a = true) (h' : b = true) : (a && b) = true := by simp [h, h']
theorem upto_succ {p : Nat → Bool} {i : Nat} (h : ∀ k, k < i → p k = true) (hi : p i = true) : ∀ k, k < i + 1 → p k = true := fun k hk => by
  by_cases e : k = i
  · rw [e]; exact hi
  · exact h k (by omega)

def inB (n l m : Int) : Bool := decide (l ≤ n) && decide (n ≤ m)
theorem inB_t {n l m : Int} : (inB n l m = true) = (l ≤ n ∧ n ≤ m) := by simp [inB]
theorem inB_f {n l m : Int} : (inB n l m = false) = ¬ (l ≤ n ∧ n ≤ m) := by rw [← inB_t]; simp

/-- All elements, as bits. -/
def fullI (n : Int) : Int := 2 ^ n.toNat - 1
theorem full_bd {n : Int} (h : 0 ≤ n ∧ n ≤ 10) : 0 ≤ fullI n ∧ fullI n ≤ 1023 := by
  have h1 : (2 : Nat) ^ n.toNat ≤ 2 ^ 10 := Nat.pow_le_pow_right (by omega) (by omega)
  have h2 : 0 < (2 : Nat) ^ n.toNat := Nat.two_pow_pos _
  have e : ((2 ^ n.toNat : Nat) : Int) = 2 ^ n.toNat := by simp
  unfold fullI
  omega
theorem full_bd6 {n : Int} (h : 0 ≤ n ∧ n ≤ 6) : 0 ≤ fullI n ∧ fullI n ≤ 63 := by
  have h1 : (2 : Nat) ^ n.toNat ≤ 2 ^ 6 := Nat.pow_le_pow_right (by omega) (by omega)
  have h2 : 0 < (2 : Nat) ^ n.toNat := Nat.two_pow_pos _
  have e : ((2 ^ n.toNat : Nat) : Int) = 2 ^ n.toNat := by simp
  unfold fullI
  omega
def inS (n s : Int) : Bool := inB s 0 (fullI n)
/-- Sets of n elements. -/
def setsOk (n : Int) (xs : List Int) : Bool := inB n 0 6 && allN xs.length fun i => inS n (xs.getD i 0)
theorem setsOk_iff {n : Int} {xs : List Int} : setsOk n xs = true ↔ inB n 0 6 = true ∧ ∀ i, i < xs.length → inS n (xs.getD i 0) = true := by
  simp only [setsOk, Bool.and_eq_true, allN_iff]
theorem setsOk_bd {n : Int} {xs : List Int} (h : setsOk n xs = true) : (0 ≤ n ∧ n ≤ 6) ∧ ∀ i, i < xs.length → 0 ≤ xs.getD i 0 ∧ xs.getD i 0 ≤ 63 ∧ xs.getD i 0 ≤ fullI n := by
  rw [setsOk_iff, inB_t] at h
  have hf := full_bd6 h.1
  refine ⟨h.1, fun i hi => ?_⟩
  have := h.2 i hi
  rw [inS, inB_t] at this
  omega
def ascAt (xs : List Int) (i : Nat) : Bool := i == 0 || decide (xs.getD (i - 1) 0 < xs.getD i 0)
/-- A family: sets that ascend. -/
def famB (n : Int) (xs : List Int) : Bool := setsOk n xs && allN xs.length (ascAt xs)
theorem famB_iff {n : Int} {xs : List Int} : famB n xs = true ↔ setsOk n xs = true ∧ ∀ i, i < xs.length → ascAt xs i = true := by
  simp only [famB, Bool.and_eq_true, allN_iff]
theorem famB_f {n : Int} {xs : List Int} (h : ¬ (setsOk n xs = true ∧ ∀ i, i < xs.length → ascAt xs i = true)) : famB n xs = false := by
  rw [← famB_iff] at h; simpa using h
theorem famB_bd {n : Int} {xs : List Int} (h : famB n xs = true) : (0 ≤ n ∧ n ≤ 6) ∧ ∀ i, i < xs.length → 0 ≤ xs.getD i 0 ∧ xs.getD i 0 ≤ 63 ∧ xs.getD i 0 ≤ fullI n := setsOk_bd (famB_iff.1 h).1
theorem ascAt_iff {xs : List Int} {i : Nat} : ascAt xs i = true ↔ (i = 0 ∨ xs.getD (i - 1) 0 < xs.getD i 0) := by
  unfold ascAt
  generalize xs.getD (i - 1) 0 = a
  generalize xs.getD i 0 = b
  simp

theorem band_comm {a b : Int} : band .i64 a b = band .i64 b a := by unfold band; rw [BitVec.and_comm]
def meetN (a b : Int) : Bool := !decide (band .i64 a b = 0)
theorem meetN_comm {a b : Int} : meetN a b = meetN b a := by unfold meetN; rw [band_comm]
theorem meetN_f {a b : Int} (h : band .i64 a b = 0) : meetN a b = false := by simp [meetN, h]
theorem meetN_t {a b : Int} (h : ¬ band .i64 a b = 0) : meetN a b = true := by simp [meetN, h]
/-- s meets all. -/
def meetsB (xs : List Int) (s : Int) : Bool := allN xs.length fun i => meetN (xs.getD i 0) s
/-- Any two meet. -/
def interB (xs : List Int) : Bool := allN xs.length fun i => allN (i + 1) fun k => meetN (xs.getD i 0) (xs.getD k 0)
theorem interB_eq {xs : List Int} : interB xs = allN xs.length fun i => meetsB xs (xs.getD i 0) := by
  rw [Bool.eq_iff_iff]
  simp only [interB, meetsB, allN_iff]
  constructor
  · intro h i hi k hk
    by_cases hle : k ≤ i
    · rw [meetN_comm]; exact h i hi k (by omega)
    · exact h k hk i (by omega)
  · intro h i hi k hk
    exact h k (by omega) i hi

def dist (xs : List Int) (i k : Nat) : Bool := !decide (xs.getD k 0 = xs.getD i 0)
theorem dist_f {xs : List Int} {i k : Nat} (h : xs.getD k 0 = xs.getD i 0) : dist xs i k = false := by
  unfold dist; rw [h]; simp
theorem dist_t {xs : List Int} {i k : Nat} (h : ¬ xs.getD k 0 = xs.getD i 0) : dist xs i k = true := by
  unfold dist; rw [decide_eq_false h]; rfl
theorem dist_iff {xs : List Int} {i k : Nat} : dist xs i k = true ↔ ¬ xs.getD k 0 = xs.getD i 0 := ⟨fun h e => (by rw [dist_f e] at h; cases h), dist_t⟩
/-- At most 64 different sets. -/
def sunV (xs : List Int) : Bool := decide (xs.length ≤ 64) && allN xs.length fun i => inS 6 (xs.getD i 0) && allN i fun k => dist xs i k
def core (xs : List Int) : Int := band .i64 (xs.getD 0 0) (xs.getD 1 0)
def coreAt (xs : List Int) (i k : Nat) : Bool := decide (band .i64 (xs.getD i 0) (xs.getD k 0) = core xs)
theorem coreAt_iff {xs : List Int} {i k : Nat} : coreAt xs i k = true ↔ band .i64 (xs.getD i 0) (xs.getD k 0) = core xs := by unfold coreAt; exact decide_eq_true_iff
def sunC (xs : List Int) : Bool := allN xs.length fun i => allN i fun k => coreAt xs i k
def sunB (xs : List Int) : Bool := sunV xs && sunC xs
/-- s is a further petal. -/
def petalAt (xs : List Int) (s : Int) (j : Nat) : Bool :=
  decide (¬ xs.getD j 0 = s ∧ band .i64 s (xs.getD j 0) = band .i64 s (xs.getD 0 0) ∧ (0 < j → band .i64 s (xs.getD j 0) = core xs))
theorem petalAt_iff {xs : List Int} {s : Int} {j : Nat} : petalAt xs s j = true ↔ (¬ xs.getD j 0 = s ∧ band .i64 s (xs.getD j 0) = band .i64 s (xs.getD 0 0) ∧ (0 < j → band .i64 s (xs.getD j 0) = core xs)) := by
  unfold petalAt; exact decide_eq_true_iff
theorem petalAt_f {xs : List Int} {s : Int} {j : Nat} (h : ¬ (¬ xs.getD j 0 = s ∧ band .i64 s (xs.getD j 0) = band .i64 s (xs.getD 0 0) ∧ (0 < j → band .i64 s (xs.getD j 0) = core xs))) : petalAt xs s j = false := by
  unfold petalAt; exact decide_eq_false h
def petalB (xs : List Int) (s : Int) : Bool := allN xs.length (petalAt xs s)
def sunI (xs : List Int) : Bool := (decide (xs.length ≤ 64) && setsOk 6 xs) && allN xs.length fun i => petalB (xs.take i) (xs.getD i 0)
theorem take_getD {xs : List Int} {i j : Nat} (h : j < i) : (xs.take i).getD j 0 = xs.getD j 0 := by
  rw [List.getD_eq_getElem?_getD, List.getElem?_take, if_pos h, ← List.getD_eq_getElem?_getD]
theorem sun_eq {xs : List Int} : sunI xs = sunB xs := by
  have l6 : inB 6 0 6 = true := by decide
  rw [Bool.eq_iff_iff]
  simp only [sunI, sunB, sunV, sunC, setsOk, petalB, Bool.and_eq_true, allN_iff, decide_eq_true_eq, l6, true_and, dist_iff, coreAt_iff]
  constructor
  · rintro ⟨⟨h1, h2⟩, h3⟩
    have h4 : ∀ i, i < xs.length → ∀ j, j < i → ¬ xs.getD j 0 = xs.getD i 0 ∧ band .i64 (xs.getD i 0) (xs.getD j 0) = band .i64 (xs.getD i 0) (xs.getD 0 0) ∧ (0 < j → band .i64 (xs.getD i 0) (xs.getD j 0) = core (xs.take i)) := by
      intro i hi j hj
      have := petalAt_iff.1 (h3 i hi j (by rw [List.length_take]; omega))
      rw [take_getD hj, take_getD (show 0 < i by omega)] at this
      exact this
    have hc : ∀ i, 1 < i → core (xs.take i) = core xs := fun i hi => by
      unfold core; rw [take_getD (show 0 < i by omega), take_getD hi]
    refine ⟨⟨h1, fun i hi => ⟨h2 i hi, fun k hk => (h4 i hi k hk).1⟩⟩, fun i hi k hk => ?_⟩
    have hk' := h4 i hi k hk
    by_cases h0 : 0 < k
    · rw [hk'.2.2 h0, hc i (by omega)]
    · have : k = 0 := by omega
      subst this
      by_cases h1 : i = 1
      · subst h1; rw [band_comm]; rfl
      · have h5 := h4 i hi 1 (by omega)
        rw [← h5.2.1, h5.2.2 (by omega), hc i (by omega)]
  · rintro ⟨⟨h1, h2⟩, h3⟩
    refine ⟨⟨h1, fun i hi => (h2 i hi).1⟩, fun i hi j hj => ?_⟩
    rw [List.length_take] at hj
    have hj' : j < i := by omega
    rw [petalAt_iff, take_getD hj', take_getD (show 0 < i by omega)]
    refine ⟨(h2 i hi).2 j hj', by rw [h3 i hi j hj', h3 i hi 0 (by omega)], fun h0 => ?_⟩
    rw [h3 i hi j hj']
    unfold core
    rw [take_getD (show 0 < i by omega), take_getD (show 1 < i by omega)]
def kernOk (xs : List Int) : Bool := decide (2 ≤ xs.length) && sunB xs
def kernI (xs : List Int) : Int := if kernOk xs = true then core xs else 0
theorem kern_f {xs : List Int} (h : ¬ (2 ≤ xs.length ∧ sunB xs = true)) : kernOk xs = false ∧ kernI xs = 0 := by
  have e : kernOk xs = false := by
    cases hh : kernOk xs with
    | false => rfl
    | true => exact absurd (by simpa [kernOk] using hh) h
  exact ⟨e, by simp [kernI, e]⟩
theorem kern_t {xs : List Int} (h : 2 ≤ xs.length ∧ sunB xs = true) : kernOk xs = true ∧ kernI xs = core xs := by
  have e : kernOk xs = true := by simpa [kernOk] using h
  exact ⟨e, by simp [kernI, e]⟩

theorem is_spec_l1In : FnIs Try.prog 47 15 [.tmp 6] (Try.f47.body.getD .skip) := ⟨⟨Try.f47, by kernel_rfl, by kernel_rfl, by kernel_rfl, by kernel_rfl⟩, by kernel_rfl, by kernel_rfl⟩
def G_spec_l1In : Gm := Gm.none
theorem G_spec_l1In_ok : G_spec_l1In.ok Try.prog := Gm.none_ok
set_option maxHeartbeats 1000000 in
set_option maxRecDepth 100000 in
theorem runs_spec_l1In (n l m : Int) : ARuns Try.prog 47 [.int .i64 n, .int .i64 l, .int .i64 m] [] (.bool (inB n l m)) [] := by
  refine ARuns_bc G_spec_l1In_ok is_spec_l1In (by simp) fun hl hlB => ?_
  simp only [kcode_at, kreg_at, bc_skip, bc_seq, bc_cond, bc_block, bc_exit, bc_ret, bc_region, lkX_cons, acond_tmp, aCase_t, aCase_f, aCase_b, afin_nil, cvE_some, resL, resV, resC, cv, cvL, pack, entryE, inPrm, Option.getD_some, acall_clo, add_sp, add_lend, kcall_nil, selOf, selA, inArgs, inA, inL, okA, okL, okBx, okC, outA, outL, outU, outB, deep, deepL, boxIds, AV.bid, List.map_nil, List.map_cons, List.all_nil, List.all_cons, BEq.rfl, Bool.and_true, Bool.true_and, List.append_nil, aops_nil, aops_plain, aops_guard, kont_at, yes_at, no_at, aop_move, aop_assign, aop_pick, aop_alloc, aop_box, aop_build, aop_buildSlice, aop_load, aop_store, aop_nilCheck, aop_binOp, aop_unOp, aop_convert, aop_fieldAddr, aop_indexAddr, aop_slice, aop_extract, aop_makeSlice, aop_len, aop_max, aMax_int, slTy2, SC0, aop_append, aop_call, evalE, getE, putE, getB, setB, St.put, setsB, nth, AV.ofV, AV.blk, AV.bid, AV.one, SC.len, SC.get, List.length_nil, List.length_cons, Nat.reduceEqDiff, Nat.reduceAdd, ↓reduceIte, true_and, and_true, Bool.true_eq_false, Bool.false_eq_true, false_imp_iff, true_imp_iff, decide_eq_true_eq, Bool.not_eq_true', Bool.not_eq_false', decide_eq_false_iff_not, Option.isSome, List.nil_append, List.cons_append, aGuardO_some, aGuard_tt, aGuard_tf, aGuard_ft, aGuard_ff, aGuard_tb, aGuard_fb, aGuard_ts, aGuard_fs, aPick_b, aPick_t, aPick_f, aAlloc_one, aAlloc_flat, aBox_some, aBuild_flat, aInt_add, aBin_add, aInt_sub, aBin_sub, aInt_mul, aBin_mul, aInt_quo, aBin_quo, aInt_rem, aBin_rem, aInt_and, aBin_and, aInt_or, aBin_or, aInt_xor, aBin_xor, aInt_andNot, aBin_andNot, aInt_eql, aBin_eql, aInt_neq, aBin_neq, aInt_lss, aBin_lss, aInt_leq, aBin_leq, aInt_gtr, aBin_gtr, aInt_geq, aBin_geq, aBin_shl, aBin_shr, aShift_shl, aShift_shr, aBin_be1, aBin_bn1, aBin_be2, aBin_bn2, aBin_be3, aBin_bn3, aBin_be4, aBin_bn4, aBin_be5, aBin_bn5, aBin_be6, aBin_bn6, aBin_be7, aBin_bn7, aBin_be8, aBin_bn8, aBin_be9, aBin_bn9, aUn_b, aUn_t, aUn_f, aUn_i, aNil_ptr, aNil_pv, aConv_int, aField_ptr, aField_pv, aIdx_sl, aIdx_prm, aIdx_row, aIdx_drow, aMake_i, aMake_s, aExtr_tup, aLen_ref, aLen_nil, aLen_sl, aLen_prm, aLen_str, aBuildL_some, aBuildS_some, aLoad_1b, aLoad_1d, aLoad_fb, aLoad_fd, aLoad_1p, aLoad_fp, aLoad_ep, aLoad_rr, aLoad_rd, aStore_1, aStore_f, aStore_r, aApp_some, aAppend_nil, aAppend_ref, aSlice_h, aSlice_l, aSlice_lh, bc_draw, kregD_at, aopsD_nil, aopsD_plain, aopsD_guard, kontD_at, contD_at, yesD_at, noD_at, splD_bool, splD_undef, splD_skip, splD_int, splD_tt, splD_ff, splD_str, splD_nil, splD_sl, splD_prm, splD_ref, splD_ptr, splD_rp, splD_ep, splD_pv, splD_agg, splD_tup, splD_clo, gD_tt, gD_tf, gD_ft, gD_ff, gD_ts, gD_fs, slotO_some, addTr_nil, addTr_cons, memQ_nil, memQ_cons, clash_nil, clash_cons, regC_none, regC_nil, regC_cons, regR_nil, regR_cons, Int.toNat_zero, Int.toNat_one, rng0, rng1, rng2, rng3, rng4, SC.take, SC.drop, mp_nil, acond_ct, acond_cf, mp_one0, mp_one1, mp_one2, mp_one3, kcall_one, liveB_row, liveB_box, idx, cont, still, dies, lend, lendA, lendDies, snocs, SC.snoc, SC.app, meet, AV.cells, fillA, List.getD_cons_zero, List.getD_cons_succ, List.set_cons_zero, List.set_cons_succ, List.length_singleton, Nat.le_refl, Nat.lt_irrefl, Nat.reduceLT, Nat.reduceLeDiff, Option.map_some, Option.map_none, List.flatMap_nil, List.flatMap_cons, Nat.zero_add, BEq.rfl, sl3, ty3, un3, sl52, ty52, un52, sl59, ty59, un59, sl57, ty57, un57, sl5, ty5, un5, sl2, ty2, un2, sl21, ty21, un21, sl4, ty4, un4, sl9, un9, sl22, ty22, un22, ty30, sl30, ty33, sl33, inR64, inRu64, inRu32, Try.f47]
  refine ⟨fun h => ?_, fun h => ?_⟩ <;> simp [h, inB]
def lend_spec_l1In : List Nat := []
def sp_spec_l1In : List AV → List Bx → (AV → List Bx → Prop) → Prop
  | [.int .i64 n, .int .i64 l, .int .i64 m], [], K => K (.bool (inB n l m)) []
  | _, _, _ => False
theorem at_spec_l1In {n l m : Int} {K : AV → List Bx → Prop} : sp_spec_l1In [.int .i64 n, .int .i64 l, .int .i64 m] [] K = (K (.bool (inB n l m)) []) := id rfl
theorem ok_spec_l1In : ∀ args giv K, sp_spec_l1In args giv K → ∃ r outs, ARuns Try.prog 47 args giv r outs ∧ K r outs := by
  intro args giv K hk
  unfold sp_spec_l1In at hk
  split at hk
  · exact ⟨_, _, runs_spec_l1In _ _ _ , hk⟩
  · exact hk.elim
theorem is_spec_l2Full : FnIs Try.prog 68 6 [.tmp 2] (Try.f68.body.getD .skip) := ⟨⟨Try.f68, by kernel_rfl, by kernel_rfl, by kernel_rfl, by kernel_rfl⟩, by kernel_rfl, by kernel_rfl⟩
def G_spec_l2Full : Gm := Gm.none
theorem G_spec_l2Full_ok : G_spec_l2Full.ok Try.prog := Gm.none_ok
set_option maxHeartbeats 1000000 in
set_option maxRecDepth 100000 in
theorem runs_spec_l2Full (n : Int) (hp1 : 0 ≤ n ∧ n ≤ 10) : ARuns Try.prog 68 [.int .i64 n] [] (.int .i64 (fullI n)) [] := by
  refine ARuns_bc G_spec_l2Full_ok is_spec_l2Full (by simp) fun hl hlB => ?_
  simp only [kcode_at, kreg_at, bc_skip, bc_seq, bc_cond, bc_block, bc_exit, bc_ret, bc_region, lkX_cons, acond_tmp, aCase_t, aCase_f, aCase_b, afin_nil, cvE_some, resL, resV, resC, cv, cvL, pack, entryE, inPrm, Option.getD_some, acall_clo, add_sp, add_lend, kcall_nil, selOf, selA, inArgs, inA, inL, okA, okL, okBx, okC, outA, outL, outU, outB, deep, deepL, boxIds, AV.bid, List.map_nil, List.map_cons, List.all_nil, List.all_cons, BEq.rfl, Bool.and_true, Bool.true_and, List.append_nil, aops_nil, aops_plain, aops_guard, kont_at, yes_at, no_at, aop_move, aop_assign, aop_pick, aop_alloc, aop_box, aop_build, aop_buildSlice, aop_load, aop_store, aop_nilCheck, aop_binOp, aop_unOp, aop_convert, aop_fieldAddr, aop_indexAddr, aop_slice, aop_extract, aop_makeSlice, aop_len, aop_max, aMax_int, slTy2, SC0, aop_append, aop_call, evalE, getE, putE, getB, setB, St.put, setsB, nth, AV.ofV, AV.blk, AV.bid, AV.one, SC.len, SC.get, List.length_nil, List.length_cons, Nat.reduceEqDiff, Nat.reduceAdd, ↓reduceIte, true_and, and_true, Bool.true_eq_false, Bool.false_eq_true, false_imp_iff, true_imp_iff, decide_eq_true_eq, Bool.not_eq_true', Bool.not_eq_false', decide_eq_false_iff_not, Option.isSome, List.nil_append, List.cons_append, aGuardO_some, aGuard_tt, aGuard_tf, aGuard_ft, aGuard_ff, aGuard_tb, aGuard_fb, aGuard_ts, aGuard_fs, aPick_b, aPick_t, aPick_f, aAlloc_one, aAlloc_flat, aBox_some, aBuild_flat, aInt_add, aBin_add, aInt_sub, aBin_sub, aInt_mul, aBin_mul, aInt_quo, aBin_quo, aInt_rem, aBin_rem, aInt_and, aBin_and, aInt_or, aBin_or, aInt_xor, aBin_xor, aInt_andNot, aBin_andNot, aInt_eql, aBin_eql, aInt_neq, aBin_neq, aInt_lss, aBin_lss, aInt_leq, aBin_leq, aInt_gtr, aBin_gtr, aInt_geq, aBin_geq, aBin_shl, aBin_shr, aShift_shl, aShift_shr, aBin_be1, aBin_bn1, aBin_be2, aBin_bn2, aBin_be3, aBin_bn3, aBin_be4, aBin_bn4, aBin_be5, aBin_bn5, aBin_be6, aBin_bn6, aBin_be7, aBin_bn7, aBin_be8, aBin_bn8, aBin_be9, aBin_bn9, aUn_b, aUn_t, aUn_f, aUn_i, aNil_ptr, aNil_pv, aConv_int, aField_ptr, aField_pv, aIdx_sl, aIdx_prm, aIdx_row, aIdx_drow, aMake_i, aMake_s, aExtr_tup, aLen_ref, aLen_nil, aLen_sl, aLen_prm, aLen_str, aBuildL_some, aBuildS_some, aLoad_1b, aLoad_1d, aLoad_fb, aLoad_fd, aLoad_1p, aLoad_fp, aLoad_ep, aLoad_rr, aLoad_rd, aStore_1, aStore_f, aStore_r, aApp_some, aAppend_nil, aAppend_ref, aSlice_h, aSlice_l, aSlice_lh, bc_draw, kregD_at, aopsD_nil, aopsD_plain, aopsD_guard, kontD_at, contD_at, yesD_at, noD_at, splD_bool, splD_undef, splD_skip, splD_int, splD_tt, splD_ff, splD_str, splD_nil, splD_sl, splD_prm, splD_ref, splD_ptr, splD_rp, splD_ep, splD_pv, splD_agg, splD_tup, splD_clo, gD_tt, gD_tf, gD_ft, gD_ff, gD_ts, gD_fs, slotO_some, addTr_nil, addTr_cons, memQ_nil, memQ_cons, clash_nil, clash_cons, regC_none, regC_nil, regC_cons, regR_nil, regR_cons, Int.toNat_zero, Int.toNat_one, rng0, rng1, rng2, rng3, rng4, SC.take, SC.drop, mp_nil, acond_ct, acond_cf, mp_one0, mp_one1, mp_one2, mp_one3, kcall_one, liveB_row, liveB_box, idx, cont, still, dies, lend, lendA, lendDies, snocs, SC.snoc, SC.app, meet, AV.cells, fillA, List.getD_cons_zero, List.getD_cons_succ, List.set_cons_zero, List.set_cons_succ, List.length_singleton, Nat.le_refl, Nat.lt_irrefl, Nat.reduceLT, Nat.reduceLeDiff, Option.map_some, Option.map_none, List.flatMap_nil, List.flatMap_cons, Nat.zero_add, BEq.rfl, sl3, ty3, un3, sl52, ty52, un52, sl59, ty59, un59, sl57, ty57, un57, sl5, ty5, un5, sl2, ty2, un2, sl21, ty21, un21, sl4, ty4, un4, sl9, un9, sl22, ty22, un22, ty30, sl30, ty33, sl33, inR64, inRu64, inRu32, Try.f68]
  have h := full_bd hp1
  have e : 1 * 2 ^ n.toNat - 1 = fullI n := by unfold fullI; omega
  have e2 : (1 : Int) * 2 ^ n.toNat = fullI n + 1 := by omega
  simp only [IntKind.bits]
  rw [e, e2]
  (repeat' (first | apply And.intro | intro _)) <;> try (first | omega | trivial)
def lend_spec_l2Full : List Nat := []
def sp_spec_l2Full : List AV → List Bx → (AV → List Bx → Prop) → Prop
  | [.int .i64 n], [], K => (0 ≤ n ∧ n ≤ 10) ∧ K (.int .i64 (fullI n)) []
  | _, _, _ => False
theorem at_spec_l2Full {n : Int} {K : AV → List Bx → Prop} : sp_spec_l2Full [.int .i64 n] [] K = ((0 ≤ n ∧ n ≤ 10) ∧ K (.int .i64 (fullI n)) []) := id rfl
theorem ok_spec_l2Full : ∀ args giv K, sp_spec_l2Full args giv K → ∃ r outs, ARuns Try.prog 68 args giv r outs ∧ K r outs := by
  intro args giv K hk
  unfold sp_spec_l2Full at hk
  split at hk
  · obtain ⟨hp1, hk⟩ := hk; exact ⟨_, _, runs_spec_l2Full _ hp1, hk⟩
  · exact hk.elim
theorem is_spec_l24Valid : FnIs Try.prog 50 35 [.tmp 2] (Try.f50.body.getD .skip) := ⟨⟨Try.f50, by kernel_rfl, by kernel_rfl, by kernel_rfl, by kernel_rfl⟩, by kernel_rfl, by kernel_rfl⟩
def G_spec_l24Valid : Gm := ((Gm.none.add 47 lend_spec_l1In sp_spec_l1In).add 68 lend_spec_l2Full sp_spec_l2Full)
theorem G_spec_l24Valid_ok : G_spec_l24Valid.ok Try.prog := (Gm.add_ok (Gm.add_ok Gm.none_ok ok_spec_l1In) ok_spec_l2Full)
theorem gs_spec_l24Valid_47 : G_spec_l24Valid.sp 47 = sp_spec_l1In ∧ G_spec_l24Valid.lend 47 = lend_spec_l1In := ⟨rfl, rfl⟩
theorem gs_spec_l24Valid_68 : G_spec_l24Valid.sp 68 = sp_spec_l2Full ∧ G_spec_l24Valid.lend 68 = lend_spec_l2Full := ⟨rfl, rfl⟩
set_option maxHeartbeats 1000000 in
set_option maxRecDepth 100000 in
theorem runs_spec_l24Valid (xs : List Int) : ARuns Try.prog 50 [.sl none (.ints .i64 xs)] [] (.bool (sunV xs)) [] := by
  refine ARuns_bc G_spec_l24Valid_ok is_spec_l24Valid (by simp) fun hl hlB => ?_
  simp only [kcode_at, kreg_at, bc_skip, bc_seq, bc_cond, bc_block, bc_exit, bc_ret, bc_region, lkX_cons, acond_tmp, aCase_t, aCase_f, aCase_b, afin_nil, cvE_some, resL, resV, resC, cv, cvL, pack, entryE, inPrm, Option.getD_some, acall_clo, add_sp, add_lend, kcall_nil, selOf, selA, inArgs, inA, inL, okA, okL, okBx, okC, outA, outL, outU, outB, deep, deepL, boxIds, AV.bid, List.map_nil, List.map_cons, List.all_nil, List.all_cons, BEq.rfl, Bool.and_true, Bool.true_and, List.append_nil, aops_nil, aops_plain, aops_guard, kont_at, yes_at, no_at, aop_move, aop_assign, aop_pick, aop_alloc, aop_box, aop_build, aop_buildSlice, aop_load, aop_store, aop_nilCheck, aop_binOp, aop_unOp, aop_convert, aop_fieldAddr, aop_indexAddr, aop_slice, aop_extract, aop_makeSlice, aop_len, aop_max, aMax_int, slTy2, SC0, aop_append, aop_call, evalE, getE, putE, getB, setB, St.put, setsB, nth, AV.ofV, AV.blk, AV.bid, AV.one, SC.len, SC.get, List.length_nil, List.length_cons, Nat.reduceEqDiff, Nat.reduceAdd, ↓reduceIte, true_and, and_true, Bool.true_eq_false, Bool.false_eq_true, false_imp_iff, true_imp_iff, decide_eq_true_eq, Bool.not_eq_true', Bool.not_eq_false', decide_eq_false_iff_not, Option.isSome, List.nil_append, List.cons_append, aGuardO_some, aGuard_tt, aGuard_tf, aGuard_ft, aGuard_ff, aGuard_tb, aGuard_fb, aGuard_ts, aGuard_fs, aPick_b, aPick_t, aPick_f, aAlloc_one, aAlloc_flat, aBox_some, aBuild_flat, aInt_add, aBin_add, aInt_sub, aBin_sub, aInt_mul, aBin_mul, aInt_quo, aBin_quo, aInt_rem, aBin_rem, aInt_and, aBin_and, aInt_or, aBin_or, aInt_xor, aBin_xor, aInt_andNot, aBin_andNot, aInt_eql, aBin_eql, aInt_neq, aBin_neq, aInt_lss, aBin_lss, aInt_leq, aBin_leq, aInt_gtr, aBin_gtr, aInt_geq, aBin_geq, aBin_shl, aBin_shr, aShift_shl, aShift_shr, aBin_be1, aBin_bn1, aBin_be2, aBin_bn2, aBin_be3, aBin_bn3, aBin_be4, aBin_bn4, aBin_be5, aBin_bn5, aBin_be6, aBin_bn6, aBin_be7, aBin_bn7, aBin_be8, aBin_bn8, aBin_be9, aBin_bn9, aUn_b, aUn_t, aUn_f, aUn_i, aNil_ptr, aNil_pv, aConv_int, aField_ptr, aField_pv, aIdx_sl, aIdx_prm, aIdx_row, aIdx_drow, aMake_i, aMake_s, aExtr_tup, aLen_ref, aLen_nil, aLen_sl, aLen_prm, aLen_str, aBuildL_some, aBuildS_some, aLoad_1b, aLoad_1d, aLoad_fb, aLoad_fd, aLoad_1p, aLoad_fp, aLoad_ep, aLoad_rr, aLoad_rd, aStore_1, aStore_f, aStore_r, aApp_some, aAppend_nil, aAppend_ref, aSlice_h, aSlice_l, aSlice_lh, bc_draw, kregD_at, aopsD_nil, aopsD_plain, aopsD_guard, kontD_at, contD_at, yesD_at, noD_at, splD_bool, splD_undef, splD_skip, splD_int, splD_tt, splD_ff, splD_str, splD_nil, splD_sl, splD_prm, splD_ref, splD_ptr, splD_rp, splD_ep, splD_pv, splD_agg, splD_tup, splD_clo, gD_tt, gD_tf, gD_ft, gD_ff, gD_ts, gD_fs, slotO_some, addTr_nil, addTr_cons, memQ_nil, memQ_cons, clash_nil, clash_cons, regC_none, regC_nil, regC_cons, regR_nil, regR_cons, Int.toNat_zero, Int.toNat_one, rng0, rng1, rng2, rng3, rng4, SC.take, SC.drop, mp_nil, acond_ct, acond_cf, mp_one0, mp_one1, mp_one2, mp_one3, kcall_one, liveB_row, liveB_box, idx, cont, still, dies, lend, lendA, lendDies, snocs, SC.snoc, SC.app, meet, AV.cells, fillA, List.getD_cons_zero, List.getD_cons_succ, List.set_cons_zero, List.set_cons_succ, List.length_singleton, Nat.le_refl, Nat.lt_irrefl, Nat.reduceLT, Nat.reduceLeDiff, Option.map_some, Option.map_none, List.flatMap_nil, List.flatMap_cons, Nat.zero_add, BEq.rfl, sl3, ty3, un3, sl52, ty52, un52, sl59, ty59, un59, sl57, ty57, un57, sl5, ty5, un5, sl2, ty2, un2, sl21, ty21, un21, sl4, ty4, un4, sl9, un9, sl22, ty22, un22, ty30, sl30, ty33, sl33, inR64, inRu64, inRu32, gs_spec_l24Valid_47, at_spec_l1In, lend_spec_l1In, gs_spec_l24Valid_68, at_spec_l2Full, lend_spec_l2Full, Try.f50]
  simp only [lensA, lenA, lenSC] at hl
  refine ⟨fun h => by rw [sunV, decide_eq_false (by omega)]; rfl, fun h64 => ?_⟩
  have e64 : decide (xs.length ≤ 64) = true := decide_eq_true (by omega)
  refine bc_loop (fun i : Nat => i ≤ xs.length ∧ ∀ k, k < i → (inS 6 (xs.getD k 0) && allN k fun j => dist xs k j) = true)
    (fun i => ⟨[(0, .prm 0 (.ints .i64 xs)), (3, .int .i64 i)], []⟩) (fun i => xs.length - i)
    [0, 3] [] 0 rfl rfl (by simp) fun i ⟨h1, h2⟩ => ?_
  simp only [kcode_at, kreg_at, bc_skip, bc_seq, bc_cond, bc_block, bc_exit, bc_ret, bc_region, lkX_cons, acond_tmp, aCase_t, aCase_f, aCase_b, afin_nil, cvE_some, resL, resV, resC, cv, cvL, pack, entryE, inPrm, Option.getD_some, acall_clo, add_sp, add_lend, kcall_nil, selOf, selA, inArgs, inA, inL, okA, okL, okBx, okC, outA, outL, outU, outB, deep, deepL, boxIds, AV.bid, List.map_nil, List.map_cons, List.all_nil, List.all_cons, BEq.rfl, Bool.and_true, Bool.true_and, List.append_nil, aops_nil, aops_plain, aops_guard, kont_at, yes_at, no_at, aop_move, aop_assign, aop_pick, aop_alloc, aop_box, aop_build, aop_buildSlice, aop_load, aop_store, aop_nilCheck, aop_binOp, aop_unOp, aop_convert, aop_fieldAddr, aop_indexAddr, aop_slice, aop_extract, aop_makeSlice, aop_len, aop_max, aMax_int, slTy2, SC0, aop_append, aop_call, evalE, getE, putE, getB, setB, St.put, setsB, nth, AV.ofV, AV.blk, AV.bid, AV.one, SC.len, SC.get, List.length_nil, List.length_cons, Nat.reduceEqDiff, Nat.reduceAdd, ↓reduceIte, true_and, and_true, Bool.true_eq_false, Bool.false_eq_true, false_imp_iff, true_imp_iff, decide_eq_true_eq, Bool.not_eq_true', Bool.not_eq_false', decide_eq_false_iff_not, Option.isSome, List.nil_append, List.cons_append, aGuardO_some, aGuard_tt, aGuard_tf, aGuard_ft, aGuard_ff, aGuard_tb, aGuard_fb, aGuard_ts, aGuard_fs, aPick_b, aPick_t, aPick_f, aAlloc_one, aAlloc_flat, aBox_some, aBuild_flat, aInt_add, aBin_add, aInt_sub, aBin_sub, aInt_mul, aBin_mul, aInt_quo, aBin_quo, aInt_rem, aBin_rem, aInt_and, aBin_and, aInt_or, aBin_or, aInt_xor, aBin_xor, aInt_andNot, aBin_andNot, aInt_eql, aBin_eql, aInt_neq, aBin_neq, aInt_lss, aBin_lss, aInt_leq, aBin_leq, aInt_gtr, aBin_gtr, aInt_geq, aBin_geq, aBin_shl, aBin_shr, aShift_shl, aShift_shr, aBin_be1, aBin_bn1, aBin_be2, aBin_bn2, aBin_be3, aBin_bn3, aBin_be4, aBin_bn4, aBin_be5, aBin_bn5, aBin_be6, aBin_bn6, aBin_be7, aBin_bn7, aBin_be8, aBin_bn8, aBin_be9, aBin_bn9, aUn_b, aUn_t, aUn_f, aUn_i, aNil_ptr, aNil_pv, aConv_int, aField_ptr, aField_pv, aIdx_sl, aIdx_prm, aIdx_row, aIdx_drow, aMake_i, aMake_s, aExtr_tup, aLen_ref, aLen_nil, aLen_sl, aLen_prm, aLen_str, aBuildL_some, aBuildS_some, aLoad_1b, aLoad_1d, aLoad_fb, aLoad_fd, aLoad_1p, aLoad_fp, aLoad_ep, aLoad_rr, aLoad_rd, aStore_1, aStore_f, aStore_r, aApp_some, aAppend_nil, aAppend_ref, aSlice_h, aSlice_l, aSlice_lh, bc_draw, kregD_at, aopsD_nil, aopsD_plain, aopsD_guard, kontD_at, contD_at, yesD_at, noD_at, splD_bool, splD_undef, splD_skip, splD_int, splD_tt, splD_ff, splD_str, splD_nil, splD_sl, splD_prm, splD_ref, splD_ptr, splD_rp, splD_ep, splD_pv, splD_agg, splD_tup, splD_clo, gD_tt, gD_tf, gD_ft, gD_ff, gD_ts, gD_fs, slotO_some, addTr_nil, addTr_cons, memQ_nil, memQ_cons, clash_nil, clash_cons, regC_none, regC_nil, regC_cons, regR_nil, regR_cons, Int.toNat_zero, Int.toNat_one, rng0, rng1, rng2, rng3, rng4, SC.take, SC.drop, mp_nil, acond_ct, acond_cf, mp_one0, mp_one1, mp_one2, mp_one3, kcall_one, liveB_row, liveB_box, idx, cont, still, dies, lend, lendA, lendDies, snocs, SC.snoc, SC.app, meet, AV.cells, fillA, List.getD_cons_zero, List.getD_cons_succ, List.set_cons_zero, List.set_cons_succ, List.length_singleton, Nat.le_refl, Nat.lt_irrefl, Nat.reduceLT, Nat.reduceLeDiff, Option.map_some, Option.map_none, List.flatMap_nil, List.flatMap_cons, Nat.zero_add, BEq.rfl, sl3, ty3, un3, sl52, ty52, un52, sl59, ty59, un59, sl57, ty57, un57, sl5, ty5, un5, sl2, ty2, un2, sl21, ty21, un21, sl4, ty4, un4, sl9, un9, sl22, ty22, un22, ty30, sl30, ty33, sl33, inR64, inRu64, inRu32, gs_spec_l24Valid_47, at_spec_l1In, lend_spec_l1In, gs_spec_l24Valid_68, at_spec_l2Full, lend_spec_l2Full, Int.toNat_natCast]
  refine ⟨fun hi => ⟨by omega, by omega, fun hs => ?_, fun hs => ?_⟩, fun hi => ?_⟩
  rotate_left
  · rw [sunV, e64, allN_f i (by omega) (and_f1 hs)]; rfl
  · have : i = xs.length := by omega
    subst this
    rw [sunV, e64, allN_t h2]; rfl
  refine bc_loop (fun j : Nat => j ≤ i ∧ ∀ k, k < j → dist xs i k = true)
    (fun j => ⟨[(0, .prm 0 (.ints .i64 xs)), (3, .int .i64 i), (4, .int .i64 j)], []⟩) (fun j => i - j)
    [0, 3, 4] [] 0 rfl rfl (by simp) fun j ⟨h3, h4⟩ => ?_
  simp only [kcode_at, kreg_at, bc_skip, bc_seq, bc_cond, bc_block, bc_exit, bc_ret, bc_region, lkX_cons, acond_tmp, aCase_t, aCase_f, aCase_b, afin_nil, cvE_some, resL, resV, resC, cv, cvL, pack, entryE, inPrm, Option.getD_some, acall_clo, add_sp, add_lend, kcall_nil, selOf, selA, inArgs, inA, inL, okA, okL, okBx, okC, outA, outL, outU, outB, deep, deepL, boxIds, AV.bid, List.map_nil, List.map_cons, List.all_nil, List.all_cons, BEq.rfl, Bool.and_true, Bool.true_and, List.append_nil, aops_nil, aops_plain, aops_guard, kont_at, yes_at, no_at, aop_move, aop_assign, aop_pick, aop_alloc, aop_box, aop_build, aop_buildSlice, aop_load, aop_store, aop_nilCheck, aop_binOp, aop_unOp, aop_convert, aop_fieldAddr, aop_indexAddr, aop_slice, aop_extract, aop_makeSlice, aop_len, aop_max, aMax_int, slTy2, SC0, aop_append, aop_call, evalE, getE, putE, getB, setB, St.put, setsB, nth, AV.ofV, AV.blk, AV.bid, AV.one, SC.len, SC.get, List.length_nil, List.length_cons, Nat.reduceEqDiff, Nat.reduceAdd, ↓reduceIte, true_and, and_true, Bool.true_eq_false, Bool.false_eq_true, false_imp_iff, true_imp_iff, decide_eq_true_eq, Bool.not_eq_true', Bool.not_eq_false', decide_eq_false_iff_not, Option.isSome, List.nil_append, List.cons_append, aGuardO_some, aGuard_tt, aGuard_tf, aGuard_ft, aGuard_ff, aGuard_tb, aGuard_fb, aGuard_ts, aGuard_fs, aPick_b, aPick_t, aPick_f, aAlloc_one, aAlloc_flat, aBox_some, aBuild_flat, aInt_add, aBin_add, aInt_sub, aBin_sub, aInt_mul, aBin_mul, aInt_quo, aBin_quo, aInt_rem, aBin_rem, aInt_and, aBin_and, aInt_or, aBin_or, aInt_xor, aBin_xor, aInt_andNot, aBin_andNot, aInt_eql, aBin_eql, aInt_neq, aBin_neq, aInt_lss, aBin_lss, aInt_leq, aBin_leq, aInt_gtr, aBin_gtr, aInt_geq, aBin_geq, aBin_shl, aBin_shr, aShift_shl, aShift_shr, aBin_be1, aBin_bn1, aBin_be2, aBin_bn2, aBin_be3, aBin_bn3, aBin_be4, aBin_bn4, aBin_be5, aBin_bn5, aBin_be6, aBin_bn6, aBin_be7, aBin_bn7, aBin_be8, aBin_bn8, aBin_be9, aBin_bn9, aUn_b, aUn_t, aUn_f, aUn_i, aNil_ptr, aNil_pv, aConv_int, aField_ptr, aField_pv, aIdx_sl, aIdx_prm, aIdx_row, aIdx_drow, aMake_i, aMake_s, aExtr_tup, aLen_ref, aLen_nil, aLen_sl, aLen_prm, aLen_str, aBuildL_some, aBuildS_some, aLoad_1b, aLoad_1d, aLoad_fb, aLoad_fd, aLoad_1p, aLoad_fp, aLoad_ep, aLoad_rr, aLoad_rd, aStore_1, aStore_f, aStore_r, aApp_some, aAppend_nil, aAppend_ref, aSlice_h, aSlice_l, aSlice_lh, bc_draw, kregD_at, aopsD_nil, aopsD_plain, aopsD_guard, kontD_at, contD_at, yesD_at, noD_at, splD_bool, splD_undef, splD_skip, splD_int, splD_tt, splD_ff, splD_str, splD_nil, splD_sl, splD_prm, splD_ref, splD_ptr, splD_rp, splD_ep, splD_pv, splD_agg, splD_tup, splD_clo, gD_tt, gD_tf, gD_ft, gD_ff, gD_ts, gD_fs, slotO_some, addTr_nil, addTr_cons, memQ_nil, memQ_cons, clash_nil, clash_cons, regC_none, regC_nil, regC_cons, regR_nil, regR_cons, Int.toNat_zero, Int.toNat_one, rng0, rng1, rng2, rng3, rng4, SC.take, SC.drop, mp_nil, acond_ct, acond_cf, mp_one0, mp_one1, mp_one2, mp_one3, kcall_one, liveB_row, liveB_box, idx, cont, still, dies, lend, lendA, lendDies, snocs, SC.snoc, SC.app, meet, AV.cells, fillA, List.getD_cons_zero, List.getD_cons_succ, List.set_cons_zero, List.set_cons_succ, List.length_singleton, Nat.le_refl, Nat.lt_irrefl, Nat.reduceLT, Nat.reduceLeDiff, Option.map_some, Option.map_none, List.flatMap_nil, List.flatMap_cons, Nat.zero_add, BEq.rfl, sl3, ty3, un3, sl52, ty52, un52, sl59, ty59, un59, sl57, ty57, un57, sl5, ty5, un5, sl2, ty2, un2, sl21, ty21, un21, sl4, ty4, un4, sl9, un9, sl22, ty22, un22, ty30, sl30, ty33, sl33, inR64, inRu64, inRu32, gs_spec_l24Valid_47, at_spec_l1In, lend_spec_l1In, gs_spec_l24Valid_68, at_spec_l2Full, lend_spec_l2Full, Int.toNat_natCast]
  refine ⟨fun hj => ⟨by omega, by omega, fun he => ?_, fun he => ⟨by omega, ?_⟩⟩, fun hj => ⟨by omega, ?_⟩⟩
  · rw [sunV, allN_f i (by omega) (and_f2 (allN_f j (by omega) (dist_f he)))]; simp
  · exact klp_of (j + 1) rfl ⟨by omega, upto_succ h4 (dist_t he)⟩ (by omega)
  · exact klp_of (i + 1) rfl ⟨by omega, upto_succ h2 (and_tt hs (allN_t fun k hk => h4 k (by omega)))⟩ (by omega)
def lend_spec_l24Valid : List Nat := []
def sp_spec_l24Valid : List AV → List Bx → (AV → List Bx → Prop) → Prop
  | [.sl none (.ints .i64 xs)], [], K => K (.bool (sunV xs)) []
  | _, _, _ => False
theorem at_spec_l24Valid {xs : List Int} {K : AV → List Bx → Prop} : sp_spec_l24Valid [.sl none (.ints .i64 xs)] [] K = (K (.bool (sunV xs)) []) := id rfl
theorem ok_spec_l24Valid : ∀ args giv K, sp_spec_l24Valid args giv K → ∃ r outs, ARuns Try.prog 50 args giv r outs ∧ K r outs := by
  intro args giv K hk
  unfold sp_spec_l24Valid at hk
  split at hk
  · exact ⟨_, _, runs_spec_l24Valid _ , hk⟩
  · exact hk.elim
theorem is_spec_l24Sunflower : FnIs Try.prog 51 33 [.tmp 2] (Try.f51.body.getD .skip) := ⟨⟨Try.f51, by kernel_rfl, by kernel_rfl, by kernel_rfl, by kernel_rfl⟩, by kernel_rfl, by kernel_rfl⟩
def G_spec_l24Sunflower : Gm := Gm.none
theorem G_spec_l24Sunflower_ok : G_spec_l24Sunflower.ok Try.prog := Gm.none_ok
set_option maxHeartbeats 1000000 in
set_option maxRecDepth 100000 in
theorem runs_spec_l24Sunflower (xs : List Int) : ARuns Try.prog 51 [.sl none (.ints .i64 xs)] [] (.bool (sunC xs)) [] := by
  refine ARuns_bc G_spec_l24Sunflower_ok is_spec_l24Sunflower (by simp) fun hl hlB => ?_
  simp only [kcode_at, kreg_at, bc_skip, bc_seq, bc_cond, bc_block, bc_exit, bc_ret, bc_region, lkX_cons, acond_tmp, aCase_t, aCase_f, aCase_b, afin_nil, cvE_some, resL, resV, resC, cv, cvL, pack, entryE, inPrm, Option.getD_some, acall_clo, add_sp, add_lend, kcall_nil, selOf, selA, inArgs, inA, inL, okA, okL, okBx, okC, outA, outL, outU, outB, deep, deepL, boxIds, AV.bid, List.map_nil, List.map_cons, List.all_nil, List.all_cons, BEq.rfl, Bool.and_true, Bool.true_and, List.append_nil, aops_nil, aops_plain, aops_guard, kont_at, yes_at, no_at, aop_move, aop_assign, aop_pick, aop_alloc, aop_box, aop_build, aop_buildSlice, aop_load, aop_store, aop_nilCheck, aop_binOp, aop_unOp, aop_convert, aop_fieldAddr, aop_indexAddr, aop_slice, aop_extract, aop_makeSlice, aop_len, aop_max, aMax_int, slTy2, SC0, aop_append, aop_call, evalE, getE, putE, getB, setB, St.put, setsB, nth, AV.ofV, AV.blk, AV.bid, AV.one, SC.len, SC.get, List.length_nil, List.length_cons, Nat.reduceEqDiff, Nat.reduceAdd, ↓reduceIte, true_and, and_true, Bool.true_eq_false, Bool.false_eq_true, false_imp_iff, true_imp_iff, decide_eq_true_eq, Bool.not_eq_true', Bool.not_eq_false', decide_eq_false_iff_not, Option.isSome, List.nil_append, List.cons_append, aGuardO_some, aGuard_tt, aGuard_tf, aGuard_ft, aGuard_ff, aGuard_tb, aGuard_fb, aGuard_ts, aGuard_fs, aPick_b, aPick_t, aPick_f, aAlloc_one, aAlloc_flat, aBox_some, aBuild_flat, aInt_add, aBin_add, aInt_sub, aBin_sub, aInt_mul, aBin_mul, aInt_quo, aBin_quo, aInt_rem, aBin_rem, aInt_and, aBin_and, aInt_or, aBin_or, aInt_xor, aBin_xor, aInt_andNot, aBin_andNot, aInt_eql, aBin_eql, aInt_neq, aBin_neq, aInt_lss, aBin_lss, aInt_leq, aBin_leq, aInt_gtr, aBin_gtr, aInt_geq, aBin_geq, aBin_shl, aBin_shr, aShift_shl, aShift_shr, aBin_be1, aBin_bn1, aBin_be2, aBin_bn2, aBin_be3, aBin_bn3, aBin_be4, aBin_bn4, aBin_be5, aBin_bn5, aBin_be6, aBin_bn6, aBin_be7, aBin_bn7, aBin_be8, aBin_bn8, aBin_be9, aBin_bn9, aUn_b, aUn_t, aUn_f, aUn_i, aNil_ptr, aNil_pv, aConv_int, aField_ptr, aField_pv, aIdx_sl, aIdx_prm, aIdx_row, aIdx_drow, aMake_i, aMake_s, aExtr_tup, aLen_ref, aLen_nil, aLen_sl, aLen_prm, aLen_str, aBuildL_some, aBuildS_some, aLoad_1b, aLoad_1d, aLoad_fb, aLoad_fd, aLoad_1p, aLoad_fp, aLoad_ep, aLoad_rr, aLoad_rd, aStore_1, aStore_f, aStore_r, aApp_some, aAppend_nil, aAppend_ref, aSlice_h, aSlice_l, aSlice_lh, bc_draw, kregD_at, aopsD_nil, aopsD_plain, aopsD_guard, kontD_at, contD_at, yesD_at, noD_at, splD_bool, splD_undef, splD_skip, splD_int, splD_tt, splD_ff, splD_str, splD_nil, splD_sl, splD_prm, splD_ref, splD_ptr, splD_rp, splD_ep, splD_pv, splD_agg, splD_tup, splD_clo, gD_tt, gD_tf, gD_ft, gD_ff, gD_ts, gD_fs, slotO_some, addTr_nil, addTr_cons, memQ_nil, memQ_cons, clash_nil, clash_cons, regC_none, regC_nil, regC_cons, regR_nil, regR_cons, Int.toNat_zero, Int.toNat_one, rng0, rng1, rng2, rng3, rng4, SC.take, SC.drop, mp_nil, acond_ct, acond_cf, mp_one0, mp_one1, mp_one2, mp_one3, kcall_one, liveB_row, liveB_box, idx, cont, still, dies, lend, lendA, lendDies, snocs, SC.snoc, SC.app, meet, AV.cells, fillA, List.getD_cons_zero, List.getD_cons_succ, List.set_cons_zero, List.set_cons_succ, List.length_singleton, Nat.le_refl, Nat.lt_irrefl, Nat.reduceLT, Nat.reduceLeDiff, Option.map_some, Option.map_none, List.flatMap_nil, List.flatMap_cons, Nat.zero_add, BEq.rfl, sl3, ty3, un3, sl52, ty52, un52, sl59, ty59, un59, sl57, ty57, un57, sl5, ty5, un5, sl2, ty2, un2, sl21, ty21, un21, sl4, ty4, un4, sl9, un9, sl22, ty22, un22, ty30, sl30, ty33, sl33, inR64, inRu64, inRu32, Try.f51]
  simp only [lensA, lenA, lenSC] at hl
  refine bc_loop (fun i : Nat => i ≤ xs.length ∧ ∀ k, k < i → (allN k fun j => coreAt xs k j) = true)
    (fun i => ⟨[(0, .prm 0 (.ints .i64 xs)), (3, .int .i64 i)], []⟩) (fun i => xs.length - i)
    [0, 3] [] 0 rfl rfl (by simp) fun i ⟨h1, h2⟩ => ?_
  simp only [kcode_at, kreg_at, bc_skip, bc_seq, bc_cond, bc_block, bc_exit, bc_ret, bc_region, lkX_cons, acond_tmp, aCase_t, aCase_f, aCase_b, afin_nil, cvE_some, resL, resV, resC, cv, cvL, pack, entryE, inPrm, Option.getD_some, acall_clo, add_sp, add_lend, kcall_nil, selOf, selA, inArgs, inA, inL, okA, okL, okBx, okC, outA, outL, outU, outB, deep, deepL, boxIds, AV.bid, List.map_nil, List.map_cons, List.all_nil, List.all_cons, BEq.rfl, Bool.and_true, Bool.true_and, List.append_nil, aops_nil, aops_plain, aops_guard, kont_at, yes_at, no_at, aop_move, aop_assign, aop_pick, aop_alloc, aop_box, aop_build, aop_buildSlice, aop_load, aop_store, aop_nilCheck, aop_binOp, aop_unOp, aop_convert, aop_fieldAddr, aop_indexAddr, aop_slice, aop_extract, aop_makeSlice, aop_len, aop_max, aMax_int, slTy2, SC0, aop_append, aop_call, evalE, getE, putE, getB, setB, St.put, setsB, nth, AV.ofV, AV.blk, AV.bid, AV.one, SC.len, SC.get, List.length_nil, List.length_cons, Nat.reduceEqDiff, Nat.reduceAdd, ↓reduceIte, true_and, and_true, Bool.true_eq_false, Bool.false_eq_true, false_imp_iff, true_imp_iff, decide_eq_true_eq, Bool.not_eq_true', Bool.not_eq_false', decide_eq_false_iff_not, Option.isSome, List.nil_append, List.cons_append, aGuardO_some, aGuard_tt, aGuard_tf, aGuard_ft, aGuard_ff, aGuard_tb, aGuard_fb, aGuard_ts, aGuard_fs, aPick_b, aPick_t, aPick_f, aAlloc_one, aAlloc_flat, aBox_some, aBuild_flat, aInt_add, aBin_add, aInt_sub, aBin_sub, aInt_mul, aBin_mul, aInt_quo, aBin_quo, aInt_rem, aBin_rem, aInt_and, aBin_and, aInt_or, aBin_or, aInt_xor, aBin_xor, aInt_andNot, aBin_andNot, aInt_eql, aBin_eql, aInt_neq, aBin_neq, aInt_lss, aBin_lss, aInt_leq, aBin_leq, aInt_gtr, aBin_gtr, aInt_geq, aBin_geq, aBin_shl, aBin_shr, aShift_shl, aShift_shr, aBin_be1, aBin_bn1, aBin_be2, aBin_bn2, aBin_be3, aBin_bn3, aBin_be4, aBin_bn4, aBin_be5, aBin_bn5, aBin_be6, aBin_bn6, aBin_be7, aBin_bn7, aBin_be8, aBin_bn8, aBin_be9, aBin_bn9, aUn_b, aUn_t, aUn_f, aUn_i, aNil_ptr, aNil_pv, aConv_int, aField_ptr, aField_pv, aIdx_sl, aIdx_prm, aIdx_row, aIdx_drow, aMake_i, aMake_s, aExtr_tup, aLen_ref, aLen_nil, aLen_sl, aLen_prm, aLen_str, aBuildL_some, aBuildS_some, aLoad_1b, aLoad_1d, aLoad_fb, aLoad_fd, aLoad_1p, aLoad_fp, aLoad_ep, aLoad_rr, aLoad_rd, aStore_1, aStore_f, aStore_r, aApp_some, aAppend_nil, aAppend_ref, aSlice_h, aSlice_l, aSlice_lh, bc_draw, kregD_at, aopsD_nil, aopsD_plain, aopsD_guard, kontD_at, contD_at, yesD_at, noD_at, splD_bool, splD_undef, splD_skip, splD_int, splD_tt, splD_ff, splD_str, splD_nil, splD_sl, splD_prm, splD_ref, splD_ptr, splD_rp, splD_ep, splD_pv, splD_agg, splD_tup, splD_clo, gD_tt, gD_tf, gD_ft, gD_ff, gD_ts, gD_fs, slotO_some, addTr_nil, addTr_cons, memQ_nil, memQ_cons, clash_nil, clash_cons, regC_none, regC_nil, regC_cons, regR_nil, regR_cons, Int.toNat_zero, Int.toNat_one, rng0, rng1, rng2, rng3, rng4, SC.take, SC.drop, mp_nil, acond_ct, acond_cf, mp_one0, mp_one1, mp_one2, mp_one3, kcall_one, liveB_row, liveB_box, idx, cont, still, dies, lend, lendA, lendDies, snocs, SC.snoc, SC.app, meet, AV.cells, fillA, List.getD_cons_zero, List.getD_cons_succ, List.set_cons_zero, List.set_cons_succ, List.length_singleton, Nat.le_refl, Nat.lt_irrefl, Nat.reduceLT, Nat.reduceLeDiff, Option.map_some, Option.map_none, List.flatMap_nil, List.flatMap_cons, Nat.zero_add, BEq.rfl, sl3, ty3, un3, sl52, ty52, un52, sl59, ty59, un59, sl57, ty57, un57, sl5, ty5, un5, sl2, ty2, un2, sl21, ty21, un21, sl4, ty4, un4, sl9, un9, sl22, ty22, un22, ty30, sl30, ty33, sl33, inR64, inRu64, inRu32, Int.toNat_natCast]
  refine ⟨fun hi => ?_, fun hi => ?_⟩
  rotate_left
  · have : i = xs.length := by omega
    subst this
    rw [sunC, allN_t h2]
  refine bc_loop (fun j : Nat => j ≤ i ∧ ∀ k, k < j → coreAt xs i k = true)
    (fun j => ⟨[(0, .prm 0 (.ints .i64 xs)), (3, .int .i64 i), (4, .int .i64 j)], []⟩) (fun j => i - j)
    [0, 3, 4] [] 0 rfl rfl (by simp) fun j ⟨h3, h4⟩ => ?_
  simp only [kcode_at, kreg_at, bc_skip, bc_seq, bc_cond, bc_block, bc_exit, bc_ret, bc_region, lkX_cons, acond_tmp, aCase_t, aCase_f, aCase_b, afin_nil, cvE_some, resL, resV, resC, cv, cvL, pack, entryE, inPrm, Option.getD_some, acall_clo, add_sp, add_lend, kcall_nil, selOf, selA, inArgs, inA, inL, okA, okL, okBx, okC, outA, outL, outU, outB, deep, deepL, boxIds, AV.bid, List.map_nil, List.map_cons, List.all_nil, List.all_cons, BEq.rfl, Bool.and_true, Bool.true_and, List.append_nil, aops_nil, aops_plain, aops_guard, kont_at, yes_at, no_at, aop_move, aop_assign, aop_pick, aop_alloc, aop_box, aop_build, aop_buildSlice, aop_load, aop_store, aop_nilCheck, aop_binOp, aop_unOp, aop_convert, aop_fieldAddr, aop_indexAddr, aop_slice, aop_extract, aop_makeSlice, aop_len, aop_max, aMax_int, slTy2, SC0, aop_append, aop_call, evalE, getE, putE, getB, setB, St.put, setsB, nth, AV.ofV, AV.blk, AV.bid, AV.one, SC.len, SC.get, List.length_nil, List.length_cons, Nat.reduceEqDiff, Nat.reduceAdd, ↓reduceIte, true_and, and_true, Bool.true_eq_false, Bool.false_eq_true, false_imp_iff, true_imp_iff, decide_eq_true_eq, Bool.not_eq_true', Bool.not_eq_false', decide_eq_false_iff_not, Option.isSome, List.nil_append, List.cons_append, aGuardO_some, aGuard_tt, aGuard_tf, aGuard_ft, aGuard_ff, aGuard_tb, aGuard_fb, aGuard_ts, aGuard_fs, aPick_b, aPick_t, aPick_f, aAlloc_one, aAlloc_flat, aBox_some, aBuild_flat, aInt_add, aBin_add, aInt_sub, aBin_sub, aInt_mul, aBin_mul, aInt_quo, aBin_quo, aInt_rem, aBin_rem, aInt_and, aBin_and, aInt_or, aBin_or, aInt_xor, aBin_xor, aInt_andNot, aBin_andNot, aInt_eql, aBin_eql, aInt_neq, aBin_neq, aInt_lss, aBin_lss, aInt_leq, aBin_leq, aInt_gtr, aBin_gtr, aInt_geq, aBin_geq, aBin_shl, aBin_shr, aShift_shl, aShift_shr, aBin_be1, aBin_bn1, aBin_be2, aBin_bn2, aBin_be3, aBin_bn3, aBin_be4, aBin_bn4, aBin_be5, aBin_bn5, aBin_be6, aBin_bn6, aBin_be7, aBin_bn7, aBin_be8, aBin_bn8, aBin_be9, aBin_bn9, aUn_b, aUn_t, aUn_f, aUn_i, aNil_ptr, aNil_pv, aConv_int, aField_ptr, aField_pv, aIdx_sl, aIdx_prm, aIdx_row, aIdx_drow, aMake_i, aMake_s, aExtr_tup, aLen_ref, aLen_nil, aLen_sl, aLen_prm, aLen_str, aBuildL_some, aBuildS_some, aLoad_1b, aLoad_1d, aLoad_fb, aLoad_fd, aLoad_1p, aLoad_fp, aLoad_ep, aLoad_rr, aLoad_rd, aStore_1, aStore_f, aStore_r, aApp_some, aAppend_nil, aAppend_ref, aSlice_h, aSlice_l, aSlice_lh, bc_draw, kregD_at, aopsD_nil, aopsD_plain, aopsD_guard, kontD_at, contD_at, yesD_at, noD_at, splD_bool, splD_undef, splD_skip, splD_int, splD_tt, splD_ff, splD_str, splD_nil, splD_sl, splD_prm, splD_ref, splD_ptr, splD_rp, splD_ep, splD_pv, splD_agg, splD_tup, splD_clo, gD_tt, gD_tf, gD_ft, gD_ff, gD_ts, gD_fs, slotO_some, addTr_nil, addTr_cons, memQ_nil, memQ_cons, clash_nil, clash_cons, regC_none, regC_nil, regC_cons, regR_nil, regR_cons, Int.toNat_zero, Int.toNat_one, rng0, rng1, rng2, rng3, rng4, SC.take, SC.drop, mp_nil, acond_ct, acond_cf, mp_one0, mp_one1, mp_one2, mp_one3, kcall_one, liveB_row, liveB_box, idx, cont, still, dies, lend, lendA, lendDies, snocs, SC.snoc, SC.app, meet, AV.cells, fillA, List.getD_cons_zero, List.getD_cons_succ, List.set_cons_zero, List.set_cons_succ, List.length_singleton, Nat.le_refl, Nat.lt_irrefl, Nat.reduceLT, Nat.reduceLeDiff, Option.map_some, Option.map_none, List.flatMap_nil, List.flatMap_cons, Nat.zero_add, BEq.rfl, sl3, ty3, un3, sl52, ty52, un52, sl59, ty59, un59, sl57, ty57, un57, sl5, ty5, un5, sl2, ty2, un2, sl21, ty21, un21, sl4, ty4, un4, sl9, un9, sl22, ty22, un22, ty30, sl30, ty33, sl33, inR64, inRu64, inRu32, Int.toNat_natCast]
  have ec : band .i64 (xs.getD 0 0) (xs.getD 1 0) = core xs := rfl
  rw [ec]
  refine ⟨fun hj => ⟨by omega, by omega, by omega, by omega, fun he => ?_, fun he => ⟨by omega, ?_⟩⟩, fun hj => ⟨by omega, ?_⟩⟩
  · rw [sunC, allN_f i (by omega) (allN_f j (by omega) (by cases hh : coreAt xs i j with
      | false => rfl
      | true => exact absurd (coreAt_iff.1 hh) he))]
  · exact klp_of (j + 1) rfl ⟨by omega, upto_succ h4 (coreAt_iff.2 he)⟩ (by omega)
  · exact klp_of (i + 1) rfl ⟨by omega, upto_succ h2 (allN_t fun k hk => h4 k (by omega))⟩ (by omega)
def lend_spec_l24Sunflower : List Nat := []
def sp_spec_l24Sunflower : List AV → List Bx → (AV → List Bx → Prop) → Prop
  | [.sl none (.ints .i64 xs)], [], K => K (.bool (sunC xs)) []
  | _, _, _ => False
theorem at_spec_l24Sunflower {xs : List Int} {K : AV → List Bx → Prop} : sp_spec_l24Sunflower [.sl none (.ints .i64 xs)] [] K = (K (.bool (sunC xs)) []) := id rfl
theorem ok_spec_l24Sunflower : ∀ args giv K, sp_spec_l24Sunflower args giv K → ∃ r outs, ARuns Try.prog 51 args giv r outs ∧ K r outs := by
  intro args giv K hk
  unfold sp_spec_l24Sunflower at hk
  split at hk
  · exact ⟨_, _, runs_spec_l24Sunflower _ , hk⟩
  · exact hk.elim
theorem is_spec_IsSunflower : FnIs Try.prog 19 9 [.tmp 2] (Try.f19.body.getD .skip) := ⟨⟨Try.f19, by kernel_rfl, by kernel_rfl, by kernel_rfl, by kernel_rfl⟩, by kernel_rfl, by kernel_rfl⟩
def G_spec_IsSunflower : Gm := ((Gm.none.add 50 lend_spec_l24Valid sp_spec_l24Valid).add 51 lend_spec_l24Sunflower sp_spec_l24Sunflower)
theorem G_spec_IsSunflower_ok : G_spec_IsSunflower.ok Try.prog := (Gm.add_ok (Gm.add_ok Gm.none_ok ok_spec_l24Valid) ok_spec_l24Sunflower)
theorem gs_spec_IsSunflower_50 : G_spec_IsSunflower.sp 50 = sp_spec_l24Valid ∧ G_spec_IsSunflower.lend 50 = lend_spec_l24Valid := ⟨rfl, rfl⟩
theorem gs_spec_IsSunflower_51 : G_spec_IsSunflower.sp 51 = sp_spec_l24Sunflower ∧ G_spec_IsSunflower.lend 51 = lend_spec_l24Sunflower := ⟨rfl, rfl⟩
set_option maxHeartbeats 1000000 in
set_option maxRecDepth 100000 in
theorem runs_spec_IsSunflower (xs : List Int) : ARuns Try.prog 19 [.sl none (.ints .i64 xs)] [] (.bool (sunB xs)) [] := by
  refine ARuns_bc G_spec_IsSunflower_ok is_spec_IsSunflower (by simp) fun hl hlB => ?_
  simp only [kcode_at, kreg_at, bc_skip, bc_seq, bc_cond, bc_block, bc_exit, bc_ret, bc_region, lkX_cons, acond_tmp, aCase_t, aCase_f, aCase_b, afin_nil, cvE_some, resL, resV, resC, cv, cvL, pack, entryE, inPrm, Option.getD_some, acall_clo, add_sp, add_lend, kcall_nil, selOf, selA, inArgs, inA, inL, okA, okL, okBx, okC, outA, outL, outU, outB, deep, deepL, boxIds, AV.bid, List.map_nil, List.map_cons, List.all_nil, List.all_cons, BEq.rfl, Bool.and_true, Bool.true_and, List.append_nil, aops_nil, aops_plain, aops_guard, kont_at, yes_at, no_at, aop_move, aop_assign, aop_pick, aop_alloc, aop_box, aop_build, aop_buildSlice, aop_load, aop_store, aop_nilCheck, aop_binOp, aop_unOp, aop_convert, aop_fieldAddr, aop_indexAddr, aop_slice, aop_extract, aop_makeSlice, aop_len, aop_max, aMax_int, slTy2, SC0, aop_append, aop_call, evalE, getE, putE, getB, setB, St.put, setsB, nth, AV.ofV, AV.blk, AV.bid, AV.one, SC.len, SC.get, List.length_nil, List.length_cons, Nat.reduceEqDiff, Nat.reduceAdd, ↓reduceIte, true_and, and_true, Bool.true_eq_false, Bool.false_eq_true, false_imp_iff, true_imp_iff, decide_eq_true_eq, Bool.not_eq_true', Bool.not_eq_false', decide_eq_false_iff_not, Option.isSome, List.nil_append, List.cons_append, aGuardO_some, aGuard_tt, aGuard_tf, aGuard_ft, aGuard_ff, aGuard_tb, aGuard_fb, aGuard_ts, aGuard_fs, aPick_b, aPick_t, aPick_f, aAlloc_one, aAlloc_flat, aBox_some, aBuild_flat, aInt_add, aBin_add, aInt_sub, aBin_sub, aInt_mul, aBin_mul, aInt_quo, aBin_quo, aInt_rem, aBin_rem, aInt_and, aBin_and, aInt_or, aBin_or, aInt_xor, aBin_xor, aInt_andNot, aBin_andNot, aInt_eql, aBin_eql, aInt_neq, aBin_neq, aInt_lss, aBin_lss, aInt_leq, aBin_leq, aInt_gtr, aBin_gtr, aInt_geq, aBin_geq, aBin_shl, aBin_shr, aShift_shl, aShift_shr, aBin_be1, aBin_bn1, aBin_be2, aBin_bn2, aBin_be3, aBin_bn3, aBin_be4, aBin_bn4, aBin_be5, aBin_bn5, aBin_be6, aBin_bn6, aBin_be7, aBin_bn7, aBin_be8, aBin_bn8, aBin_be9, aBin_bn9, aUn_b, aUn_t, aUn_f, aUn_i, aNil_ptr, aNil_pv, aConv_int, aField_ptr, aField_pv, aIdx_sl, aIdx_prm, aIdx_row, aIdx_drow, aMake_i, aMake_s, aExtr_tup, aLen_ref, aLen_nil, aLen_sl, aLen_prm, aLen_str, aBuildL_some, aBuildS_some, aLoad_1b, aLoad_1d, aLoad_fb, aLoad_fd, aLoad_1p, aLoad_fp, aLoad_ep, aLoad_rr, aLoad_rd, aStore_1, aStore_f, aStore_r, aApp_some, aAppend_nil, aAppend_ref, aSlice_h, aSlice_l, aSlice_lh, bc_draw, kregD_at, aopsD_nil, aopsD_plain, aopsD_guard, kontD_at, contD_at, yesD_at, noD_at, splD_bool, splD_undef, splD_skip, splD_int, splD_tt, splD_ff, splD_str, splD_nil, splD_sl, splD_prm, splD_ref, splD_ptr, splD_rp, splD_ep, splD_pv, splD_agg, splD_tup, splD_clo, gD_tt, gD_tf, gD_ft, gD_ff, gD_ts, gD_fs, slotO_some, addTr_nil, addTr_cons, memQ_nil, memQ_cons, clash_nil, clash_cons, regC_none, regC_nil, regC_cons, regR_nil, regR_cons, Int.toNat_zero, Int.toNat_one, rng0, rng1, rng2, rng3, rng4, SC.take, SC.drop, mp_nil, acond_ct, acond_cf, mp_one0, mp_one1, mp_one2, mp_one3, kcall_one, liveB_row, liveB_box, idx, cont, still, dies, lend, lendA, lendDies, snocs, SC.snoc, SC.app, meet, AV.cells, fillA, List.getD_cons_zero, List.getD_cons_succ, List.set_cons_zero, List.set_cons_succ, List.length_singleton, Nat.le_refl, Nat.lt_irrefl, Nat.reduceLT, Nat.reduceLeDiff, Option.map_some, Option.map_none, List.flatMap_nil, List.flatMap_cons, Nat.zero_add, BEq.rfl, sl3, ty3, un3, sl52, ty52, un52, sl59, ty59, un59, sl57, ty57, un57, sl5, ty5, un5, sl2, ty2, un2, sl21, ty21, un21, sl4, ty4, un4, sl9, un9, sl22, ty22, un22, ty30, sl30, ty33, sl33, inR64, inRu64, inRu32, gs_spec_IsSunflower_50, at_spec_l24Valid, lend_spec_l24Valid, gs_spec_IsSunflower_51, at_spec_l24Sunflower, lend_spec_l24Sunflower, Try.f19]
  refine ⟨fun h => ?_, fun h => ?_⟩ <;> simp [sunB, h]
def lend_spec_IsSunflower : List Nat := []
def sp_spec_IsSunflower : List AV → List Bx → (AV → List Bx → Prop) → Prop
  | [.sl none (.ints .i64 xs)], [], K => K (.bool (sunB xs)) []
  | _, _, _ => False
theorem at_spec_IsSunflower {xs : List Int} {K : AV → List Bx → Prop} : sp_spec_IsSunflower [.sl none (.ints .i64 xs)] [] K = (K (.bool (sunB xs)) []) := id rfl
theorem ok_spec_IsSunflower : ∀ args giv K, sp_spec_IsSunflower args giv K → ∃ r outs, ARuns Try.prog 19 args giv r outs ∧ K r outs := by
  intro args giv K hk
  unfold sp_spec_IsSunflower at hk
  split at hk
  · exact ⟨_, _, runs_spec_IsSunflower _ , hk⟩
  · exact hk.elim
theorem is_spec_KernelOf : FnIs Try.prog 21 19 [.tmp 2, .tmp 3] (Try.f21.body.getD .skip) := ⟨⟨Try.f21, by kernel_rfl, by kernel_rfl, by kernel_rfl, by kernel_rfl⟩, by kernel_rfl, by kernel_rfl⟩
def G_spec_KernelOf : Gm := (Gm.none.add 19 lend_spec_IsSunflower sp_spec_IsSunflower)
theorem G_spec_KernelOf_ok : G_spec_KernelOf.ok Try.prog := (Gm.add_ok Gm.none_ok ok_spec_IsSunflower)
theorem gs_spec_KernelOf_19 : G_spec_KernelOf.sp 19 = sp_spec_IsSunflower ∧ G_spec_KernelOf.lend 19 = lend_spec_IsSunflower := ⟨rfl, rfl⟩
set_option maxHeartbeats 1000000 in
set_option maxRecDepth 100000 in
theorem runs_spec_KernelOf (xs : List Int) : ARuns Try.prog 21 [.sl none (.ints .i64 xs)] [] (.tup [.int .i64 (kernI xs), .bool (kernOk xs)]) [] := by
  refine ARuns_bc G_spec_KernelOf_ok is_spec_KernelOf (by simp) fun hl hlB => ?_
  simp only [kcode_at, kreg_at, bc_skip, bc_seq, bc_cond, bc_block, bc_exit, bc_ret, bc_region, lkX_cons, acond_tmp, aCase_t, aCase_f, aCase_b, afin_nil, cvE_some, resL, resV, resC, cv, cvL, pack, entryE, inPrm, Option.getD_some, acall_clo, add_sp, add_lend, kcall_nil, selOf, selA, inArgs, inA, inL, okA, okL, okBx, okC, outA, outL, outU, outB, deep, deepL, boxIds, AV.bid, List.map_nil, List.map_cons, List.all_nil, List.all_cons, BEq.rfl, Bool.and_true, Bool.true_and, List.append_nil, aops_nil, aops_plain, aops_guard, kont_at, yes_at, no_at, aop_move, aop_assign, aop_pick, aop_alloc, aop_box, aop_build, aop_buildSlice, aop_load, aop_store, aop_nilCheck, aop_binOp, aop_unOp, aop_convert, aop_fieldAddr, aop_indexAddr, aop_slice, aop_extract, aop_makeSlice, aop_len, aop_max, aMax_int, slTy2, SC0, aop_append, aop_call, evalE, getE, putE, getB, setB, St.put, setsB, nth, AV.ofV, AV.blk, AV.bid, AV.one, SC.len, SC.get, List.length_nil, List.length_cons, Nat.reduceEqDiff, Nat.reduceAdd, ↓reduceIte, true_and, and_true, Bool.true_eq_false, Bool.false_eq_true, false_imp_iff, true_imp_iff, decide_eq_true_eq, Bool.not_eq_true', Bool.not_eq_false', decide_eq_false_iff_not, Option.isSome, List.nil_append, List.cons_append, aGuardO_some, aGuard_tt, aGuard_tf, aGuard_ft, aGuard_ff, aGuard_tb, aGuard_fb, aGuard_ts, aGuard_fs, aPick_b, aPick_t, aPick_f, aAlloc_one, aAlloc_flat, aBox_some, aBuild_flat, aInt_add, aBin_add, aInt_sub, aBin_sub, aInt_mul, aBin_mul, aInt_quo, aBin_quo, aInt_rem, aBin_rem, aInt_and, aBin_and, aInt_or, aBin_or, aInt_xor, aBin_xor, aInt_andNot, aBin_andNot, aInt_eql, aBin_eql, aInt_neq, aBin_neq, aInt_lss, aBin_lss, aInt_leq, aBin_leq, aInt_gtr, aBin_gtr, aInt_geq, aBin_geq, aBin_shl, aBin_shr, aShift_shl, aShift_shr, aBin_be1, aBin_bn1, aBin_be2, aBin_bn2, aBin_be3, aBin_bn3, aBin_be4, aBin_bn4, aBin_be5, aBin_bn5, aBin_be6, aBin_bn6, aBin_be7, aBin_bn7, aBin_be8, aBin_bn8, aBin_be9, aBin_bn9, aUn_b, aUn_t, aUn_f, aUn_i, aNil_ptr, aNil_pv, aConv_int, aField_ptr, aField_pv, aIdx_sl, aIdx_prm, aIdx_row, aIdx_drow, aMake_i, aMake_s, aExtr_tup, aLen_ref, aLen_nil, aLen_sl, aLen_prm, aLen_str, aBuildL_some, aBuildS_some, aLoad_1b, aLoad_1d, aLoad_fb, aLoad_fd, aLoad_1p, aLoad_fp, aLoad_ep, aLoad_rr, aLoad_rd, aStore_1, aStore_f, aStore_r, aApp_some, aAppend_nil, aAppend_ref, aSlice_h, aSlice_l, aSlice_lh, bc_draw, kregD_at, aopsD_nil, aopsD_plain, aopsD_guard, kontD_at, contD_at, yesD_at, noD_at, splD_bool, splD_undef, splD_skip, splD_int, splD_tt, splD_ff, splD_str, splD_nil, splD_sl, splD_prm, splD_ref, splD_ptr, splD_rp, splD_ep, splD_pv, splD_agg, splD_tup, splD_clo, gD_tt, gD_tf, gD_ft, gD_ff, gD_ts, gD_fs, slotO_some, addTr_nil, addTr_cons, memQ_nil, memQ_cons, clash_nil, clash_cons, regC_none, regC_nil, regC_cons, regR_nil, regR_cons, Int.toNat_zero, Int.toNat_one, rng0, rng1, rng2, rng3, rng4, SC.take, SC.drop, mp_nil, acond_ct, acond_cf, mp_one0, mp_one1, mp_one2, mp_one3, kcall_one, liveB_row, liveB_box, idx, cont, still, dies, lend, lendA, lendDies, snocs, SC.snoc, SC.app, meet, AV.cells, fillA, List.getD_cons_zero, List.getD_cons_succ, List.set_cons_zero, List.set_cons_succ, List.length_singleton, Nat.le_refl, Nat.lt_irrefl, Nat.reduceLT, Nat.reduceLeDiff, Option.map_some, Option.map_none, List.flatMap_nil, List.flatMap_cons, Nat.zero_add, BEq.rfl, sl3, ty3, un3, sl52, ty52, un52, sl59, ty59, un59, sl57, ty57, un57, sl5, ty5, un5, sl2, ty2, un2, sl21, ty21, un21, sl4, ty4, un4, sl9, un9, sl22, ty22, un22, ty30, sl30, ty33, sl33, inR64, inRu64, inRu32, gs_spec_KernelOf_19, at_spec_IsSunflower, lend_spec_IsSunflower, Try.f21]
  simp only [lensA, lenA, lenSC] at hl
  refine ⟨fun h => ?_, fun h => ⟨fun h2 => ?_, fun h2 => ⟨by omega, by omega, ?_⟩⟩⟩
  · have := kern_f (xs := xs) (fun x => by rw [x.2] at h; cases h)
    rw [this.1, this.2]
  · have := kern_f (xs := xs) (fun x => by omega)
    rw [this.1, this.2]
  · have := kern_t (xs := xs) ⟨by omega, h⟩
    rw [this.1, this.2]; rfl
def lend_spec_KernelOf : List Nat := []
def sp_spec_KernelOf : List AV → List Bx → (AV → List Bx → Prop) → Prop
  | [.sl none (.ints .i64 xs)], [], K => K (.tup [.int .i64 (kernI xs), .bool (kernOk xs)]) []
  | _, _, _ => False
theorem at_spec_KernelOf {xs : List Int} {K : AV → List Bx → Prop} : sp_spec_KernelOf [.sl none (.ints .i64 xs)] [] K = (K (.tup [.int .i64 (kernI xs), .bool (kernOk xs)]) []) := id rfl
theorem ok_spec_KernelOf : ∀ args giv K, sp_spec_KernelOf args giv K → ∃ r outs, ARuns Try.prog 21 args giv r outs ∧ K r outs := by
  intro args giv K hk
  unfold sp_spec_KernelOf at hk
  split at hk
  · exact ⟨_, _, runs_spec_KernelOf _ , hk⟩
  · exact hk.elim
theorem is_impl_isSetOf : FnIs Try.prog 71 14 [.tmp 4] (Try.f71.body.getD .skip) := ⟨⟨Try.f71, by kernel_rfl, by kernel_rfl, by kernel_rfl, by kernel_rfl⟩, by kernel_rfl, by kernel_rfl⟩
def G_impl_isSetOf : Gm := Gm.none
theorem G_impl_isSetOf_ok : G_impl_isSetOf.ok Try.prog := Gm.none_ok
set_option maxHeartbeats 1000000 in
set_option maxRecDepth 100000 in
theorem runs_impl_isSetOf (n s : Int) (hp1 : 0 ≤ n ∧ n ≤ 62) : ARuns Try.prog 71 [.int .i64 n, .int .i64 s] [] (.bool (inS n s)) [] := by
  refine ARuns_bc G_impl_isSetOf_ok is_impl_isSetOf (by simp) fun hl hlB => ?_
  simp only [kcode_at, kreg_at, bc_skip, bc_seq, bc_cond, bc_block, bc_exit, bc_ret, bc_region, lkX_cons, acond_tmp, aCase_t, aCase_f, aCase_b, afin_nil, cvE_some, resL, resV, resC, cv, cvL, pack, entryE, inPrm, Option.getD_some, acall_clo, add_sp, add_lend, kcall_nil, selOf, selA, inArgs, inA, inL, okA, okL, okBx, okC, outA, outL, outU, outB, deep, deepL, boxIds, AV.bid, List.map_nil, List.map_cons, List.all_nil, List.all_cons, BEq.rfl, Bool.and_true, Bool.true_and, List.append_nil, aops_nil, aops_plain, aops_guard, kont_at, yes_at, no_at, aop_move, aop_assign, aop_pick, aop_alloc, aop_box, aop_build, aop_buildSlice, aop_load, aop_store, aop_nilCheck, aop_binOp, aop_unOp, aop_convert, aop_fieldAddr, aop_indexAddr, aop_slice, aop_extract, aop_makeSlice, aop_len, aop_max, aMax_int, slTy2, SC0, aop_append, aop_call, evalE, getE, putE, getB, setB, St.put, setsB, nth, AV.ofV, AV.blk, AV.bid, AV.one, SC.len, SC.get, List.length_nil, List.length_cons, Nat.reduceEqDiff, Nat.reduceAdd, ↓reduceIte, true_and, and_true, Bool.true_eq_false, Bool.false_eq_true, false_imp_iff, true_imp_iff, decide_eq_true_eq, Bool.not_eq_true', Bool.not_eq_false', decide_eq_false_iff_not, Option.isSome, List.nil_append, List.cons_append, aGuardO_some, aGuard_tt, aGuard_tf, aGuard_ft, aGuard_ff, aGuard_tb, aGuard_fb, aGuard_ts, aGuard_fs, aPick_b, aPick_t, aPick_f, aAlloc_one, aAlloc_flat, aBox_some, aBuild_flat, aInt_add, aBin_add, aInt_sub, aBin_sub, aInt_mul, aBin_mul, aInt_quo, aBin_quo, aInt_rem, aBin_rem, aInt_and, aBin_and, aInt_or, aBin_or, aInt_xor, aBin_xor, aInt_andNot, aBin_andNot, aInt_eql, aBin_eql, aInt_neq, aBin_neq, aInt_lss, aBin_lss, aInt_leq, aBin_leq, aInt_gtr, aBin_gtr, aInt_geq, aBin_geq, aBin_shl, aBin_shr, aShift_shl, aShift_shr, aBin_be1, aBin_bn1, aBin_be2, aBin_bn2, aBin_be3, aBin_bn3, aBin_be4, aBin_bn4, aBin_be5, aBin_bn5, aBin_be6, aBin_bn6, aBin_be7, aBin_bn7, aBin_be8, aBin_bn8, aBin_be9, aBin_bn9, aUn_b, aUn_t, aUn_f, aUn_i, aNil_ptr, aNil_pv, aConv_int, aField_ptr, aField_pv, aIdx_sl, aIdx_prm, aIdx_row, aIdx_drow, aMake_i, aMake_s, aExtr_tup, aLen_ref, aLen_nil, aLen_sl, aLen_prm, aLen_str, aBuildL_some, aBuildS_some, aLoad_1b, aLoad_1d, aLoad_fb, aLoad_fd, aLoad_1p, aLoad_fp, aLoad_ep, aLoad_rr, aLoad_rd, aStore_1, aStore_f, aStore_r, aApp_some, aAppend_nil, aAppend_ref, aSlice_h, aSlice_l, aSlice_lh, bc_draw, kregD_at, aopsD_nil, aopsD_plain, aopsD_guard, kontD_at, contD_at, yesD_at, noD_at, splD_bool, splD_undef, splD_skip, splD_int, splD_tt, splD_ff, splD_str, splD_nil, splD_sl, splD_prm, splD_ref, splD_ptr, splD_rp, splD_ep, splD_pv, splD_agg, splD_tup, splD_clo, gD_tt, gD_tf, gD_ft, gD_ff, gD_ts, gD_fs, slotO_some, addTr_nil, addTr_cons, memQ_nil, memQ_cons, clash_nil, clash_cons, regC_none, regC_nil, regC_cons, regR_nil, regR_cons, Int.toNat_zero, Int.toNat_one, rng0, rng1, rng2, rng3, rng4, SC.take, SC.drop, mp_nil, acond_ct, acond_cf, mp_one0, mp_one1, mp_one2, mp_one3, kcall_one, liveB_row, liveB_box, idx, cont, still, dies, lend, lendA, lendDies, snocs, SC.snoc, SC.app, meet, AV.cells, fillA, List.getD_cons_zero, List.getD_cons_succ, List.set_cons_zero, List.set_cons_succ, List.length_singleton, Nat.le_refl, Nat.lt_irrefl, Nat.reduceLT, Nat.reduceLeDiff, Option.map_some, Option.map_none, List.flatMap_nil, List.flatMap_cons, Nat.zero_add, BEq.rfl, sl3, ty3, un3, sl52, ty52, un52, sl59, ty59, un59, sl57, ty57, un57, sl5, ty5, un5, sl2, ty2, un2, sl21, ty21, un21, sl4, ty4, un4, sl9, un9, sl22, ty22, un22, ty30, sl30, ty33, sl33, inR64, inRu64, inRu32, Try.f71]
  have hb : (2 : Int) ^ n.toNat ≤ 2 ^ 62 := by
    have : (2 : Nat) ^ n.toNat ≤ 2 ^ 62 := Nat.pow_le_pow_right (by omega) (by omega)
    have h := Int.ofNat_le.2 this
    simpa using h
  have h0 : (0 : Int) ≤ 2 ^ n.toNat := Int.pow_nonneg (by omega)
  have e : inS n s = (decide (0 ≤ s) && decide (s ≤ 2 ^ n.toNat - 1)) := rfl
  rw [e]
  simp only [IntKind.bits]
  generalize (2 : Int) ^ n.toNat = q at *
  refine ⟨fun h => ⟨by omega, by omega, ?_⟩, fun h => ?_⟩
  · congr 1; rw [Bool.eq_iff_iff]; simp; omega
  · congr 1; rw [Bool.eq_iff_iff]; simp; omega
def lend_impl_isSetOf : List Nat := []
def sp_impl_isSetOf : List AV → List Bx → (AV → List Bx → Prop) → Prop
  | [.int .i64 n, .int .i64 s], [], K => (0 ≤ n ∧ n ≤ 62) ∧ K (.bool (inS n s)) []
  | _, _, _ => False
theorem at_impl_isSetOf {n s : Int} {K : AV → List Bx → Prop} : sp_impl_isSetOf [.int .i64 n, .int .i64 s] [] K = ((0 ≤ n ∧ n ≤ 62) ∧ K (.bool (inS n s)) []) := id rfl
theorem ok_impl_isSetOf : ∀ args giv K, sp_impl_isSetOf args giv K → ∃ r outs, ARuns Try.prog 71 args giv r outs ∧ K r outs := by
  intro args giv K hk
  unfold sp_impl_isSetOf at hk
  split at hk
  · obtain ⟨hp1, hk⟩ := hk; exact ⟨_, _, runs_impl_isSetOf _ _ hp1, hk⟩
  · exact hk.elim
theorem is_impl_within : FnIs Try.prog 73 15 [.tmp 6] (Try.f73.body.getD .skip) := ⟨⟨Try.f73, by kernel_rfl, by kernel_rfl, by kernel_rfl, by kernel_rfl⟩, by kernel_rfl, by kernel_rfl⟩
def G_impl_within : Gm := Gm.none
theorem G_impl_within_ok : G_impl_within.ok Try.prog := Gm.none_ok
set_option maxHeartbeats 1000000 in
set_option maxRecDepth 100000 in
theorem runs_impl_within (n l m : Int) : ARuns Try.prog 73 [.int .i64 n, .int .i64 l, .int .i64 m] [] (.bool (inB n l m)) [] := by
  refine ARuns_bc G_impl_within_ok is_impl_within (by simp) fun hl hlB => ?_
  simp only [kcode_at, kreg_at, bc_skip, bc_seq, bc_cond, bc_block, bc_exit, bc_ret, bc_region, lkX_cons, acond_tmp, aCase_t, aCase_f, aCase_b, afin_nil, cvE_some, resL, resV, resC, cv, cvL, pack, entryE, inPrm, Option.getD_some, acall_clo, add_sp, add_lend, kcall_nil, selOf, selA, inArgs, inA, inL, okA, okL, okBx, okC, outA, outL, outU, outB, deep, deepL, boxIds, AV.bid, List.map_nil, List.map_cons, List.all_nil, List.all_cons, BEq.rfl, Bool.and_true, Bool.true_and, List.append_nil, aops_nil, aops_plain, aops_guard, kont_at, yes_at, no_at, aop_move, aop_assign, aop_pick, aop_alloc, aop_box, aop_build, aop_buildSlice, aop_load, aop_store, aop_nilCheck, aop_binOp, aop_unOp, aop_convert, aop_fieldAddr, aop_indexAddr, aop_slice, aop_extract, aop_makeSlice, aop_len, aop_max, aMax_int, slTy2, SC0, aop_append, aop_call, evalE, getE, putE, getB, setB, St.put, setsB, nth, AV.ofV, AV.blk, AV.bid, AV.one, SC.len, SC.get, List.length_nil, List.length_cons, Nat.reduceEqDiff, Nat.reduceAdd, ↓reduceIte, true_and, and_true, Bool.true_eq_false, Bool.false_eq_true, false_imp_iff, true_imp_iff, decide_eq_true_eq, Bool.not_eq_true', Bool.not_eq_false', decide_eq_false_iff_not, Option.isSome, List.nil_append, List.cons_append, aGuardO_some, aGuard_tt, aGuard_tf, aGuard_ft, aGuard_ff, aGuard_tb, aGuard_fb, aGuard_ts, aGuard_fs, aPick_b, aPick_t, aPick_f, aAlloc_one, aAlloc_flat, aBox_some, aBuild_flat, aInt_add, aBin_add, aInt_sub, aBin_sub, aInt_mul, aBin_mul, aInt_quo, aBin_quo, aInt_rem, aBin_rem, aInt_and, aBin_and, aInt_or, aBin_or, aInt_xor, aBin_xor, aInt_andNot, aBin_andNot, aInt_eql, aBin_eql, aInt_neq, aBin_neq, aInt_lss, aBin_lss, aInt_leq, aBin_leq, aInt_gtr, aBin_gtr, aInt_geq, aBin_geq, aBin_shl, aBin_shr, aShift_shl, aShift_shr, aBin_be1, aBin_bn1, aBin_be2, aBin_bn2, aBin_be3, aBin_bn3, aBin_be4, aBin_bn4, aBin_be5, aBin_bn5, aBin_be6, aBin_bn6, aBin_be7, aBin_bn7, aBin_be8, aBin_bn8, aBin_be9, aBin_bn9, aUn_b, aUn_t, aUn_f, aUn_i, aNil_ptr, aNil_pv, aConv_int, aField_ptr, aField_pv, aIdx_sl, aIdx_prm, aIdx_row, aIdx_drow, aMake_i, aMake_s, aExtr_tup, aLen_ref, aLen_nil, aLen_sl, aLen_prm, aLen_str, aBuildL_some, aBuildS_some, aLoad_1b, aLoad_1d, aLoad_fb, aLoad_fd, aLoad_1p, aLoad_fp, aLoad_ep, aLoad_rr, aLoad_rd, aStore_1, aStore_f, aStore_r, aApp_some, aAppend_nil, aAppend_ref, aSlice_h, aSlice_l, aSlice_lh, bc_draw, kregD_at, aopsD_nil, aopsD_plain, aopsD_guard, kontD_at, contD_at, yesD_at, noD_at, splD_bool, splD_undef, splD_skip, splD_int, splD_tt, splD_ff, splD_str, splD_nil, splD_sl, splD_prm, splD_ref, splD_ptr, splD_rp, splD_ep, splD_pv, splD_agg, splD_tup, splD_clo, gD_tt, gD_tf, gD_ft, gD_ff, gD_ts, gD_fs, slotO_some, addTr_nil, addTr_cons, memQ_nil, memQ_cons, clash_nil, clash_cons, regC_none, regC_nil, regC_cons, regR_nil, regR_cons, Int.toNat_zero, Int.toNat_one, rng0, rng1, rng2, rng3, rng4, SC.take, SC.drop, mp_nil, acond_ct, acond_cf, mp_one0, mp_one1, mp_one2, mp_one3, kcall_one, liveB_row, liveB_box, idx, cont, still, dies, lend, lendA, lendDies, snocs, SC.snoc, SC.app, meet, AV.cells, fillA, List.getD_cons_zero, List.getD_cons_succ, List.set_cons_zero, List.set_cons_succ, List.length_singleton, Nat.le_refl, Nat.lt_irrefl, Nat.reduceLT, Nat.reduceLeDiff, Option.map_some, Option.map_none, List.flatMap_nil, List.flatMap_cons, Nat.zero_add, BEq.rfl, sl3, ty3, un3, sl52, ty52, un52, sl59, ty59, un59, sl57, ty57, un57, sl5, ty5, un5, sl2, ty2, un2, sl21, ty21, un21, sl4, ty4, un4, sl9, un9, sl22, ty22, un22, ty30, sl30, ty33, sl33, inR64, inRu64, inRu32, Try.f73]
  refine ⟨fun h => ?_, fun h => ?_⟩ <;> simp [h, inB]
def lend_impl_within : List Nat := []
def sp_impl_within : List AV → List Bx → (AV → List Bx → Prop) → Prop
  | [.int .i64 n, .int .i64 l, .int .i64 m], [], K => K (.bool (inB n l m)) []
  | _, _, _ => False
theorem at_impl_within {n l m : Int} {K : AV → List Bx → Prop} : sp_impl_within [.int .i64 n, .int .i64 l, .int .i64 m] [] K = (K (.bool (inB n l m)) []) := id rfl
theorem ok_impl_within : ∀ args giv K, sp_impl_within args giv K → ∃ r outs, ARuns Try.prog 73 args giv r outs ∧ K r outs := by
  intro args giv K hk
  unfold sp_impl_within at hk
  split at hk
  · exact ⟨_, _, runs_impl_within _ _ _ , hk⟩
  · exact hk.elim
theorem is_impl_areSets : FnIs Try.prog 52 21 [.tmp 4] (Try.f52.body.getD .skip) := ⟨⟨Try.f52, by kernel_rfl, by kernel_rfl, by kernel_rfl, by kernel_rfl⟩, by kernel_rfl, by kernel_rfl⟩
def G_impl_areSets : Gm := ((Gm.none.add 71 lend_impl_isSetOf sp_impl_isSetOf).add 73 lend_impl_within sp_impl_within)
theorem G_impl_areSets_ok : G_impl_areSets.ok Try.prog := (Gm.add_ok (Gm.add_ok Gm.none_ok ok_impl_isSetOf) ok_impl_within)
theorem gs_impl_areSets_71 : G_impl_areSets.sp 71 = sp_impl_isSetOf ∧ G_impl_areSets.lend 71 = lend_impl_isSetOf := ⟨rfl, rfl⟩
theorem gs_impl_areSets_73 : G_impl_areSets.sp 73 = sp_impl_within ∧ G_impl_areSets.lend 73 = lend_impl_within := ⟨rfl, rfl⟩
set_option maxHeartbeats 1000000 in
set_option maxRecDepth 100000 in
theorem runs_impl_areSets (n : Int) (xs : List Int) : ARuns Try.prog 52 [.int .i64 n, .sl none (.ints .i64 xs)] [] (.bool (setsOk n xs)) [] := by
  refine ARuns_bc G_impl_areSets_ok is_impl_areSets (by simp) fun hl hlB => ?_
  simp only [kcode_at, kreg_at, bc_skip, bc_seq, bc_cond, bc_block, bc_exit, bc_ret, bc_region, lkX_cons, acond_tmp, aCase_t, aCase_f, aCase_b, afin_nil, cvE_some, resL, resV, resC, cv, cvL, pack, entryE, inPrm, Option.getD_some, acall_clo, add_sp, add_lend, kcall_nil, selOf, selA, inArgs, inA, inL, okA, okL, okBx, okC, outA, outL, outU, outB, deep, deepL, boxIds, AV.bid, List.map_nil, List.map_cons, List.all_nil, List.all_cons, BEq.rfl, Bool.and_true, Bool.true_and, List.append_nil, aops_nil, aops_plain, aops_guard, kont_at, yes_at, no_at, aop_move, aop_assign, aop_pick, aop_alloc, aop_box, aop_build, aop_buildSlice, aop_load, aop_store, aop_nilCheck, aop_binOp, aop_unOp, aop_convert, aop_fieldAddr, aop_indexAddr, aop_slice, aop_extract, aop_makeSlice, aop_len, aop_max, aMax_int, slTy2, SC0, aop_append, aop_call, evalE, getE, putE, getB, setB, St.put, setsB, nth, AV.ofV, AV.blk, AV.bid, AV.one, SC.len, SC.get, List.length_nil, List.length_cons, Nat.reduceEqDiff, Nat.reduceAdd, ↓reduceIte, true_and, and_true, Bool.true_eq_false, Bool.false_eq_true, false_imp_iff, true_imp_iff, decide_eq_true_eq, Bool.not_eq_true', Bool.not_eq_false', decide_eq_false_iff_not, Option.isSome, List.nil_append, List.cons_append, aGuardO_some, aGuard_tt, aGuard_tf, aGuard_ft, aGuard_ff, aGuard_tb, aGuard_fb, aGuard_ts, aGuard_fs, aPick_b, aPick_t, aPick_f, aAlloc_one, aAlloc_flat, aBox_some, aBuild_flat, aInt_add, aBin_add, aInt_sub, aBin_sub, aInt_mul, aBin_mul, aInt_quo, aBin_quo, aInt_rem, aBin_rem, aInt_and, aBin_and, aInt_or, aBin_or, aInt_xor, aBin_xor, aInt_andNot, aBin_andNot, aInt_eql, aBin_eql, aInt_neq, aBin_neq, aInt_lss, aBin_lss, aInt_leq, aBin_leq, aInt_gtr, aBin_gtr, aInt_geq, aBin_geq, aBin_shl, aBin_shr, aShift_shl, aShift_shr, aBin_be1, aBin_bn1, aBin_be2, aBin_bn2, aBin_be3, aBin_bn3, aBin_be4, aBin_bn4, aBin_be5, aBin_bn5, aBin_be6, aBin_bn6, aBin_be7, aBin_bn7, aBin_be8, aBin_bn8, aBin_be9, aBin_bn9, aUn_b, aUn_t, aUn_f, aUn_i, aNil_ptr, aNil_pv, aConv_int, aField_ptr, aField_pv, aIdx_sl, aIdx_prm, aIdx_row, aIdx_drow, aMake_i, aMake_s, aExtr_tup, aLen_ref, aLen_nil, aLen_sl, aLen_prm, aLen_str, aBuildL_some, aBuildS_some, aLoad_1b, aLoad_1d, aLoad_fb, aLoad_fd, aLoad_1p, aLoad_fp, aLoad_ep, aLoad_rr, aLoad_rd, aStore_1, aStore_f, aStore_r, aApp_some, aAppend_nil, aAppend_ref, aSlice_h, aSlice_l, aSlice_lh, bc_draw, kregD_at, aopsD_nil, aopsD_plain, aopsD_guard, kontD_at, contD_at, yesD_at, noD_at, splD_bool, splD_undef, splD_skip, splD_int, splD_tt, splD_ff, splD_str, splD_nil, splD_sl, splD_prm, splD_ref, splD_ptr, splD_rp, splD_ep, splD_pv, splD_agg, splD_tup, splD_clo, gD_tt, gD_tf, gD_ft, gD_ff, gD_ts, gD_fs, slotO_some, addTr_nil, addTr_cons, memQ_nil, memQ_cons, clash_nil, clash_cons, regC_none, regC_nil, regC_cons, regR_nil, regR_cons, Int.toNat_zero, Int.toNat_one, rng0, rng1, rng2, rng3, rng4, SC.take, SC.drop, mp_nil, acond_ct, acond_cf, mp_one0, mp_one1, mp_one2, mp_one3, kcall_one, liveB_row, liveB_box, idx, cont, still, dies, lend, lendA, lendDies, snocs, SC.snoc, SC.app, meet, AV.cells, fillA, List.getD_cons_zero, List.getD_cons_succ, List.set_cons_zero, List.set_cons_succ, List.length_singleton, Nat.le_refl, Nat.lt_irrefl, Nat.reduceLT, Nat.reduceLeDiff, Option.map_some, Option.map_none, List.flatMap_nil, List.flatMap_cons, Nat.zero_add, BEq.rfl, sl3, ty3, un3, sl52, ty52, un52, sl59, ty59, un59, sl57, ty57, un57, sl5, ty5, un5, sl2, ty2, un2, sl21, ty21, un21, sl4, ty4, un4, sl9, un9, sl22, ty22, un22, ty30, sl30, ty33, sl33, inR64, inRu64, inRu32, gs_impl_areSets_71, at_impl_isSetOf, lend_impl_isSetOf, gs_impl_areSets_73, at_impl_within, lend_impl_within, Try.f52]
  simp only [lensA, lenA, lenSC] at hl
  refine ⟨fun h => by rw [setsOk, h]; rfl, fun hn => ?_⟩
  refine bc_loop (fun i : Nat => i ≤ xs.length ∧ ∀ k, k < i → inS n (xs.getD k 0) = true)
    (fun i => ⟨[(0, .int .i64 n), (10, .prm 1 (.ints .i64 xs)), (11, .int .i64 xs.length), (12, .int .i64 i)], []⟩) (fun i => xs.length - i)
    [0, 10, 11, 12] [] 0 rfl rfl (by simp) fun i ⟨h1, h2⟩ => ?_
  simp only [kcode_at, kreg_at, bc_skip, bc_seq, bc_cond, bc_block, bc_exit, bc_ret, bc_region, lkX_cons, acond_tmp, aCase_t, aCase_f, aCase_b, afin_nil, cvE_some, resL, resV, resC, cv, cvL, pack, entryE, inPrm, Option.getD_some, acall_clo, add_sp, add_lend, kcall_nil, selOf, selA, inArgs, inA, inL, okA, okL, okBx, okC, outA, outL, outU, outB, deep, deepL, boxIds, AV.bid, List.map_nil, List.map_cons, List.all_nil, List.all_cons, BEq.rfl, Bool.and_true, Bool.true_and, List.append_nil, aops_nil, aops_plain, aops_guard, kont_at, yes_at, no_at, aop_move, aop_assign, aop_pick, aop_alloc, aop_box, aop_build, aop_buildSlice, aop_load, aop_store, aop_nilCheck, aop_binOp, aop_unOp, aop_convert, aop_fieldAddr, aop_indexAddr, aop_slice, aop_extract, aop_makeSlice, aop_len, aop_max, aMax_int, slTy2, SC0, aop_append, aop_call, evalE, getE, putE, getB, setB, St.put, setsB, nth, AV.ofV, AV.blk, AV.bid, AV.one, SC.len, SC.get, List.length_nil, List.length_cons, Nat.reduceEqDiff, Nat.reduceAdd, ↓reduceIte, true_and, and_true, Bool.true_eq_false, Bool.false_eq_true, false_imp_iff, true_imp_iff, decide_eq_true_eq, Bool.not_eq_true', Bool.not_eq_false', decide_eq_false_iff_not, Option.isSome, List.nil_append, List.cons_append, aGuardO_some, aGuard_tt, aGuard_tf, aGuard_ft, aGuard_ff, aGuard_tb, aGuard_fb, aGuard_ts, aGuard_fs, aPick_b, aPick_t, aPick_f, aAlloc_one, aAlloc_flat, aBox_some, aBuild_flat, aInt_add, aBin_add, aInt_sub, aBin_sub, aInt_mul, aBin_mul, aInt_quo, aBin_quo, aInt_rem, aBin_rem, aInt_and, aBin_and, aInt_or, aBin_or, aInt_xor, aBin_xor, aInt_andNot, aBin_andNot, aInt_eql, aBin_eql, aInt_neq, aBin_neq, aInt_lss, aBin_lss, aInt_leq, aBin_leq, aInt_gtr, aBin_gtr, aInt_geq, aBin_geq, aBin_shl, aBin_shr, aShift_shl, aShift_shr, aBin_be1, aBin_bn1, aBin_be2, aBin_bn2, aBin_be3, aBin_bn3, aBin_be4, aBin_bn4, aBin_be5, aBin_bn5, aBin_be6, aBin_bn6, aBin_be7, aBin_bn7, aBin_be8, aBin_bn8, aBin_be9, aBin_bn9, aUn_b, aUn_t, aUn_f, aUn_i, aNil_ptr, aNil_pv, aConv_int, aField_ptr, aField_pv, aIdx_sl, aIdx_prm, aIdx_row, aIdx_drow, aMake_i, aMake_s, aExtr_tup, aLen_ref, aLen_nil, aLen_sl, aLen_prm, aLen_str, aBuildL_some, aBuildS_some, aLoad_1b, aLoad_1d, aLoad_fb, aLoad_fd, aLoad_1p, aLoad_fp, aLoad_ep, aLoad_rr, aLoad_rd, aStore_1, aStore_f, aStore_r, aApp_some, aAppend_nil, aAppend_ref, aSlice_h, aSlice_l, aSlice_lh, bc_draw, kregD_at, aopsD_nil, aopsD_plain, aopsD_guard, kontD_at, contD_at, yesD_at, noD_at, splD_bool, splD_undef, splD_skip, splD_int, splD_tt, splD_ff, splD_str, splD_nil, splD_sl, splD_prm, splD_ref, splD_ptr, splD_rp, splD_ep, splD_pv, splD_agg, splD_tup, splD_clo, gD_tt, gD_tf, gD_ft, gD_ff, gD_ts, gD_fs, slotO_some, addTr_nil, addTr_cons, memQ_nil, memQ_cons, clash_nil, clash_cons, regC_none, regC_nil, regC_cons, regR_nil, regR_cons, Int.toNat_zero, Int.toNat_one, rng0, rng1, rng2, rng3, rng4, SC.take, SC.drop, mp_nil, acond_ct, acond_cf, mp_one0, mp_one1, mp_one2, mp_one3, kcall_one, liveB_row, liveB_box, idx, cont, still, dies, lend, lendA, lendDies, snocs, SC.snoc, SC.app, meet, AV.cells, fillA, List.getD_cons_zero, List.getD_cons_succ, List.set_cons_zero, List.set_cons_succ, List.length_singleton, Nat.le_refl, Nat.lt_irrefl, Nat.reduceLT, Nat.reduceLeDiff, Option.map_some, Option.map_none, List.flatMap_nil, List.flatMap_cons, Nat.zero_add, BEq.rfl, sl3, ty3, un3, sl52, ty52, un52, sl59, ty59, un59, sl57, ty57, un57, sl5, ty5, un5, sl2, ty2, un2, sl21, ty21, un21, sl4, ty4, un4, sl9, un9, sl22, ty22, un22, ty30, sl30, ty33, sl33, inR64, inRu64, inRu32, gs_impl_areSets_71, at_impl_isSetOf, lend_impl_isSetOf, gs_impl_areSets_73, at_impl_within, lend_impl_within, Int.toNat_natCast]
  have hb := hn
  rw [inB_t] at hb
  refine ⟨fun hi => ⟨by omega, by omega, fun hf => ?_, fun ht => ⟨by omega, ?_⟩⟩, fun hi => ?_⟩
  · rw [setsOk, allN_f i (by omega) hf]; simp
  · exact klp_of (i + 1) rfl ⟨by omega, upto_succ h2 ht⟩ (by omega)
  · have : i = xs.length := by omega
    subst this
    rw [setsOk, hn, allN_t h2]; rfl
def lend_impl_areSets : List Nat := []
def sp_impl_areSets : List AV → List Bx → (AV → List Bx → Prop) → Prop
  | [.int .i64 n, .sl none (.ints .i64 xs)], [], K => K (.bool (setsOk n xs)) []
  | _, _, _ => False
theorem at_impl_areSets {n : Int} {xs : List Int} {K : AV → List Bx → Prop} : sp_impl_areSets [.int .i64 n, .sl none (.ints .i64 xs)] [] K = (K (.bool (setsOk n xs)) []) := id rfl
theorem ok_impl_areSets : ∀ args giv K, sp_impl_areSets args giv K → ∃ r outs, ARuns Try.prog 52 args giv r outs ∧ K r outs := by
  intro args giv K hk
  unfold sp_impl_areSets at hk
  split at hk
  · exact ⟨_, _, runs_impl_areSets _ _ , hk⟩
  · exact hk.elim
theorem is_impl_inFlower : FnIs Try.prog 53 46 [.tmp 4] (Try.f53.body.getD .skip) := ⟨⟨Try.f53, by kernel_rfl, by kernel_rfl, by kernel_rfl, by kernel_rfl⟩, by kernel_rfl, by kernel_rfl⟩
def G_impl_inFlower : Gm := Gm.none
theorem G_impl_inFlower_ok : G_impl_inFlower.ok Try.prog := Gm.none_ok
set_option maxHeartbeats 1000000 in
set_option maxRecDepth 100000 in
theorem runs_impl_inFlower (xs : List Int) (s : Int) : ARuns Try.prog 53 [.sl none (.ints .i64 xs), .int .i64 s] [] (.bool (petalB xs s)) [] := by
  refine ARuns_bc G_impl_inFlower_ok is_impl_inFlower (by simp) fun hl hlB => ?_
  simp only [kcode_at, kreg_at, bc_skip, bc_seq, bc_cond, bc_block, bc_exit, bc_ret, bc_region, lkX_cons, acond_tmp, aCase_t, aCase_f, aCase_b, afin_nil, cvE_some, resL, resV, resC, cv, cvL, pack, entryE, inPrm, Option.getD_some, acall_clo, add_sp, add_lend, kcall_nil, selOf, selA, inArgs, inA, inL, okA, okL, okBx, okC, outA, outL, outU, outB, deep, deepL, boxIds, AV.bid, List.map_nil, List.map_cons, List.all_nil, List.all_cons, BEq.rfl, Bool.and_true, Bool.true_and, List.append_nil, aops_nil, aops_plain, aops_guard, kont_at, yes_at, no_at, aop_move, aop_assign, aop_pick, aop_alloc, aop_box, aop_build, aop_buildSlice, aop_load, aop_store, aop_nilCheck, aop_binOp, aop_unOp, aop_convert, aop_fieldAddr, aop_indexAddr, aop_slice, aop_extract, aop_makeSlice, aop_len, aop_max, aMax_int, slTy2, SC0, aop_append, aop_call, evalE, getE, putE, getB, setB, St.put, setsB, nth, AV.ofV, AV.blk, AV.bid, AV.one, SC.len, SC.get, List.length_nil, List.length_cons, Nat.reduceEqDiff, Nat.reduceAdd, ↓reduceIte, true_and, and_true, Bool.true_eq_false, Bool.false_eq_true, false_imp_iff, true_imp_iff, decide_eq_true_eq, Bool.not_eq_true', Bool.not_eq_false', decide_eq_false_iff_not, Option.isSome, List.nil_append, List.cons_append, aGuardO_some, aGuard_tt, aGuard_tf, aGuard_ft, aGuard_ff, aGuard_tb, aGuard_fb, aGuard_ts, aGuard_fs, aPick_b, aPick_t, aPick_f, aAlloc_one, aAlloc_flat, aBox_some, aBuild_flat, aInt_add, aBin_add, aInt_sub, aBin_sub, aInt_mul, aBin_mul, aInt_quo, aBin_quo, aInt_rem, aBin_rem, aInt_and, aBin_and, aInt_or, aBin_or, aInt_xor, aBin_xor, aInt_andNot, aBin_andNot, aInt_eql, aBin_eql, aInt_neq, aBin_neq, aInt_lss, aBin_lss, aInt_leq, aBin_leq, aInt_gtr, aBin_gtr, aInt_geq, aBin_geq, aBin_shl, aBin_shr, aShift_shl, aShift_shr, aBin_be1, aBin_bn1, aBin_be2, aBin_bn2, aBin_be3, aBin_bn3, aBin_be4, aBin_bn4, aBin_be5, aBin_bn5, aBin_be6, aBin_bn6, aBin_be7, aBin_bn7, aBin_be8, aBin_bn8, aBin_be9, aBin_bn9, aUn_b, aUn_t, aUn_f, aUn_i, aNil_ptr, aNil_pv, aConv_int, aField_ptr, aField_pv, aIdx_sl, aIdx_prm, aIdx_row, aIdx_drow, aMake_i, aMake_s, aExtr_tup, aLen_ref, aLen_nil, aLen_sl, aLen_prm, aLen_str, aBuildL_some, aBuildS_some, aLoad_1b, aLoad_1d, aLoad_fb, aLoad_fd, aLoad_1p, aLoad_fp, aLoad_ep, aLoad_rr, aLoad_rd, aStore_1, aStore_f, aStore_r, aApp_some, aAppend_nil, aAppend_ref, aSlice_h, aSlice_l, aSlice_lh, bc_draw, kregD_at, aopsD_nil, aopsD_plain, aopsD_guard, kontD_at, contD_at, yesD_at, noD_at, splD_bool, splD_undef, splD_skip, splD_int, splD_tt, splD_ff, splD_str, splD_nil, splD_sl, splD_prm, splD_ref, splD_ptr, splD_rp, splD_ep, splD_pv, splD_agg, splD_tup, splD_clo, gD_tt, gD_tf, gD_ft, gD_ff, gD_ts, gD_fs, slotO_some, addTr_nil, addTr_cons, memQ_nil, memQ_cons, clash_nil, clash_cons, regC_none, regC_nil, regC_cons, regR_nil, regR_cons, Int.toNat_zero, Int.toNat_one, rng0, rng1, rng2, rng3, rng4, SC.take, SC.drop, mp_nil, acond_ct, acond_cf, mp_one0, mp_one1, mp_one2, mp_one3, kcall_one, liveB_row, liveB_box, idx, cont, still, dies, lend, lendA, lendDies, snocs, SC.snoc, SC.app, meet, AV.cells, fillA, List.getD_cons_zero, List.getD_cons_succ, List.set_cons_zero, List.set_cons_succ, List.length_singleton, Nat.le_refl, Nat.lt_irrefl, Nat.reduceLT, Nat.reduceLeDiff, Option.map_some, Option.map_none, List.flatMap_nil, List.flatMap_cons, Nat.zero_add, BEq.rfl, sl3, ty3, un3, sl52, ty52, un52, sl59, ty59, un59, sl57, ty57, un57, sl5, ty5, un5, sl2, ty2, un2, sl21, ty21, un21, sl4, ty4, un4, sl9, un9, sl22, ty22, un22, ty30, sl30, ty33, sl33, inR64, inRu64, inRu32, Try.f53]
  simp only [lensA, lenA, lenSC] at hl
  refine bc_loop (fun i : Nat => i ≤ xs.length ∧ ∀ k, k < i → petalAt xs s k = true)
    (fun i => ⟨[(0, .prm 0 (.ints .i64 xs)), (1, .int .i64 s), (7, .prm 0 (.ints .i64 xs)), (8, .int .i64 xs.length), (9, .int .i64 i)], []⟩) (fun i => xs.length - i)
    [0, 1, 7, 8, 9] [] 0 rfl rfl (by simp) fun i ⟨h1, h2⟩ => ?_
  simp only [kcode_at, kreg_at, bc_skip, bc_seq, bc_cond, bc_block, bc_exit, bc_ret, bc_region, lkX_cons, acond_tmp, aCase_t, aCase_f, aCase_b, afin_nil, cvE_some, resL, resV, resC, cv, cvL, pack, entryE, inPrm, Option.getD_some, acall_clo, add_sp, add_lend, kcall_nil, selOf, selA, inArgs, inA, inL, okA, okL, okBx, okC, outA, outL, outU, outB, deep, deepL, boxIds, AV.bid, List.map_nil, List.map_cons, List.all_nil, List.all_cons, BEq.rfl, Bool.and_true, Bool.true_and, List.append_nil, aops_nil, aops_plain, aops_guard, kont_at, yes_at, no_at, aop_move, aop_assign, aop_pick, aop_alloc, aop_box, aop_build, aop_buildSlice, aop_load, aop_store, aop_nilCheck, aop_binOp, aop_unOp, aop_convert, aop_fieldAddr, aop_indexAddr, aop_slice, aop_extract, aop_makeSlice, aop_len, aop_max, aMax_int, slTy2, SC0, aop_append, aop_call, evalE, getE, putE, getB, setB, St.put, setsB, nth, AV.ofV, AV.blk, AV.bid, AV.one, SC.len, SC.get, List.length_nil, List.length_cons, Nat.reduceEqDiff, Nat.reduceAdd, ↓reduceIte, true_and, and_true, Bool.true_eq_false, Bool.false_eq_true, false_imp_iff, true_imp_iff, decide_eq_true_eq, Bool.not_eq_true', Bool.not_eq_false', decide_eq_false_iff_not, Option.isSome, List.nil_append, List.cons_append, aGuardO_some, aGuard_tt, aGuard_tf, aGuard_ft, aGuard_ff, aGuard_tb, aGuard_fb, aGuard_ts, aGuard_fs, aPick_b, aPick_t, aPick_f, aAlloc_one, aAlloc_flat, aBox_some, aBuild_flat, aInt_add, aBin_add, aInt_sub, aBin_sub, aInt_mul, aBin_mul, aInt_quo, aBin_quo, aInt_rem, aBin_rem, aInt_and, aBin_and, aInt_or, aBin_or, aInt_xor, aBin_xor, aInt_andNot, aBin_andNot, aInt_eql, aBin_eql, aInt_neq, aBin_neq, aInt_lss, aBin_lss, aInt_leq, aBin_leq, aInt_gtr, aBin_gtr, aInt_geq, aBin_geq, aBin_shl, aBin_shr, aShift_shl, aShift_shr, aBin_be1, aBin_bn1, aBin_be2, aBin_bn2, aBin_be3, aBin_bn3, aBin_be4, aBin_bn4, aBin_be5, aBin_bn5, aBin_be6, aBin_bn6, aBin_be7, aBin_bn7, aBin_be8, aBin_bn8, aBin_be9, aBin_bn9, aUn_b, aUn_t, aUn_f, aUn_i, aNil_ptr, aNil_pv, aConv_int, aField_ptr, aField_pv, aIdx_sl, aIdx_prm, aIdx_row, aIdx_drow, aMake_i, aMake_s, aExtr_tup, aLen_ref, aLen_nil, aLen_sl, aLen_prm, aLen_str, aBuildL_some, aBuildS_some, aLoad_1b, aLoad_1d, aLoad_fb, aLoad_fd, aLoad_1p, aLoad_fp, aLoad_ep, aLoad_rr, aLoad_rd, aStore_1, aStore_f, aStore_r, aApp_some, aAppend_nil, aAppend_ref, aSlice_h, aSlice_l, aSlice_lh, bc_draw, kregD_at, aopsD_nil, aopsD_plain, aopsD_guard, kontD_at, contD_at, yesD_at, noD_at, splD_bool, splD_undef, splD_skip, splD_int, splD_tt, splD_ff, splD_str, splD_nil, splD_sl, splD_prm, splD_ref, splD_ptr, splD_rp, splD_ep, splD_pv, splD_agg, splD_tup, splD_clo, gD_tt, gD_tf, gD_ft, gD_ff, gD_ts, gD_fs, slotO_some, addTr_nil, addTr_cons, memQ_nil, memQ_cons, clash_nil, clash_cons, regC_none, regC_nil, regC_cons, regR_nil, regR_cons, Int.toNat_zero, Int.toNat_one, rng0, rng1, rng2, rng3, rng4, SC.take, SC.drop, mp_nil, acond_ct, acond_cf, mp_one0, mp_one1, mp_one2, mp_one3, kcall_one, liveB_row, liveB_box, idx, cont, still, dies, lend, lendA, lendDies, snocs, SC.snoc, SC.app, meet, AV.cells, fillA, List.getD_cons_zero, List.getD_cons_succ, List.set_cons_zero, List.set_cons_succ, List.length_singleton, Nat.le_refl, Nat.lt_irrefl, Nat.reduceLT, Nat.reduceLeDiff, Option.map_some, Option.map_none, List.flatMap_nil, List.flatMap_cons, Nat.zero_add, BEq.rfl, sl3, ty3, un3, sl52, ty52, un52, sl59, ty59, un59, sl57, ty57, un57, sl5, ty5, un5, sl2, ty2, un2, sl21, ty21, un21, sl4, ty4, un4, sl9, un9, sl22, ty22, un22, ty30, sl30, ty33, sl33, inR64, inRu64, inRu32, Int.toNat_natCast]
  have ec : band .i64 (xs.getD 0 0) (xs.getD 1 0) = core xs := rfl
  rw [ec]
  have no : i < xs.length → petalAt xs s i = false → AV.bool false = AV.bool (petalB xs s) := fun hi h => by rw [petalB, allN_f i hi h]
  refine ⟨fun hi => ⟨by omega, fun he => no (by omega) (petalAt_f fun h => h.1 he), fun he => ⟨by omega, fun hb => no (by omega) (petalAt_f fun h => hb h.2.1), fun hb =>
    ⟨fun h0 => ⟨by omega, by omega, fun hc => no (by omega) (petalAt_f fun h => hc (h.2.2 (by omega))), fun hc => ⟨by omega, ?_⟩⟩, fun h0 => ⟨by omega, ?_⟩⟩⟩⟩, fun hi => ?_⟩
  · exact klp_of (i + 1) rfl ⟨by omega, upto_succ h2 (petalAt_iff.2 ⟨he, hb, fun _ => hc⟩)⟩ (by omega)
  · exact klp_of (i + 1) rfl ⟨by omega, upto_succ h2 (petalAt_iff.2 ⟨he, hb, fun h => absurd h (by omega)⟩)⟩ (by omega)
  · have : i = xs.length := by omega
    subst this
    rw [petalB, allN_t h2]
def lend_impl_inFlower : List Nat := []
def sp_impl_inFlower : List AV → List Bx → (AV → List Bx → Prop) → Prop
  | [.sl none (.ints .i64 xs), .int .i64 s], [], K => K (.bool (petalB xs s)) []
  | _, _, _ => False
theorem at_impl_inFlower {xs : List Int} {s : Int} {K : AV → List Bx → Prop} : sp_impl_inFlower [.sl none (.ints .i64 xs), .int .i64 s] [] K = (K (.bool (petalB xs s)) []) := id rfl
theorem ok_impl_inFlower : ∀ args giv K, sp_impl_inFlower args giv K → ∃ r outs, ARuns Try.prog 53 args giv r outs ∧ K r outs := by
  intro args giv K hk
  unfold sp_impl_inFlower at hk
  split at hk
  · exact ⟨_, _, runs_impl_inFlower _ _ , hk⟩
  · exact hk.elim
theorem is_impl_IsSunflower : FnIs Try.prog 20 27 [.tmp 2] (Try.f20.body.getD .skip) := ⟨⟨Try.f20, by kernel_rfl, by kernel_rfl, by kernel_rfl, by kernel_rfl⟩, by kernel_rfl, by kernel_rfl⟩
def G_impl_IsSunflower : Gm := ((Gm.none.add 52 lend_impl_areSets sp_impl_areSets).add 53 lend_impl_inFlower sp_impl_inFlower)
theorem G_impl_IsSunflower_ok : G_impl_IsSunflower.ok Try.prog := (Gm.add_ok (Gm.add_ok Gm.none_ok ok_impl_areSets) ok_impl_inFlower)
theorem gs_impl_IsSunflower_52 : G_impl_IsSunflower.sp 52 = sp_impl_areSets ∧ G_impl_IsSunflower.lend 52 = lend_impl_areSets := ⟨rfl, rfl⟩
theorem gs_impl_IsSunflower_53 : G_impl_IsSunflower.sp 53 = sp_impl_inFlower ∧ G_impl_IsSunflower.lend 53 = lend_impl_inFlower := ⟨rfl, rfl⟩
set_option maxHeartbeats 1000000 in
set_option maxRecDepth 100000 in
theorem runs_impl_IsSunflower (xs : List Int) : ARuns Try.prog 20 [.sl none (.ints .i64 xs)] [] (.bool (sunB xs)) [] := by
  refine ARuns_bc G_impl_IsSunflower_ok is_impl_IsSunflower (by simp) fun hl hlB => ?_
  simp only [kcode_at, kreg_at, bc_skip, bc_seq, bc_cond, bc_block, bc_exit, bc_ret, bc_region, lkX_cons, acond_tmp, aCase_t, aCase_f, aCase_b, afin_nil, cvE_some, resL, resV, resC, cv, cvL, pack, entryE, inPrm, Option.getD_some, acall_clo, add_sp, add_lend, kcall_nil, selOf, selA, inArgs, inA, inL, okA, okL, okBx, okC, outA, outL, outU, outB, deep, deepL, boxIds, AV.bid, List.map_nil, List.map_cons, List.all_nil, List.all_cons, BEq.rfl, Bool.and_true, Bool.true_and, List.append_nil, aops_nil, aops_plain, aops_guard, kont_at, yes_at, no_at, aop_move, aop_assign, aop_pick, aop_alloc, aop_box, aop_build, aop_buildSlice, aop_load, aop_store, aop_nilCheck, aop_binOp, aop_unOp, aop_convert, aop_fieldAddr, aop_indexAddr, aop_slice, aop_extract, aop_makeSlice, aop_len, aop_max, aMax_int, slTy2, SC0, aop_append, aop_call, evalE, getE, putE, getB, setB, St.put, setsB, nth, AV.ofV, AV.blk, AV.bid, AV.one, SC.len, SC.get, List.length_nil, List.length_cons, Nat.reduceEqDiff, Nat.reduceAdd, ↓reduceIte, true_and, and_true, Bool.true_eq_false, Bool.false_eq_true, false_imp_iff, true_imp_iff, decide_eq_true_eq, Bool.not_eq_true', Bool.not_eq_false', decide_eq_false_iff_not, Option.isSome, List.nil_append, List.cons_append, aGuardO_some, aGuard_tt, aGuard_tf, aGuard_ft, aGuard_ff, aGuard_tb, aGuard_fb, aGuard_ts, aGuard_fs, aPick_b, aPick_t, aPick_f, aAlloc_one, aAlloc_flat, aBox_some, aBuild_flat, aInt_add, aBin_add, aInt_sub, aBin_sub, aInt_mul, aBin_mul, aInt_quo, aBin_quo, aInt_rem, aBin_rem, aInt_and, aBin_and, aInt_or, aBin_or, aInt_xor, aBin_xor, aInt_andNot, aBin_andNot, aInt_eql, aBin_eql, aInt_neq, aBin_neq, aInt_lss, aBin_lss, aInt_leq, aBin_leq, aInt_gtr, aBin_gtr, aInt_geq, aBin_geq, aBin_shl, aBin_shr, aShift_shl, aShift_shr, aBin_be1, aBin_bn1, aBin_be2, aBin_bn2, aBin_be3, aBin_bn3, aBin_be4, aBin_bn4, aBin_be5, aBin_bn5, aBin_be6, aBin_bn6, aBin_be7, aBin_bn7, aBin_be8, aBin_bn8, aBin_be9, aBin_bn9, aUn_b, aUn_t, aUn_f, aUn_i, aNil_ptr, aNil_pv, aConv_int, aField_ptr, aField_pv, aIdx_sl, aIdx_prm, aIdx_row, aIdx_drow, aMake_i, aMake_s, aExtr_tup, aLen_ref, aLen_nil, aLen_sl, aLen_prm, aLen_str, aBuildL_some, aBuildS_some, aLoad_1b, aLoad_1d, aLoad_fb, aLoad_fd, aLoad_1p, aLoad_fp, aLoad_ep, aLoad_rr, aLoad_rd, aStore_1, aStore_f, aStore_r, aApp_some, aAppend_nil, aAppend_ref, aSlice_h, aSlice_l, aSlice_lh, bc_draw, kregD_at, aopsD_nil, aopsD_plain, aopsD_guard, kontD_at, contD_at, yesD_at, noD_at, splD_bool, splD_undef, splD_skip, splD_int, splD_tt, splD_ff, splD_str, splD_nil, splD_sl, splD_prm, splD_ref, splD_ptr, splD_rp, splD_ep, splD_pv, splD_agg, splD_tup, splD_clo, gD_tt, gD_tf, gD_ft, gD_ff, gD_ts, gD_fs, slotO_some, addTr_nil, addTr_cons, memQ_nil, memQ_cons, clash_nil, clash_cons, regC_none, regC_nil, regC_cons, regR_nil, regR_cons, Int.toNat_zero, Int.toNat_one, rng0, rng1, rng2, rng3, rng4, SC.take, SC.drop, mp_nil, acond_ct, acond_cf, mp_one0, mp_one1, mp_one2, mp_one3, kcall_one, liveB_row, liveB_box, idx, cont, still, dies, lend, lendA, lendDies, snocs, SC.snoc, SC.app, meet, AV.cells, fillA, List.getD_cons_zero, List.getD_cons_succ, List.set_cons_zero, List.set_cons_succ, List.length_singleton, Nat.le_refl, Nat.lt_irrefl, Nat.reduceLT, Nat.reduceLeDiff, Option.map_some, Option.map_none, List.flatMap_nil, List.flatMap_cons, Nat.zero_add, BEq.rfl, sl3, ty3, un3, sl52, ty52, un52, sl59, ty59, un59, sl57, ty57, un57, sl5, ty5, un5, sl2, ty2, un2, sl21, ty21, un21, sl4, ty4, un4, sl9, un9, sl22, ty22, un22, ty30, sl30, ty33, sl33, inR64, inRu64, inRu32, gs_impl_IsSunflower_52, at_impl_areSets, lend_impl_areSets, gs_impl_IsSunflower_53, at_impl_inFlower, lend_impl_inFlower, Try.f20]
  simp only [lensA, lenA, lenSC] at hl
  rw [← sun_eq]
  refine ⟨fun h => by rw [sunI, decide_eq_false (by omega)]; rfl, fun h => ⟨fun hs => by rw [sunI, hs]; simp, fun hs => ?_⟩⟩
  have e64 : decide (xs.length ≤ 64) = true := decide_eq_true (by omega)
  refine bc_loop (fun i : Nat => i ≤ xs.length ∧ ∀ k, k < i → petalB (xs.take k) (xs.getD k 0) = true)
    (fun i => ⟨[(0, .prm 0 (.ints .i64 xs)), (13, .prm 0 (.ints .i64 xs)), (14, .int .i64 xs.length), (15, .int .i64 i)], []⟩) (fun i => xs.length - i)
    [0, 13, 14, 15] [] 0 rfl rfl (by simp) fun i ⟨h1, h2⟩ => ?_
  simp only [kcode_at, kreg_at, bc_skip, bc_seq, bc_cond, bc_block, bc_exit, bc_ret, bc_region, lkX_cons, acond_tmp, aCase_t, aCase_f, aCase_b, afin_nil, cvE_some, resL, resV, resC, cv, cvL, pack, entryE, inPrm, Option.getD_some, acall_clo, add_sp, add_lend, kcall_nil, selOf, selA, inArgs, inA, inL, okA, okL, okBx, okC, outA, outL, outU, outB, deep, deepL, boxIds, AV.bid, List.map_nil, List.map_cons, List.all_nil, List.all_cons, BEq.rfl, Bool.and_true, Bool.true_and, List.append_nil, aops_nil, aops_plain, aops_guard, kont_at, yes_at, no_at, aop_move, aop_assign, aop_pick, aop_alloc, aop_box, aop_build, aop_buildSlice, aop_load, aop_store, aop_nilCheck, aop_binOp, aop_unOp, aop_convert, aop_fieldAddr, aop_indexAddr, aop_slice, aop_extract, aop_makeSlice, aop_len, aop_max, aMax_int, slTy2, SC0, aop_append, aop_call, evalE, getE, putE, getB, setB, St.put, setsB, nth, AV.ofV, AV.blk, AV.bid, AV.one, SC.len, SC.get, List.length_nil, List.length_cons, Nat.reduceEqDiff, Nat.reduceAdd, ↓reduceIte, true_and, and_true, Bool.true_eq_false, Bool.false_eq_true, false_imp_iff, true_imp_iff, decide_eq_true_eq, Bool.not_eq_true', Bool.not_eq_false', decide_eq_false_iff_not, Option.isSome, List.nil_append, List.cons_append, aGuardO_some, aGuard_tt, aGuard_tf, aGuard_ft, aGuard_ff, aGuard_tb, aGuard_fb, aGuard_ts, aGuard_fs, aPick_b, aPick_t, aPick_f, aAlloc_one, aAlloc_flat, aBox_some, aBuild_flat, aInt_add, aBin_add, aInt_sub, aBin_sub, aInt_mul, aBin_mul, aInt_quo, aBin_quo, aInt_rem, aBin_rem, aInt_and, aBin_and, aInt_or, aBin_or, aInt_xor, aBin_xor, aInt_andNot, aBin_andNot, aInt_eql, aBin_eql, aInt_neq, aBin_neq, aInt_lss, aBin_lss, aInt_leq, aBin_leq, aInt_gtr, aBin_gtr, aInt_geq, aBin_geq, aBin_shl, aBin_shr, aShift_shl, aShift_shr, aBin_be1, aBin_bn1, aBin_be2, aBin_bn2, aBin_be3, aBin_bn3, aBin_be4, aBin_bn4, aBin_be5, aBin_bn5, aBin_be6, aBin_bn6, aBin_be7, aBin_bn7, aBin_be8, aBin_bn8, aBin_be9, aBin_bn9, aUn_b, aUn_t, aUn_f, aUn_i, aNil_ptr, aNil_pv, aConv_int, aField_ptr, aField_pv, aIdx_sl, aIdx_prm, aIdx_row, aIdx_drow, aMake_i, aMake_s, aExtr_tup, aLen_ref, aLen_nil, aLen_sl, aLen_prm, aLen_str, aBuildL_some, aBuildS_some, aLoad_1b, aLoad_1d, aLoad_fb, aLoad_fd, aLoad_1p, aLoad_fp, aLoad_ep, aLoad_rr, aLoad_rd, aStore_1, aStore_f, aStore_r, aApp_some, aAppend_nil, aAppend_ref, aSlice_h, aSlice_l, aSlice_lh, bc_draw, kregD_at, aopsD_nil, aopsD_plain, aopsD_guard, kontD_at, contD_at, yesD_at, noD_at, splD_bool, splD_undef, splD_skip, splD_int, splD_tt, splD_ff, splD_str, splD_nil, splD_sl, splD_prm, splD_ref, splD_ptr, splD_rp, splD_ep, splD_pv, splD_agg, splD_tup, splD_clo, gD_tt, gD_tf, gD_ft, gD_ff, gD_ts, gD_fs, slotO_some, addTr_nil, addTr_cons, memQ_nil, memQ_cons, clash_nil, clash_cons, regC_none, regC_nil, regC_cons, regR_nil, regR_cons, Int.toNat_zero, Int.toNat_one, rng0, rng1, rng2, rng3, rng4, SC.take, SC.drop, mp_nil, acond_ct, acond_cf, mp_one0, mp_one1, mp_one2, mp_one3, kcall_one, liveB_row, liveB_box, idx, cont, still, dies, lend, lendA, lendDies, snocs, SC.snoc, SC.app, meet, AV.cells, fillA, List.getD_cons_zero, List.getD_cons_succ, List.set_cons_zero, List.set_cons_succ, List.length_singleton, Nat.le_refl, Nat.lt_irrefl, Nat.reduceLT, Nat.reduceLeDiff, Option.map_some, Option.map_none, List.flatMap_nil, List.flatMap_cons, Nat.zero_add, BEq.rfl, sl3, ty3, un3, sl52, ty52, un52, sl59, ty59, un59, sl57, ty57, un57, sl5, ty5, un5, sl2, ty2, un2, sl21, ty21, un21, sl4, ty4, un4, sl9, un9, sl22, ty22, un22, ty30, sl30, ty33, sl33, inR64, inRu64, inRu32, gs_impl_IsSunflower_52, at_impl_areSets, lend_impl_areSets, gs_impl_IsSunflower_53, at_impl_inFlower, lend_impl_inFlower, Int.toNat_natCast]
  refine ⟨fun hi => ⟨by omega, by omega, fun hf => ?_, fun ht => ⟨by omega, ?_⟩⟩, fun hi => ?_⟩
  · rw [sunI, allN_f i (by omega) hf]; simp
  · exact klp_of (i + 1) rfl ⟨by omega, upto_succ h2 ht⟩ (by omega)
  · have : i = xs.length := by omega
    subst this
    rw [sunI, e64, hs, allN_t h2]; rfl
def lend_impl_IsSunflower : List Nat := []
def sp_impl_IsSunflower : List AV → List Bx → (AV → List Bx → Prop) → Prop
  | [.sl none (.ints .i64 xs)], [], K => K (.bool (sunB xs)) []
  | _, _, _ => False
theorem at_impl_IsSunflower {xs : List Int} {K : AV → List Bx → Prop} : sp_impl_IsSunflower [.sl none (.ints .i64 xs)] [] K = (K (.bool (sunB xs)) []) := id rfl
theorem ok_impl_IsSunflower : ∀ args giv K, sp_impl_IsSunflower args giv K → ∃ r outs, ARuns Try.prog 20 args giv r outs ∧ K r outs := by
  intro args giv K hk
  unfold sp_impl_IsSunflower at hk
  split at hk
  · exact ⟨_, _, runs_impl_IsSunflower _ , hk⟩
  · exact hk.elim
theorem is_impl_KernelOf : FnIs Try.prog 22 19 [.tmp 2, .tmp 3] (Try.f22.body.getD .skip) := ⟨⟨Try.f22, by kernel_rfl, by kernel_rfl, by kernel_rfl, by kernel_rfl⟩, by kernel_rfl, by kernel_rfl⟩
def G_impl_KernelOf : Gm := (Gm.none.add 20 lend_impl_IsSunflower sp_impl_IsSunflower)
theorem G_impl_KernelOf_ok : G_impl_KernelOf.ok Try.prog := (Gm.add_ok Gm.none_ok ok_impl_IsSunflower)
theorem gs_impl_KernelOf_20 : G_impl_KernelOf.sp 20 = sp_impl_IsSunflower ∧ G_impl_KernelOf.lend 20 = lend_impl_IsSunflower := ⟨rfl, rfl⟩
set_option maxHeartbeats 1000000 in
set_option maxRecDepth 100000 in
theorem runs_impl_KernelOf (xs : List Int) : ARuns Try.prog 22 [.sl none (.ints .i64 xs)] [] (.tup [.int .i64 (kernI xs), .bool (kernOk xs)]) [] := by
  refine ARuns_bc G_impl_KernelOf_ok is_impl_KernelOf (by simp) fun hl hlB => ?_
  simp only [kcode_at, kreg_at, bc_skip, bc_seq, bc_cond, bc_block, bc_exit, bc_ret, bc_region, lkX_cons, acond_tmp, aCase_t, aCase_f, aCase_b, afin_nil, cvE_some, resL, resV, resC, cv, cvL, pack, entryE, inPrm, Option.getD_some, acall_clo, add_sp, add_lend, kcall_nil, selOf, selA, inArgs, inA, inL, okA, okL, okBx, okC, outA, outL, outU, outB, deep, deepL, boxIds, AV.bid, List.map_nil, List.map_cons, List.all_nil, List.all_cons, BEq.rfl, Bool.and_true, Bool.true_and, List.append_nil, aops_nil, aops_plain, aops_guard, kont_at, yes_at, no_at, aop_move, aop_assign, aop_pick, aop_alloc, aop_box, aop_build, aop_buildSlice, aop_load, aop_store, aop_nilCheck, aop_binOp, aop_unOp, aop_convert, aop_fieldAddr, aop_indexAddr, aop_slice, aop_extract, aop_makeSlice, aop_len, aop_max, aMax_int, slTy2, SC0, aop_append, aop_call, evalE, getE, putE, getB, setB, St.put, setsB, nth, AV.ofV, AV.blk, AV.bid, AV.one, SC.len, SC.get, List.length_nil, List.length_cons, Nat.reduceEqDiff, Nat.reduceAdd, ↓reduceIte, true_and, and_true, Bool.true_eq_false, Bool.false_eq_true, false_imp_iff, true_imp_iff, decide_eq_true_eq, Bool.not_eq_true', Bool.not_eq_false', decide_eq_false_iff_not, Option.isSome, List.nil_append, List.cons_append, aGuardO_some, aGuard_tt, aGuard_tf, aGuard_ft, aGuard_ff, aGuard_tb, aGuard_fb, aGuard_ts, aGuard_fs, aPick_b, aPick_t, aPick_f, aAlloc_one, aAlloc_flat, aBox_some, aBuild_flat, aInt_add, aBin_add, aInt_sub, aBin_sub, aInt_mul, aBin_mul, aInt_quo, aBin_quo, aInt_rem, aBin_rem, aInt_and, aBin_and, aInt_or, aBin_or, aInt_xor, aBin_xor, aInt_andNot, aBin_andNot, aInt_eql, aBin_eql, aInt_neq, aBin_neq, aInt_lss, aBin_lss, aInt_leq, aBin_leq, aInt_gtr, aBin_gtr, aInt_geq, aBin_geq, aBin_shl, aBin_shr, aShift_shl, aShift_shr, aBin_be1, aBin_bn1, aBin_be2, aBin_bn2, aBin_be3, aBin_bn3, aBin_be4, aBin_bn4, aBin_be5, aBin_bn5, aBin_be6, aBin_bn6, aBin_be7, aBin_bn7, aBin_be8, aBin_bn8, aBin_be9, aBin_bn9, aUn_b, aUn_t, aUn_f, aUn_i, aNil_ptr, aNil_pv, aConv_int, aField_ptr, aField_pv, aIdx_sl, aIdx_prm, aIdx_row, aIdx_drow, aMake_i, aMake_s, aExtr_tup, aLen_ref, aLen_nil, aLen_sl, aLen_prm, aLen_str, aBuildL_some, aBuildS_some, aLoad_1b, aLoad_1d, aLoad_fb, aLoad_fd, aLoad_1p, aLoad_fp, aLoad_ep, aLoad_rr, aLoad_rd, aStore_1, aStore_f, aStore_r, aApp_some, aAppend_nil, aAppend_ref, aSlice_h, aSlice_l, aSlice_lh, bc_draw, kregD_at, aopsD_nil, aopsD_plain, aopsD_guard, kontD_at, contD_at, yesD_at, noD_at, splD_bool, splD_undef, splD_skip, splD_int, splD_tt, splD_ff, splD_str, splD_nil, splD_sl, splD_prm, splD_ref, splD_ptr, splD_rp, splD_ep, splD_pv, splD_agg, splD_tup, splD_clo, gD_tt, gD_tf, gD_ft, gD_ff, gD_ts, gD_fs, slotO_some, addTr_nil, addTr_cons, memQ_nil, memQ_cons, clash_nil, clash_cons, regC_none, regC_nil, regC_cons, regR_nil, regR_cons, Int.toNat_zero, Int.toNat_one, rng0, rng1, rng2, rng3, rng4, SC.take, SC.drop, mp_nil, acond_ct, acond_cf, mp_one0, mp_one1, mp_one2, mp_one3, kcall_one, liveB_row, liveB_box, idx, cont, still, dies, lend, lendA, lendDies, snocs, SC.snoc, SC.app, meet, AV.cells, fillA, List.getD_cons_zero, List.getD_cons_succ, List.set_cons_zero, List.set_cons_succ, List.length_singleton, Nat.le_refl, Nat.lt_irrefl, Nat.reduceLT, Nat.reduceLeDiff, Option.map_some, Option.map_none, List.flatMap_nil, List.flatMap_cons, Nat.zero_add, BEq.rfl, sl3, ty3, un3, sl52, ty52, un52, sl59, ty59, un59, sl57, ty57, un57, sl5, ty5, un5, sl2, ty2, un2, sl21, ty21, un21, sl4, ty4, un4, sl9, un9, sl22, ty22, un22, ty30, sl30, ty33, sl33, inR64, inRu64, inRu32, gs_impl_KernelOf_20, at_impl_IsSunflower, lend_impl_IsSunflower, Try.f22]
  simp only [lensA, lenA, lenSC] at hl
  refine ⟨fun h => ?_, fun h => ⟨fun h2 => ?_, fun h2 => ⟨by omega, by omega, ?_⟩⟩⟩
  · have := kern_f (xs := xs) (fun x => by omega)
    rw [this.1, this.2]
  · have := kern_f (xs := xs) (fun x => by rw [x.2] at h2; cases h2)
    rw [this.1, this.2]
  · have := kern_t (xs := xs) ⟨by omega, h2⟩
    rw [this.1, this.2]; rfl
def lend_impl_KernelOf : List Nat := []
def sp_impl_KernelOf : List AV → List Bx → (AV → List Bx → Prop) → Prop
  | [.sl none (.ints .i64 xs)], [], K => K (.tup [.int .i64 (kernI xs), .bool (kernOk xs)]) []
  | _, _, _ => False
theorem at_impl_KernelOf {xs : List Int} {K : AV → List Bx → Prop} : sp_impl_KernelOf [.sl none (.ints .i64 xs)] [] K = (K (.tup [.int .i64 (kernI xs), .bool (kernOk xs)]) []) := id rfl
theorem ok_impl_KernelOf : ∀ args giv K, sp_impl_KernelOf args giv K → ∃ r outs, ARuns Try.prog 22 args giv r outs ∧ K r outs := by
  intro args giv K hk
  unfold sp_impl_KernelOf at hk
  split at hk
  · exact ⟨_, _, runs_impl_KernelOf _ , hk⟩
  · exact hk.elim
theorem is_laws_FnExactKernelOf : FnIs Try.prog 5 37 [.tmp 2] (Try.f5.body.getD .skip) := ⟨⟨Try.f5, by kernel_rfl, by kernel_rfl, by kernel_rfl, by kernel_rfl⟩, by kernel_rfl, by kernel_rfl⟩
def G_laws_FnExactKernelOf : Gm := ((((Gm.none.add 16 lend_laws_toIntS sp_laws_toIntS).add 18 lend_laws_eqIntS sp_laws_eqIntS).add 21 lend_spec_KernelOf sp_spec_KernelOf).add 22 lend_impl_KernelOf sp_impl_KernelOf)
theorem G_laws_FnExactKernelOf_ok : G_laws_FnExactKernelOf.ok Try.prog := (Gm.add_ok (Gm.add_ok (Gm.add_ok (Gm.add_ok Gm.none_ok ok_laws_toIntS) ok_laws_eqIntS) ok_spec_KernelOf) ok_impl_KernelOf)
theorem gs_laws_FnExactKernelOf_16 : G_laws_FnExactKernelOf.sp 16 = sp_laws_toIntS ∧ G_laws_FnExactKernelOf.lend 16 = lend_laws_toIntS := ⟨rfl, rfl⟩
theorem gs_laws_FnExactKernelOf_18 : G_laws_FnExactKernelOf.sp 18 = sp_laws_eqIntS ∧ G_laws_FnExactKernelOf.lend 18 = lend_laws_eqIntS := ⟨rfl, rfl⟩
theorem gs_laws_FnExactKernelOf_21 : G_laws_FnExactKernelOf.sp 21 = sp_spec_KernelOf ∧ G_laws_FnExactKernelOf.lend 21 = lend_spec_KernelOf := ⟨rfl, rfl⟩
theorem gs_laws_FnExactKernelOf_22 : G_laws_FnExactKernelOf.sp 22 = sp_impl_KernelOf ∧ G_laws_FnExactKernelOf.lend 22 = lend_impl_KernelOf := ⟨rfl, rfl⟩
set_option maxHeartbeats 1000000 in
set_option maxRecDepth 100000 in
theorem runs_laws_FnExactKernelOf (xs : List Int) (hp1 : ∀ n ∈ xs, -9223372036854775808 ≤ n ∧ n ≤ 9223372036854775807) (hp2 : xs.length ≤ 9223372036854775807) : ARuns Try.prog 5 [.sl none (.ints .i64 xs)] [] (.bool true) [] := by
  refine ARuns_bc G_laws_FnExactKernelOf_ok is_laws_FnExactKernelOf (by simp) fun hl hlB => ?_
  simp only [kcode_at, kreg_at, bc_skip, bc_seq, bc_cond, bc_block, bc_exit, bc_ret, bc_region, lkX_cons, acond_tmp, aCase_t, aCase_f, aCase_b, afin_nil, cvE_some, resL, resV, resC, cv, cvL, pack, entryE, inPrm, Option.getD_some, acall_clo, add_sp, add_lend, kcall_nil, selOf, selA, inArgs, inA, inL, okA, okL, okBx, okC, outA, outL, outU, outB, deep, deepL, boxIds, AV.bid, List.map_nil, List.map_cons, List.all_nil, List.all_cons, BEq.rfl, Bool.and_true, Bool.true_and, List.append_nil, aops_nil, aops_plain, aops_guard, kont_at, yes_at, no_at, aop_move, aop_assign, aop_pick, aop_alloc, aop_box, aop_build, aop_buildSlice, aop_load, aop_store, aop_nilCheck, aop_binOp, aop_unOp, aop_convert, aop_fieldAddr, aop_indexAddr, aop_slice, aop_extract, aop_makeSlice, aop_len, aop_max, aMax_int, slTy2, SC0, aop_append, aop_call, evalE, getE, putE, getB, setB, St.put, setsB, nth, AV.ofV, AV.blk, AV.bid, AV.one, SC.len, SC.get, List.length_nil, List.length_cons, Nat.reduceEqDiff, Nat.reduceAdd, ↓reduceIte, true_and, and_true, Bool.true_eq_false, Bool.false_eq_true, false_imp_iff, true_imp_iff, decide_eq_true_eq, Bool.not_eq_true', Bool.not_eq_false', decide_eq_false_iff_not, Option.isSome, List.nil_append, List.cons_append, aGuardO_some, aGuard_tt, aGuard_tf, aGuard_ft, aGuard_ff, aGuard_tb, aGuard_fb, aGuard_ts, aGuard_fs, aPick_b, aPick_t, aPick_f, aAlloc_one, aAlloc_flat, aBox_some, aBuild_flat, aInt_add, aBin_add, aInt_sub, aBin_sub, aInt_mul, aBin_mul, aInt_quo, aBin_quo, aInt_rem, aBin_rem, aInt_and, aBin_and, aInt_or, aBin_or, aInt_xor, aBin_xor, aInt_andNot, aBin_andNot, aInt_eql, aBin_eql, aInt_neq, aBin_neq, aInt_lss, aBin_lss, aInt_leq, aBin_leq, aInt_gtr, aBin_gtr, aInt_geq, aBin_geq, aBin_shl, aBin_shr, aShift_shl, aShift_shr, aBin_be1, aBin_bn1, aBin_be2, aBin_bn2, aBin_be3, aBin_bn3, aBin_be4, aBin_bn4, aBin_be5, aBin_bn5, aBin_be6, aBin_bn6, aBin_be7, aBin_bn7, aBin_be8, aBin_bn8, aBin_be9, aBin_bn9, aUn_b, aUn_t, aUn_f, aUn_i, aNil_ptr, aNil_pv, aConv_int, aField_ptr, aField_pv, aIdx_sl, aIdx_prm, aIdx_row, aIdx_drow, aMake_i, aMake_s, aExtr_tup, aLen_ref, aLen_nil, aLen_sl, aLen_prm, aLen_str, aBuildL_some, aBuildS_some, aLoad_1b, aLoad_1d, aLoad_fb, aLoad_fd, aLoad_1p, aLoad_fp, aLoad_ep, aLoad_rr, aLoad_rd, aStore_1, aStore_f, aStore_r, aApp_some, aAppend_nil, aAppend_ref, aSlice_h, aSlice_l, aSlice_lh, bc_draw, kregD_at, aopsD_nil, aopsD_plain, aopsD_guard, kontD_at, contD_at, yesD_at, noD_at, splD_bool, splD_undef, splD_skip, splD_int, splD_tt, splD_ff, splD_str, splD_nil, splD_sl, splD_prm, splD_ref, splD_ptr, splD_rp, splD_ep, splD_pv, splD_agg, splD_tup, splD_clo, gD_tt, gD_tf, gD_ft, gD_ff, gD_ts, gD_fs, slotO_some, addTr_nil, addTr_cons, memQ_nil, memQ_cons, clash_nil, clash_cons, regC_none, regC_nil, regC_cons, regR_nil, regR_cons, Int.toNat_zero, Int.toNat_one, rng0, rng1, rng2, rng3, rng4, SC.take, SC.drop, mp_nil, acond_ct, acond_cf, mp_one0, mp_one1, mp_one2, mp_one3, kcall_one, liveB_row, liveB_box, idx, cont, still, dies, lend, lendA, lendDies, snocs, SC.snoc, SC.app, meet, AV.cells, fillA, List.getD_cons_zero, List.getD_cons_succ, List.set_cons_zero, List.set_cons_succ, List.length_singleton, Nat.le_refl, Nat.lt_irrefl, Nat.reduceLT, Nat.reduceLeDiff, Option.map_some, Option.map_none, List.flatMap_nil, List.flatMap_cons, Nat.zero_add, BEq.rfl, sl3, ty3, un3, sl52, ty52, un52, sl59, ty59, un59, sl57, ty57, un57, sl5, ty5, un5, sl2, ty2, un2, sl21, ty21, un21, sl4, ty4, un4, sl9, un9, sl22, ty22, un22, ty30, sl30, ty33, sl33, inR64, inRu64, inRu32, gs_laws_FnExactKernelOf_16, at_laws_toIntS, lend_laws_toIntS, gs_laws_FnExactKernelOf_18, at_laws_eqIntS, lend_laws_eqIntS, gs_laws_FnExactKernelOf_21, at_spec_KernelOf, lend_spec_KernelOf, gs_laws_FnExactKernelOf_22, at_impl_KernelOf, lend_impl_KernelOf, Try.f5]
  refine ⟨fun _ => trivial, fun h => ?_⟩
  (repeat' (first | apply And.intro | intro _)) <;> first | (show ordB _ _ _ = true; kernel_rfl) | trivial | omega | (rename_i a b; exact absurd (a.symm.trans b) (by decide)) | (simp_all; done) | skip
def lend_laws_FnExactKernelOf : List Nat := []
def sp_laws_FnExactKernelOf : List AV → List Bx → (AV → List Bx → Prop) → Prop
  | [.sl none (.ints .i64 xs)], [], K => (∀ n ∈ xs, -9223372036854775808 ≤ n ∧ n ≤ 9223372036854775807) ∧ (xs.length ≤ 9223372036854775807) ∧ K (.bool true) []
  | _, _, _ => False
theorem at_laws_FnExactKernelOf {xs : List Int} {K : AV → List Bx → Prop} : sp_laws_FnExactKernelOf [.sl none (.ints .i64 xs)] [] K = ((∀ n ∈ xs, -9223372036854775808 ≤ n ∧ n ≤ 9223372036854775807) ∧ (xs.length ≤ 9223372036854775807) ∧ K (.bool true) []) := id rfl
theorem ok_laws_FnExactKernelOf : ∀ args giv K, sp_laws_FnExactKernelOf args giv K → ∃ r outs, ARuns Try.prog 5 args giv r outs ∧ K r outs := by
  intro args giv K hk
  unfold sp_laws_FnExactKernelOf at hk
  split at hk
  · obtain ⟨hp1, hp2, hk⟩ := hk; exact ⟨_, _, runs_laws_FnExactKernelOf _ hp1 hp2, hk⟩
  · exact hk.elim
end Go.Proofs.Ytlhpncpdocbebaa
